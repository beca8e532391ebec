/- CONTRACTS: search.Lines and search.Find. -/
import Derived.Test.YtlmnfhhmgfnbpaaD4
namespace Go.Proofs.Ytlmnfhhmgfnbpaa.E
open Go
def M0 : LM := ⟨[], false⟩
theorem f47_spec {y : Value} (hy : notAgg y = true) {J X : List (List Int) → PH → Prop} (hY : YieldOk y J X) {L : List Call} {B0 B1 : Nat} {a : Option Addr} {n c : Nat} {most : Int} {u0 u F : PH}
    (h0 : PH.cell u0 B0 0 = some (.slice a n c)) (h1 : PH.cell u0 B1 0 = some (.int .i64 most)) (hL : Sl Call.cells 13 u0 a n L) (he : Ext u0 u) (hap : Apart u0 F) (hF : Ext F u) (hJ : J [] F) (hm : most ≤ 1000000) :
    Spec Try.prog 47 #[y, .pointer (some ⟨B0, 0, none⟩), .pointer (some ⟨B1, 0, none⟩)] u fun _ u' => ∃ F', Ext u0 u' ∧ Ext F' u' ∧ Apart u0 F' ∧ ((n ≤ 7 ∧ 0 < most ∧ ∃ t left', Ends J X [] (goL L n [] M0) most left' F' t) ∨ (¬ (n ≤ 7 ∧ 0 < most) ∧ J [] F')) := by
  refine f47_of (hyield := hy) ?_
  unfold f47_V
  refine ⟨a, n, c, he.cell h0, fun h7 => ⟨most, he.cell h1, fun hp => ?_, fun hp => ?_⟩, fun h7 => ?_⟩
  rotate_left
  · have hp := of_decide_eq_false hp
    exact ⟨F, he, hF, hap, .inr ⟨fun h => hp h.2, hJ⟩⟩
  · have h7 := of_decide_eq_false h7
    exact ⟨F, he, hF, hap, .inr ⟨fun h => h7 (by omega), hJ⟩⟩
  have h7 := of_decide_eq_true h7
  have hp := of_decide_eq_true hp
  have hlen := hL.len
  have main : Spec Try.prog 49 #[] u fun v u11 => ∃ p, v = .pointer p ∧ Ext u0 u11 ∧ ∀ B, u11 B = none → Spec Try.prog 48 #[.pointer (some ⟨B, 0, none⟩), .pointer p, y] (PH.add u11 B (.cells #[.slice a n c, .slice none 0 0, .int .i64 most] 56)) fun v u15 => ∃ t, v = .bool t ∧ Ext u0 u15 ∧
      ∃ F', Ext u0 u15 ∧ Ext F' u15 ∧ Apart u0 F' ∧ ((n ≤ 7 ∧ 0 < most ∧ ∃ t left', Ends J X [] (goL L n [] M0) most left' F' t) ∨ (¬ (n ≤ 7 ∧ 0 < most) ∧ J [] F')) := by
    refine ((f49_spec u0).over he).use ?_
    rintro v u11 ⟨u0', ⟨p, rfl, hM, e00⟩, e0, out⟩
    refine ⟨p, rfl, e00.trans e0, fun B hB => ?_⟩
    have nF : ∀ k o, F k = some o → u11 k = some o ∧ u0' k = none := fun k o hk => out k o ((hap k).resolve_right fun h => by rw [h] at hk; cases hk) (hF k o hk)
    have S : Sk u0' (PH.add u11 B (.cells #[.slice a n c, .slice none 0 0, .int .i64 most] 56)) F B a n c [] most := by
      refine ⟨⟨none, 0, PH.add_eq _ _ _, Own.nil _ _, fun x h => by cases h⟩, e0.trans (Ext.add hB _), ?_, ?_, fun k => ?_, fun k o hk => Ext.add hB _ _ _ (nF k o hk).1⟩
      · cases h : u0' B with
        | none => rfl
        | some o => rw [e0 _ _ h] at hB; cases hB
      · cases h : F B with
        | none => rfl
        | some o => rw [(nF _ _ h).1] at hB; cases hB
      · cases hk : F k with
        | none => exact .inr rfl
        | some o => exact .inl (nF k o hk).2
    refine (f48_spec hy hY (L := L) (by omega) n (P := []) (d := []) (M := M0) (by simp; omega) S (hL.ext e00) hM (by simp [M0]; omega) hJ (by omega) hm).use ?_
    rintro v u15 ⟨t, F', left', rfl, S', hE⟩
    have ex : Ext u0 u15 := e00.trans S'.e0
    refine ⟨t, rfl, ex, F', ex, S'.eF, fun k => ?_, .inl ⟨by omega, hp, t, left', hE⟩⟩
    rcases S'.ap k with h | h
    · cases h0 : u0 k with
      | none => exact .inl rfl
      | some o => rw [e00 _ _ h0] at h; cases h
    · exact .inr h
  refine ⟨u0, he, a, n, c, h0, most, h1, ⟨he, main.use ?_⟩, main.use ?_⟩
  · rintro v u11 ⟨p, rfl, e1, h⟩
    refine ⟨p, rfl, e1, fun B hB => (h B hB).use ?_⟩
    rintro v u15 ⟨t, rfl, e2, h⟩
    exact ⟨t, rfl, e2, h⟩
  · rintro v u11 ⟨p, rfl, e1, h⟩
    refine ⟨p, rfl, e1, e1, fun B hB => (h B hB).use ?_⟩
    rintro v u15 ⟨t, rfl, e2, h⟩
    exact ⟨t, rfl, e2, h⟩
theorem f27_spec {a : Option Addr} {n c : Nat} {most : Int} (u : PH) : Spec Try.prog 27 #[.slice a n c, .int .i64 most] u fun v u' => ∃ B1 B2, u B1 = none ∧ u B2 = none ∧ v = .func (.func 47) #[] #[.pointer (some ⟨B1, 0, none⟩), .pointer (some ⟨B2, 0, none⟩)] ∧ Ext u u' ∧
    PH.cell u' B1 0 = some (.slice a n c) ∧ PH.cell u' B2 0 = some (.int .i64 most) := by
  refine f27_of ?_
  unfold f27_V
  intro B1 h1 B2 h2
  obtain ⟨hne, h2'⟩ := add_none h2
  refine ⟨B1, B2, h1, h2', rfl, (Ext.add h1 _).trans (Ext.add h2 _), ?_, ?_⟩
  · rw [PH.cell_of_eq (PH.add_ne hne.symm), PH.cell_eq (PH.add_eq _ _ _)]; rfl
  · rw [PH.cell_eq (PH.add_eq _ _ _)]; rfl
theorem e47 : entersB Try.prog 47 = true := by kernel_rfl
/-- what 'Find' finds -/
def found (L : List Call) : Option (List Int) := if L.length ≤ 7 then (goL L L.length [] M0).head? else none
def Finds (u' : PH) (v : Value) : Option (List Int) → Prop
  | none => v = .tuple #[.slice none 0 0, .bool false]
  | some q => ∃ a m c, v = .tuple #[.slice a m c, .bool true] ∧ Sl encI 1 u' a m q
theorem f23_spec {u : PH} {a : Option Addr} {n c : Nat} {L : List Call} (hL : Sl Call.cells 13 u a n L) : Spec Try.prog 23 #[.slice a n c] u fun v u' => Ext u u' ∧ Finds u' v (found L) := by
  refine f23_of ?_
  unfold f23_V
  refine (f27_spec u).use ?_
  rintro v u2 ⟨C1, C2, hc1, hc2, rfl, e2, hq1, hq2⟩
  refine ⟨_, rfl, rfl, fun B5 h5 B6 h6 => ⟨trivial, fun L7 O8 O9 O10 O11 hL7 hyd => ?_⟩⟩
  obtain ⟨n65, h6u⟩ := add_none h6
  obtain ⟨n76, h7⟩ := add_none hL7
  obtain ⟨n75, h7u⟩ := add_none h7
  have hlen := hL.len
  refine ⟨47, _, rfl, e47, ?_⟩
  -- the memory of the loop
  obtain ⟨F0, hF0⟩ : ∃ F0 : PH, F0 = fun k => if k = L7 then some O8 else if k = B6 then some (.cells #[.slice none 0 0] 35) else if k = B5 then some (.cells #[.bool false] 4) else none := ⟨_, rfl⟩
  have F07 : F0 L7 = some O8 := by rw [hF0]; simp
  have F06 : F0 B6 = some (.cells #[.slice none 0 0] 35) := by rw [hF0]; simp [n76.symm]
  have F05 : F0 B5 = some (.cells #[.bool false] 4) := by rw [hF0]; simp [n75.symm, n65.symm]
  have F0n : ∀ k, k ≠ L7 → k ≠ B6 → k ≠ B5 → F0 k = none := fun k h1 h2 h3 => by rw [hF0]; simp [h1, h2, h3]
  clear hF0
  let X : List (List Int) → PH → Prop := fun d F => ∃ q a m c, d = [q] ∧ F L7 = some O10 ∧ F B6 = some (.cells #[.slice a m c] 35) ∧ F B5 = some (.cells #[.bool true] 4) ∧ (∀ x, a = some x → x.block ≠ L7) ∧ Sl encI 1 F a m q
  have hY : YieldOk (.func (.yield L7) #[] #[]) (fun d F => d = [] ∧ F = F0) X := ⟨by
    rintro d F u1 q a n c ⟨rfl, rfl⟩ hE hS hfr
    have k6 : u1 B6 = some (.cells #[.slice none 0 0] 35) := hE _ _ F06
    have k5 : u1 B5 = some (.cells #[.bool false] 4) := hE _ _ F05
    have a6 : (PH.add u1 L7 O9) B6 = some (.cells #[.slice none 0 0] 35) := by rw [PH.add_ne n76.symm]; exact k6
    have a5 : (PH.write (PH.add u1 L7 O9) B6 0 [.slice a n c]) B5 = some (.cells #[.bool false] 4) := by rw [PH.write_ne n65.symm, PH.add_ne n75.symm]; exact k5
    have a6' : (PH.write (PH.add u1 L7 O9) B6 0 [.slice a n c]) B6 = some (.cells #[.slice a n c] 35) := by rw [PH.write_one a6]; rfl
    have keep : ∀ k, k ≠ L7 → k ≠ B6 → k ≠ B5 → (PH.add (PH.write (PH.write (PH.add u1 L7 O9) B6 0 [.slice a n c]) B5 0 [.bool true]) L7 O10) k = u1 k := fun k e1 e2 e3 => by rw [PH.add_ne e1, PH.write_ne e3, PH.write_ne e2, PH.add_ne e1]
    refine hyd _ u1 _ ⟨hE _ _ F07, a, n, c, rfl, hE _ _ F07, ⟨_, _, 0, 0, a6, by simp, fun j _ => by omega⟩, ⟨_, _, 0, 0, a5, by simp, fun j _ => by omega⟩, by rw [PH.write_ne n75, PH.write_ne n76, PH.add_eq], ?_⟩
    have hblk : ∀ x, a = some x → x.block ≠ L7 ∧ x.block ≠ B6 ∧ x.block ≠ B5 := fun x hx => ⟨fun e => (by have := hfr x hx; rw [e, F07] at this; cases this), fun e => (by have := hfr x hx; rw [e, F06] at this; cases this), fun e => (by have := hfr x hx; rw [e, F05] at this; cases this)⟩
    obtain ⟨F', hF'⟩ : ∃ F' : PH, F' = fun k => if k = L7 then some O10 else if k = B6 then some (.cells #[.slice a n c] 35) else if k = B5 then some (.cells #[.bool true] 4) else a.elim none fun x => if k = x.block then u1 k else none := ⟨_, rfl⟩
    have g7 : F' L7 = some O10 := by rw [hF']; simp
    have g6 : F' B6 = some (.cells #[.slice a n c] 35) := by rw [hF']; simp [n76.symm]
    have g5 : F' B5 = some (.cells #[.bool true] 4) := by rw [hF']; simp [n75.symm, n65.symm]
    have gx : ∀ x, a = some x → F' x.block = u1 x.block := fun x hx => by
      obtain ⟨h1, h2, h3⟩ := hblk x hx
      rw [hF']; simp [h1, h2, h3, hx]
    have gn : ∀ k, k ≠ L7 → k ≠ B6 → k ≠ B5 → (∀ x, a = some x → k ≠ x.block) → F' k = none := fun k h1 h2 h3 h4 => by
      rw [hF']
      cases ha : a with
      | none => simp [h1, h2, h3]
      | some x => simp [h1, h2, h3, h4 x ha]
    clear hF'
    refine ⟨false, F', rfl, fun k o h1 h2 => ?_, fun k o hk => ?_, fun k hk => ?_, fun h => (by cases h), fun _ => ⟨q, a, n, c, rfl, g7, g6, g5, fun x hx => (hblk x hx).1, hS.len, fun i x hx => ?_⟩⟩
    · rw [keep k (fun e => by subst e; rw [F07] at h1; cases h1) (fun e => by subst e; rw [F06] at h1; cases h1) (fun e => by subst e; rw [F05] at h1; cases h1)]; exact h2
    · by_cases e7 : k = L7
      · subst e7; rw [PH.add_eq]; rw [g7] at hk; exact hk
      · rw [PH.add_ne e7]
        by_cases e5 : k = B5
        · subst e5; rw [PH.write_one a5]; rw [g5] at hk; exact hk
        · rw [PH.write_ne e5]
          by_cases e6 : k = B6
          · subst e6; rw [a6']; rw [g6] at hk; exact hk
          · rw [PH.write_ne e6, PH.add_ne e7]
            by_cases ex : ∃ x, a = some x ∧ k = x.block
            · obtain ⟨x, hx, rfl⟩ := ex
              rw [gx x hx] at hk; exact hk
            · rw [gn k e7 e6 e5 fun x hx e => ex ⟨x, hx, e⟩] at hk; cases hk
    · by_cases e7 : k = L7
      · subst e7; exact .inl (by rw [F07]; simp)
      · by_cases e6 : k = B6
        · subst e6; exact .inl (by rw [F06]; simp)
        · by_cases e5 : k = B5
          · subst e5; exact .inl (by rw [F05]; simp)
          · by_cases ex : ∃ x, a = some x ∧ k = x.block
            · exact .inr (.inr ex)
            · exact (hk (gn k e7 e6 e5 fun x hx e => ex ⟨x, hx, e⟩)).elim
    · obtain ⟨b, o, q1, q2⟩ := hS.get i x hx
      refine ⟨b, o, q1, fun j y hj => ?_⟩
      rw [PH.cell_of_eq (gx _ q1)]; exact q2 j y hj⟩
  have hap : Apart u2 F0 := fun k => by
    by_cases e7 : k = L7
    · subst e7; exact .inl h7u
    · by_cases e6 : k = B6
      · subst e6; exact .inl h6u
      · by_cases e5 : k = B5
        · subst e5; exact .inl h5
        · exact .inr (F0n k e7 e6 e5)
  have hE0 : Ext F0 (PH.add (PH.add (PH.add u2 B5 (.cells #[.bool false] 4)) B6 (.cells #[.slice none 0 0] 35)) L7 O8) := fun k o hk => by
    by_cases e7 : k = L7
    · subst e7; rw [PH.add_eq, ← F07, hk]
    · rw [PH.add_ne e7]
      by_cases e6 : k = B6
      · subst e6; rw [PH.add_eq, ← F06, hk]
      · rw [PH.add_ne e6]
        by_cases e5 : k = B5
        · subst e5; rw [PH.add_eq, ← F05, hk]
        · rw [F0n k e7 e6 e5] at hk; cases hk
  refine (f47_spec rfl hY hq1 hq2 (hL.ext e2) ((Ext.add h5 _).trans ((Ext.add h6 _).trans (Ext.add hL7 _))) hap hE0 ⟨rfl, rfl⟩ (by omega)).use ?_
  rintro _ u18 ⟨F', e0, eF, ap, hend⟩
  have ku : ∀ k o, u k = some o → k ≠ L7 ∧ k ≠ B6 ∧ k ≠ B5 ∧ u18 k = some o := fun k o hk => by
    have := e2 k o hk
    exact ⟨fun e => (by subst e; rw [h7u] at this; cases this), fun e => (by subst e; rw [h6u] at this; cases this), fun e => (by subst e; rw [h5] at this; cases this), e0 k o this⟩
  -- nothing found
  have none1 : F' = F0 → found L = none → (u18 L7 = some O8 ∧ PH.free (PH.del u18 L7) B6 0 1 ∧ PH.free (PH.write (PH.del u18 L7) B6 0 [.slice none 0 0]) B5 0 1 ∧
      ∃ (a19 : Option Addr) (l20 c21 : Nat), PH.cell (PH.write (PH.write (PH.del u18 L7) B6 0 [.slice none 0 0]) B5 0 [.bool false]) B6 0 = some (.slice a19 l20 c21) ∧
      ∃ b22 : Bool, PH.cell (PH.write (PH.write (PH.del u18 L7) B6 0 [.slice none 0 0]) B5 0 [.bool false]) B5 0 = some (.bool b22) ∧
      (Ext u (PH.write (PH.write (PH.del u18 L7) B6 0 [.slice none 0 0]) B5 0 [.bool false]) ∧ Finds (PH.write (PH.write (PH.del u18 L7) B6 0 [.slice none 0 0]) B5 0 [.bool false]) (.tuple #[.slice a19 l20 c21, .bool b22]) (found L))) := by
    rintro rfl hfd
    have k6 : (PH.del u18 L7) B6 = some (.cells #[.slice none 0 0] 35) := by rw [PH.del_ne n76.symm]; exact eF _ _ F06
    have k5 : (PH.write (PH.del u18 L7) B6 0 [.slice none 0 0]) B5 = some (.cells #[.bool false] 4) := by rw [PH.write_ne n65.symm, PH.del_ne n75.symm]; exact eF _ _ F05
    refine ⟨eF _ _ F07, ⟨_, _, 0, 0, k6, by simp, fun j _ => by omega⟩, ⟨_, _, 0, 0, k5, by simp, fun j _ => by omega⟩, none, 0, 0, ?_, false, ?_, fun k o hk => ?_, ?_⟩
    · rw [PH.cell_of_eq (PH.write_ne n65), PH.cell_eq (PH.write_one k6)]; rfl
    · rw [PH.cell_eq (PH.write_one k5)]; rfl
    · obtain ⟨q1, q2, q3, q4⟩ := ku k o hk
      rw [PH.write_ne q3, PH.write_ne q2, PH.del_ne q1]; exact q4
    · rw [hfd]; rfl
  rcases hend with ⟨h7, _, t, left', ⟨rfl, ⟨hd, hFF⟩, _, _⟩ | ⟨rfl, ⟨pre, q, post, hls, hpl, hX⟩ | ⟨hle, hd, _⟩⟩⟩ | ⟨hno, _, hFF⟩
  · refine .inl (none1 hFF ?_)
    rw [found, hlen]
    simp only [List.nil_append] at hd
    rw [if_pos h7, hd]; rfl
  · obtain ⟨q', a, m, c, hq, g7, g6, g5, gb, gS⟩ := hX
    have hpre : pre = [] := by
      cases pre with
      | nil => rfl
      | cons x r => simp at hpl; omega
    subst hpre
    simp only [List.nil_append, List.cons.injEq, and_true] at hq hls
    subst hq
    refine .inr ⟨eF _ _ g7, a, m, c, ?_, true, ?_, fun k o hk => ?_, ?_⟩
    · rw [PH.cell_of_eq (PH.del_ne n76.symm), PH.cell_eq (eF _ _ g6)]; rfl
    · rw [PH.cell_of_eq (PH.del_ne n75.symm), PH.cell_eq (eF _ _ g5)]; rfl
    · obtain ⟨q1, q2, q3, q4⟩ := ku k o hk
      rw [PH.del_ne q1]; exact q4
    · rw [found, hlen, if_pos h7, hls]
      refine ⟨a, m, c, rfl, gS.len, fun i x hx => ?_⟩
      obtain ⟨b, o, q1, q2⟩ := gS.get i x hx
      refine ⟨b, o, q1, fun j y hj => ?_⟩
      have hb : b ≠ L7 := gb _ q1
      rw [PH.cell_of_eq (PH.del_ne hb)]; exact eF.cell (q2 j y hj)
  · simp only [List.nil_append] at hd
    have : (goL L n [] M0).take (1 : Int).toNat = [] := hd
    rw [List.take_eq_nil_iff] at this
    rcases this with h | h
    · exact absurd h (by decide)
    · rw [h] at hle; simp at hle
  · refine .inl (none1 hFF ?_)
    rw [found, hlen, if_neg (fun h => hno ⟨h, by omega⟩)]
end Go.Proofs.Ytlmnfhhmgfnbpaa.E
