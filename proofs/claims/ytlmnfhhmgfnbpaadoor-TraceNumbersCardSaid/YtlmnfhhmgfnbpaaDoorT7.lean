/- CONTRACTS: prog.Bare, prog.Right. -/
import Derived.Test.YtlmnfhhmgfnbpaaDoorT6
namespace Go.Proofs.YtlmnfhhmgfnbpaaDoor.E
open Go Go.RowKit
theorem subA_block {a : Option Addr} {l c s : Nat} {x : Addr} (h : subA a l c s = some x) : ∃ y, a = some y ∧ x.block = y.block := by
  unfold subA at h
  split at h
  · exact ⟨x, h, rfl⟩
  · obtain ⟨y, hy, rfl⟩ := Option.map_eq_some_iff.1 h
    refine ⟨y, hy, ?_⟩
    unfold Addr.add
    split <;> rfl
/-- the first loop: the numbers are told -/
theorem tell {L B9 B4 : Nat} {O0 O1 : Obj} {op : Op} (nL9 : L ≠ B9) (nL4 : L ≠ B4) (n94 : B9 ≠ B4)
    (hyd : ∀ x19 : Value, ∀ (u17 : PH) (R18 : Value → PH → Prop),
      (u17 L = some O0 ∧ ∃ p20 : Option Addr, x19 = .pointer p20 ∧ u17 L = some O0 ∧ ∃ w21 : PH, Ext w21 (PH.add u17 L O1) ∧
        (∃ (a22 : Option Addr) (l23 c24 : Nat), PH.cell w21 B9 0 = some (.slice a22 l23 c24) ∧ ∃ b25 o26 : Nat, (p20 : Option Addr) = some ⟨b25, o26, none⟩ ∧ ∃ n27 : Int, PH.cell w21 b25 o26 = some (.int .i64 n27) ∧
          ∀ B28 : Nat, (PH.add u17 L O1) B28 = none → Ext w21 (PH.add (PH.add u17 L O1) B28 (.cells #[.int .i64 n27] 3)) ∧
            SemSpec Tryd.prog (Builtin.append_ #[48, 48] 48 #[.slice a22 l23 c24, .slice ((some ⟨B28, 0, none⟩)) 1 1]) (PH.add (PH.add u17 L O1) B28 (.cells #[.int .i64 n27] 3)) (fun v29 u30 =>
              ∃ (a31 : Option Addr) (l32 c33 : Nat), v29 = .slice a31 l32 c33 ∧ Ext w21 u30 ∧ PH.free u30 B9 0 1 ∧ (PH.write u30 B9 0 [.slice a31 l32 c33]) L = some O1 ∧ R18 (.bool true) (PH.add (PH.write u30 B9 0 [.slice a31 l32 c33]) L O0)))) →
      CallV Tryd.prog (.func (.yield L) #[] #[]) [x19] u17 R18) :
    YOk (.func (.yield L) #[] #[]) (fun i F => F L = some O0 ∧ F B4 = some (.cells op.cells.toArray 23) ∧ ∃ a c, F B9 = some (.cells #[.slice a i c] 48) ∧ Own encI 1 3 (fun k => if k = L ∨ k = B9 ∨ k = B4 then some O0 else none) F a i c ((numsL op).take i)) B4 (offsK op.kind) := by
  obtain ⟨hlen, hle4, hnum⟩ := offs_nums op
  refine ⟨?_⟩
  rintro i F u1 p hp ⟨hL, h4, a, c, h9, hO⟩ hE
  have hil : i < (offsK op.kind).length := (List.getElem?_eq_some_iff.1 hp).1
  have hx : (numsL op)[i]? = some ((numsL op)[i]'(by omega)) := List.getElem?_eq_getElem (by omega)
  obtain ⟨hcell, hp5⟩ := hnum i p _ hp hx
  obtain ⟨x, hxe⟩ : ∃ x, x = (numsL op)[i]'(by omega) := ⟨_, rfl⟩
  rw [← hxe] at hx hcell
  clear hxe
  have k4 : u1 B4 = some (.cells op.cells.toArray 23) := hE _ _ h4
  have k9 : u1 B9 = some (.cells #[.slice a i c] 48) := hE _ _ h9
  have hrow : ∀ y, a = some y → y.block ≠ L ∧ y.block ≠ B9 ∧ y.block ≠ B4 ∧ F y.block ≠ none := fun y hy => by
    rcases hO.row with ⟨h, _⟩ | ⟨b, cs, h1, h2, h3, _⟩
    · rw [h] at hy; cases hy
    · rw [h1] at hy; cases hy
      split at h2
      · cases h2
      · rename_i hn
        exact ⟨fun e => hn (.inl e), fun e => hn (.inr (.inl e)), fun e => hn (.inr (.inr e)), by rw [h3]; simp⟩
  refine hyd _ u1 _ ⟨hE _ _ hL, _, rfl, hE _ _ hL, fun k => if k = B9 ∨ k = B4 then u1 k else none, fun k o hk => ?_, a, i, c, ?_, B4, p, rfl, x, ?_, fun B28 h28 => ⟨fun k o hk => ?_, ?_⟩⟩
  · simp only at hk
    split at hk
    · rename_i h
      rw [PH.add_ne (fun e => by subst e; rcases h with h | h <;> contradiction)]; exact hk
    · cases hk
  · have : (fun k => if k = B9 ∨ k = B4 then u1 k else none : PH) B9 = some (.cells #[.slice a i c] 48) := by simp [k9]
    rw [PH.cell_eq this]; rfl
  · have : (fun k => if k = B9 ∨ k = B4 then u1 k else none : PH) B4 = some (.cells op.cells.toArray 23) := by simp [k4]
    rw [PH.cell_eq this, List.getElem?_toArray]; exact hcell
  · simp only at hk
    split at hk
    · rename_i h
      refine Ext.add h28 _ _ _ ?_
      rw [PH.add_ne (fun e => by subst e; rcases h with h | h <;> contradiction)]; exact hk
    · cases hk
  obtain ⟨h28L, h28u⟩ := add_none h28
  obtain ⟨D', hD'⟩ : ∃ D' : PH, D' = fun k => if ∃ y, a = some y ∧ k = y.block then none else (PH.add u1 L O1) k := ⟨_, rfl⟩
  have D1 : ∀ k, (∀ y, a = some y → k ≠ y.block) → D' k = (PH.add u1 L O1) k := fun k h => by
    rw [hD']; simp only
    rw [if_neg (fun ⟨y, h1, h2⟩ => h y h1 h2)]
  have D2 : ∀ k, D' k = none → (∃ y, a = some y ∧ k = y.block) ∨ (PH.add u1 L O1) k = none := fun k h => by
    by_cases hh : ∃ y, a = some y ∧ k = y.block
    · exact .inl hh
    · right; rw [← D1 k fun y h1 h2 => hh ⟨y, h1, h2⟩]; exact h
  have D3 : ∀ y, a = some y → D' y.block = none := fun y hy => by rw [hD']; simp only; rw [if_pos ⟨y, hy, rfl⟩]
  have eD : Ext D' (PH.add (PH.add u1 L O1) B28 (.cells #[.int .i64 x] 3)) := fun k o hk => by
    by_cases hh : ∃ y, a = some y ∧ k = y.block
    · obtain ⟨y, hy, rfl⟩ := hh; rw [D3 y hy] at hk; cases hk
    · rw [D1 k fun y h1 h2 => hh ⟨y, h1, h2⟩] at hk
      exact Ext.add h28 _ _ _ hk
  clear hD'
  have dL : D' L = some O1 := by rw [D1 L fun y hy e => (hrow y hy).1 e.symm, PH.add_eq]
  have d9 : D' B9 = some (.cells #[.slice a i c] 48) := by rw [D1 B9 fun y hy e => (hrow y hy).2.1 e.symm, PH.add_ne nL9.symm]; exact k9
  have d4 : D' B4 = some (.cells op.cells.toArray 23) := by rw [D1 B4 fun y hy e => (hrow y hy).2.2.1 e.symm, PH.add_ne nL4.symm]; exact k4
  have hO1 : Own encI 1 3 D' (PH.add (PH.add u1 L O1) B28 (.cells #[.int .i64 x] 3)) a i c ((numsL op).take i) := by
    refine ⟨hO.len, hO.le, hO.max, ?_⟩
    rcases hO.row with h | ⟨b, cs, h1, h2, h3, h4', h5⟩
    · exact .inl h
    · have hb := hrow _ h1
      have hu : u1 b = some (.cells cs 3 (0, 0)) := hE _ _ h3
      refine .inr ⟨b, cs, h1, D3 _ h1, ?_, h4', h5⟩
      refine Ext.add h28 _ _ _ ?_
      rw [PH.add_ne hb.1]; exact hu
  refine (app_ints hO1 ((Own.fresh (u := PH.add u1 L O1) h28 3 [x] encI_len (by unfold maxLen; simp)).sl encI_len) (by simp; omega) eD).use ?_
  rintro v u3 ⟨a', c', rfl, hO3, hE3, _⟩
  have k39 := hE3 _ _ d9
  obtain ⟨U, hU⟩ : ∃ U, U = PH.add (PH.write u3 B9 0 [.slice a' (i + 1) c']) L O0 := ⟨_, rfl⟩
  have U1 : ∀ k, k ≠ L → k ≠ B9 → U k = u3 k := fun k e1 e2 => by rw [hU, PH.add_ne e1, PH.write_ne e2]
  have U9 : U B9 = some (.cells #[.slice a' (i + 1) c'] 48) := by rw [hU, PH.add_ne nL9.symm, PH.write_one k39]; rfl
  have UL : U L = some O0 := by rw [hU, PH.add_eq]
  refine ⟨a', i + 1, c', rfl, fun k o hk => ?_, ⟨_, _, 0, 0, k39, by simp, fun j _ => by omega⟩, by rw [PH.write_ne nL9]; exact hE3 _ _ dL, ?_⟩
  · simp only at hk
    split at hk
    · rename_i h
      rcases h with rfl | rfl
      · rw [k9] at hk; cases hk; exact k39
      · rw [k4] at hk; cases hk; exact hE3 _ _ d4
    · cases hk
  rw [← hU]
  clear hU
  have hrow' : ∀ y, a' = some y → y.block ≠ L ∧ y.block ≠ B9 ∧ y.block ≠ B4 ∧ D' y.block = none := fun y hy => by
    rcases hO3.row with ⟨h, _⟩ | ⟨b, cs, h1, h2, h3, _⟩
    · rw [h] at hy; cases hy
    · rw [h1] at hy; cases hy
      exact ⟨fun (e : b = L) => (by rw [e, dL] at h2; cases h2), fun (e : b = B9) => (by rw [e, d9] at h2; cases h2), fun (e : b = B4) => (by rw [e, d4] at h2; cases h2), h2⟩
  refine ⟨rfl, fun k => if k = L ∨ k = B9 ∨ k = B4 ∨ (∃ y, a' = some y ∧ k = y.block) then U k else none, ⟨?_, ?_, a', c', ?_, ?_⟩, fun k o hk => ?_, fun k o hk h1 => ?_, fun k hk => ?_⟩
  · simp [UL]
  · simp only [or_true, true_or, if_true]
    rw [U1 _ nL4.symm n94.symm]; exact hE3 _ _ d4
  · simp only [or_true, true_or, if_true]; exact U9
  · refine ⟨?_, hO3.le, hO3.max, ?_⟩
    · have := hO3.len
      rw [List.length_append] at this
      rw [List.length_take]; omega
    · have htk : (numsL op).take (i + 1) = (numsL op).take i ++ [x] := by rw [List.take_add_one, hx]; rfl
      rw [htk]
      rcases hO3.row with h | ⟨b, cs, h1, h2, h3, h4', h5⟩
      · exact .inl h
      · obtain ⟨e1, e2, e3, _⟩ := hrow' _ h1
        refine .inr ⟨b, cs, h1, ?_, ?_, h4', h5⟩
        · rw [if_neg]
          rintro (h | h | h)
          · exact e1 h
          · exact e2 h
          · exact e3 h
        · rw [if_pos (.inr (.inr (.inr ⟨_, h1, rfl⟩))), U1 _ e1 e2]; exact h3
  · simp only at hk
    split at hk
    · exact hk
    · cases hk
  · have e1 : k ≠ L := fun e => by subst e; rw [hL] at hk; cases hk
    have e2 : k ≠ B9 := fun e => by subst e; rw [h9] at hk; cases hk
    rw [U1 _ e1 e2]
    refine hE3 _ _ ?_
    rw [D1 k fun y hy e => by subst e; exact (hrow y hy).2.2.2 hk, PH.add_ne e1]; exact h1
  · simp only at hk
    split at hk
    · rename_i h
      rcases h with rfl | rfl | rfl | ⟨y, hy, rfl⟩
      · exact .inl (by rw [hL]; simp)
      · exact .inl (by rw [h9]; simp)
      · exact .inl (by rw [h4]; simp)
      · obtain ⟨e1, e2, e3, e4⟩ := hrow' y hy
        rcases D2 _ e4 with ⟨z, hz, he⟩ | h
        · exact .inl (by rw [he]; exact (hrow z hz).2.2.2)
        · rw [PH.add_ne e1] at h; exact .inr h
    · exact (hk rfl).elim
/-- the second loop: the numbers are written -/
theorem writ {L B9 B10 : Nat} {O0 O1 : Obj} {op : Op} (nL9 : L ≠ B9) (nL10 : L ≠ B10) (n910 : B9 ≠ B10)
    (hyd : ∀ x46 : Value, ∀ (u44 : PH) (R45 : Value → PH → Prop),
      (u44 L = some O0 ∧ ∃ p47 : Option Addr, x46 = .pointer p47 ∧ u44 L = some O0 ∧ ∃ w48 : PH, Ext w48 (PH.add u44 L O1) ∧
        (∃ (a49 : Option Addr) (l50 c51 : Nat), PH.cell w48 B9 0 = some (.slice a49 l50 c51) ∧ ∃ b52 o53 : Nat, (a49 : Option Addr) = some ⟨b52, o53, none⟩ ∧ ((0 : Int) ≤ 0 ∧ (0 : Int) < ((l50 : Nat) : Int)) ∧
          ∃ n54 : Int, PH.cell w48 b52 (o53 + (0 : Int).toNat * 1) = some (.int .i64 n54) ∧ ∃ (a55 : Option Addr) (l56 c57 : Nat), PH.cell w48 B9 0 = some (.slice a55 l56 c57) ∧ ((0 : Int) ≤ 1 ∧ (1 : Int) ≤ ((l56 : Nat) : Int) ∧ ((l56 : Nat) : Int) ≤ ((c57 : Nat) : Int)) ∧
          ∃ b58 o59 : Nat, (p47 : Option Addr) = some ⟨b58, o59, none⟩ ∧ PH.free (PH.add u44 L O1) b58 o59 1 ∧ Ext w48 (PH.write (PH.add u44 L O1) b58 o59 [.int .i64 n54]) ∧ PH.free (PH.write (PH.add u44 L O1) b58 o59 [.int .i64 n54]) B9 0 1 ∧
          (PH.write (PH.write (PH.add u44 L O1) b58 o59 [.int .i64 n54]) B9 0 [.slice ((subA a55 (1 : Int).toNat c57 1)) (((((l56 : Nat) : Int) : Int).toNat - (1 : Int).toNat)) ((c57 - (1 : Int).toNat))]) L = some O1 ∧
          R45 (.bool true) (PH.add (PH.write (PH.write (PH.add u44 L O1) b58 o59 [.int .i64 n54]) B9 0 [.slice ((subA a55 (1 : Int).toNat c57 1)) (((((l56 : Nat) : Int) : Int).toNat - (1 : Int).toNat)) ((c57 - (1 : Int).toNat))]) L O0))) →
      CallV Tryd.prog (.func (.yield L) #[] #[]) [x46] u44 R45) :
    YOk (.func (.yield L) #[] #[]) (fun i F => F L = some O0 ∧ F B10 = some (.cells (outA op i) 23) ∧ ∃ a l c, F B9 = some (.cells #[.slice a l c] 48) ∧ l ≤ c ∧ Sl encI 1 F a l ((numsL op).drop i) ∧ ∀ y, a = some y → y.block ≠ L ∧ y.block ≠ B9 ∧ y.block ≠ B10) B10 (offsK op.kind) := by
  obtain ⟨hlen, hle4, hnum⟩ := offs_nums op
  refine ⟨?_⟩
  rintro i F u1 p hp ⟨hL, h10, a, l, c, h9, hlc, hS, hrow⟩ hE
  have hil : i < (offsK op.kind).length := (List.getElem?_eq_some_iff.1 hp).1
  have hx : (numsL op)[i]? = some ((numsL op)[i]'(by omega)) := List.getElem?_eq_getElem (by omega)
  obtain ⟨hcell, hp5⟩ := hnum i p _ hp hx
  obtain ⟨x, hxe⟩ : ∃ x, x = (numsL op)[i]'(by omega) := ⟨_, rfl⟩
  rw [← hxe] at hx hcell
  clear hxe
  have hSl := hS.len
  rw [List.length_drop] at hSl
  have k10 : u1 B10 = some (.cells (outA op i) 23) := hE _ _ h10
  have k9 : u1 B9 = some (.cells #[.slice a l c] 48) := hE _ _ h9
  have hd0 : ((numsL op).drop i)[0]? = some x := by rw [List.getElem?_drop, Nat.add_zero]; exact hx
  obtain ⟨b, o, rfl, hc⟩ := hS.get 0 x hd0
  obtain ⟨e1, e2, e3⟩ := hrow _ rfl
  obtain ⟨w, hw⟩ : ∃ w : PH, w = fun k => if k = B10 ∨ k = L then none else u1 k := ⟨_, rfl⟩
  have w1 : ∀ k, k ≠ B10 → k ≠ L → w k = u1 k := fun k g1 g2 => by rw [hw]; simp [g1, g2]
  have w2 : ∀ k o, w k = some o → k ≠ B10 ∧ k ≠ L ∧ u1 k = some o := fun k o hk => by
    rw [hw] at hk
    simp only at hk
    split at hk
    · cases hk
    · rename_i h
      exact ⟨fun e => h (.inl e), fun e => h (.inr e), hk⟩
  clear hw
  have w9 : PH.cell w B9 0 = some (.slice (some ⟨b, o, none⟩) l c) := by rw [PH.cell_of_eq (w1 _ n910 nL9.symm), PH.cell_eq k9]; rfl
  have a10 : (PH.add u1 L O1) B10 = some (.cells (outA op i) 23) := by rw [PH.add_ne nL10.symm]; exact k10
  have a9 : (PH.write (PH.add u1 L O1) B10 p [.int .i64 x]) B9 = some (.cells #[.slice (some ⟨b, o, none⟩) l c] 48) := by rw [PH.write_ne n910, PH.add_ne nL9.symm]; exact k9
  refine hyd _ u1 _ ⟨hE _ _ hL, _, rfl, hE _ _ hL, w, fun k o hk => ?_, _, l, c, w9, b, o, rfl, by omega, x, ?_, _, l, c, w9, by omega, B10, p, rfl, ⟨_, _, 0, 0, a10, by rw [outA_size]; omega, fun j _ => by omega⟩, fun k o hk => ?_, ⟨_, _, 0, 0, a9, by simp, fun j _ => by omega⟩, by rw [PH.write_ne nL9, PH.write_ne nL10, PH.add_eq], ?_⟩
  · obtain ⟨g1, g2, g3⟩ := w2 k o hk
    rw [PH.add_ne g2]; exact g3
  · rw [PH.cell_of_eq (w1 _ e3 e1)]
    have := hc 0 _ rfl
    simp only [Nat.zero_mul, Nat.add_zero] at this
    exact hE.cell this
  · obtain ⟨g1, g2, g3⟩ := w2 k o hk
    rw [PH.write_ne g1, PH.add_ne g2]; exact g3
  have hsub := hS.sub (i := 1) (j := l) (c := c) (by omega) (Nat.le_refl _) hlc
  obtain ⟨U, hU⟩ : ∃ U, U = PH.add (PH.write (PH.write (PH.add u1 L O1) B10 p [.int .i64 x]) B9 0 [.slice (subA (some ⟨b, o, none⟩) (1 : Int).toNat c 1) ((((l : Nat) : Int)).toNat - (1 : Int).toNat) (c - (1 : Int).toNat)]) L O0 := ⟨_, rfl⟩
  have U1 : ∀ k, k ≠ L → k ≠ B9 → k ≠ B10 → U k = u1 k := fun k g1 g2 g3 => by rw [hU, PH.add_ne g1, PH.write_ne g2, PH.write_ne g3, PH.add_ne g1]
  have U9 : U B9 = some (.cells #[.slice (subA (some ⟨b, o, none⟩) 1 c 1) (l - 1) (c - 1)] 48) := by rw [hU, PH.add_ne nL9.symm, PH.write_one a9]; rfl
  have U10 : U B10 = some (.cells (outA op (i + 1)) 23) := by
    rw [hU, PH.add_ne nL10.symm, PH.write_ne n910.symm, PH.write_one a10, outA_step hp hx]
  have UL : U L = some O0 := by rw [hU, PH.add_eq]
  rw [← hU]
  clear hU
  obtain ⟨F', hF'⟩ : ∃ F' : PH, F' = fun k => if k = L ∨ k = B9 ∨ k = B10 then U k else F k := ⟨_, rfl⟩
  have f1 : ∀ k, (k = L ∨ k = B9 ∨ k = B10) → F' k = U k := fun k h => by rw [hF']; simp only; rw [if_pos h]
  have f2 : ∀ k, ¬ (k = L ∨ k = B9 ∨ k = B10) → F' k = F k := fun k h => by rw [hF']; simp only; rw [if_neg h]
  clear hF'
  refine ⟨rfl, F', ⟨by rw [f1 _ (.inl rfl)]; exact UL, by rw [f1 _ (.inr (.inr rfl))]; exact U10, subA (some ⟨b, o, none⟩) 1 c 1, l - 1, c - 1, by rw [f1 _ (.inr (.inl rfl))]; exact U9, by omega, ?_, fun y hy => ?_⟩, fun k o hk => ?_, fun k o' hk h1 => ?_, fun k hk => ?_⟩
  · have hdr : (((numsL op).drop i).drop 1).take (l - 1) = (numsL op).drop (i + 1) := by
      rw [List.drop_drop, List.take_of_length_le (by rw [List.length_drop]; omega)]
    rw [hdr] at hsub
    refine ⟨hsub.len, fun j y hj => ?_⟩
    obtain ⟨b', o', g1, g2⟩ := hsub.get j y hj
    refine ⟨b', o', g1, fun q z hz => ?_⟩
    obtain ⟨y', hy', hb'⟩ := subA_block g1
    obtain ⟨m1, m2, m3⟩ := hrow _ hy'
    simp only at hb'
    rw [PH.cell_of_eq (f2 b' fun h => by rw [hb'] at h; exact h.elim m1 fun h => h.elim m2 m3)]
    exact g2 q z hz
  · obtain ⟨y', hy', hb'⟩ := subA_block hy
    rw [hb']; exact hrow _ hy'
  · by_cases h : k = L ∨ k = B9 ∨ k = B10
    · rw [f1 k h] at hk; exact hk
    · rw [f2 k h] at hk
      rw [U1 k (fun e => h (.inl e)) (fun e => h (.inr (.inl e))) (fun e => h (.inr (.inr e)))]
      exact hE _ _ hk
  · rw [U1 k (fun e => by subst e; rw [hL] at hk; cases hk) (fun e => by subst e; rw [h9] at hk; cases hk) (fun e => by subst e; rw [h10] at hk; cases hk)]; exact h1
  · by_cases h : k = L ∨ k = B9 ∨ k = B10
    · left
      rcases h with rfl | rfl | rfl
      · rw [hL]; simp
      · rw [h9]; simp
      · rw [h10]; simp
    · rw [f2 k h] at hk; exact .inl hk
end Go.Proofs.YtlmnfhhmgfnbpaaDoor.E
