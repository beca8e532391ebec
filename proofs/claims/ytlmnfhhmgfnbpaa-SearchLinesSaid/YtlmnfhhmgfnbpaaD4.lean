/- CONTRACTS: search: all lines, one behind the other. -/
import Derived.Test.YtlmnfhhmgfnbpaaD3
namespace Go.Proofs.Ytlmnfhhmgfnbpaa.E
open Go
/-- all lines that go on from P, the least one first -/
def goL (L : List Call) : Nat → List Int → LM → List (List Int)
  | 0, P, _ => [P]
  | f + 1, P, M => (List.range L.length).flatMap fun i => if mayB L P i = true then (match L[i]? with
    | some x => if M.may x = true then goL L f (P ++ [(i : Int)]) (M.next x) else []
    | none => []) else []
def step1 (L : List Call) (f : Nat) (P : List Int) (M : LM) (i : Nat) : List (List Int) := if mayB L P i = true then (match L[i]? with
    | some x => if M.may x = true then goL L f (P ++ [(i : Int)]) (M.next x) else []
    | none => []) else []
theorem goL_succ (L : List Call) (f : Nat) (P : List Int) (M : LM) : goL L (f + 1) P M = (List.range L.length).flatMap (step1 L f P M) := rfl
/-- of what the yields leave: F is the caller's memory, J F: they go on, X F: they do not -/
structure YieldOk (y : Value) (J X : List (List Int) → PH → Prop) : Prop where
  ok : ∀ (d : List (List Int)) (F u : PH) (q : List Int) (a : Option Addr) (n c : Nat), J d F → Ext F u → Sl encI 1 u a n q → (∀ x, a = some x → F x.block = none) →
    CallV Try.prog y [.slice a n c] u fun v u' => ∃ t F', v = .bool t ∧ (∀ k o, F k = none → u k = some o → u' k = some o) ∧ Ext F' u' ∧ (∀ k, F' k ≠ none → F k ≠ none ∨ u k = none ∨ ∃ x, a = some x ∧ k = x.block) ∧
      (t = true → J (d ++ [q]) F') ∧ (t = false → X (d ++ [q]) F')
/-- the seeker, between calls -/
structure Sk (u0 u F : PH) (sB : Nat) (a : Option Addr) (n c : Nat) (P : List Int) (left : Int) : Prop where
  ex : ∃ ao co, u sB = some (.cells #[.slice a n c, .slice ao P.length co, .int .i64 left] 56) ∧ Own encI 1 3 u0 u ao P.length co P ∧ ∀ x, ao = some x → F x.block = none
  e0 : Ext u0 u
  n0 : u0 sB = none
  nF : F sB = none
  ap : Apart u0 F
  eF : Ext F u
/-- how a search from P ends -/
def Ends (J X : List (List Int) → PH → Prop) (d ls : List (List Int)) (left left' : Int) (F' : PH) (t : Bool) : Prop :=
  (t = true ∧ J (d ++ ls) F' ∧ left' = left - ls.length ∧ 1 ≤ left') ∨
  (t = false ∧ ((∃ pre q post, ls = pre ++ q :: post ∧ pre.length < left ∧ X (d ++ pre ++ [q]) F') ∨ (left ≤ ls.length ∧ J (d ++ ls.take left.toNat) F')))
theorem Ends.nil {J X : List (List Int) → PH → Prop} {d : List (List Int)} {left : Int} {F : PH} (h : J d F) (hl : 1 ≤ left) : Ends J X d [] left left F true :=
  .inl ⟨rfl, by simpa using h, by simp, hl⟩
/-- one part goes on, then the next -/
theorem Ends.app {J X : List (List Int) → PH → Prop} {d l1 l2 : List (List Int)} {left left1 left2 : Int} {F1 F2 : PH} {t : Bool} (h1 : Ends J X d l1 left left1 F1 true) (h2 : Ends J X (d ++ l1) l2 left1 left2 F2 t) : Ends J X d (l1 ++ l2) left left2 F2 t := by
  rcases h1 with ⟨_, _, e1, e2⟩ | ⟨h, _⟩
  · rcases h2 with ⟨rfl, g1, g2, g3⟩ | ⟨rfl, ⟨pre, q, post, g1, g2, g3⟩ | ⟨g1, g2⟩⟩
    · exact .inl ⟨rfl, by rw [← List.append_assoc]; exact g1, by rw [List.length_append]; omega, g3⟩
    · exact .inr ⟨rfl, .inl ⟨l1 ++ pre, q, post, by rw [g1, List.append_assoc], by rw [List.length_append]; omega, by rw [← List.append_assoc] ; exact g3⟩⟩
    · refine .inr ⟨rfl, .inr ⟨by rw [List.length_append]; omega, ?_⟩⟩
      have : (l1 ++ l2).take left.toNat = l1 ++ l2.take left1.toNat := by
        rw [List.take_append, List.take_of_length_le (by omega)]; congr 2; omega
      rw [this, ← List.append_assoc]; exact g2
  · cases h
/-- what ended, ended -/
theorem Ends.stop {J X : List (List Int) → PH → Prop} {d l1 l2 : List (List Int)} {left left1 : Int} {F1 : PH} (h1 : Ends J X d l1 left left1 F1 false) : Ends J X d (l1 ++ l2) left left1 F1 false := by
  rcases h1 with ⟨h, _⟩ | ⟨_, ⟨pre, q, post, g1, g2, g3⟩ | ⟨g1, g2⟩⟩
  · cases h
  · exact .inr ⟨rfl, .inl ⟨pre, q, post ++ l2, by rw [g1]; simp, g2, g3⟩⟩
  · exact .inr ⟨rfl, .inr ⟨by rw [List.length_append]; omega, by rw [List.take_append_of_le_length (by omega)]; exact g2⟩⟩
theorem Sk.over {u0 u0' u u' F : PH} {sB : Nat} {a : Option Addr} {n c : Nat} {P : List Int} {left : Int} (h : Sk u0 u F sB a n c P left) (he : Ext u0' u') (out : ∀ k o, u0 k = none → u k = some o → u' k = some o ∧ u0' k = none) : Sk u0' u' F sB a n c P left := by
  obtain ⟨⟨ao, co, hs, hO, hF⟩, e0, n0, nF, ap, eF⟩ := h
  have nu0 : ∀ k o, F k = some o → u0 k = none := fun k o hk => (ap k).resolve_right fun h => by rw [h] at hk; cases hk
  refine ⟨⟨ao, co, (out _ _ n0 hs).1, ⟨hO.len, hO.le, hO.max, ?_⟩, hF⟩, he, (out _ _ n0 hs).2, nF, fun k => ?_, fun k o hk => (out k o (nu0 k o hk) (eF k o hk)).1⟩
  · rcases hO.row with h | ⟨rb, cs, g1, g2, g3, g4, g5⟩
    · exact .inl h
    · exact .inr ⟨rb, cs, g1, (out _ _ g2 g3).2, (out _ _ g2 g3).1, g4, g5⟩
  · cases hk : F k with
    | none => exact .inr rfl
    | some o => exact .inl (out k o (nu0 k o hk) (eF k o hk)).2
theorem flat_take {α : Type} {enc : α → List Value} {k : Nat} (hk : ∀ x, (enc x).length = k) (m : Nat) : ∀ l : List α, (l.flatMap enc).take (m * k) = (l.take m).flatMap enc := by
  induction m with
  | zero => intro l; simp
  | succ m ih =>
    intro l
    cases l with
    | nil => simp
    | cons x r =>
      rw [List.flatMap_cons, List.take_succ_cons, List.flatMap_cons, ← ih r, Nat.add_mul, Nat.one_mul, Nat.add_comm, ← hk x, List.take_length_add_append]
theorem Own.pre {α : Type} {enc : α → List Value} {k : Nat} {e : TypeId} {u0 u : PH} {a : Option Addr} {n c m : Nat} {l : List α} (h : Own enc k e u0 u a n c l) (hk : ∀ x, (enc x).length = k) (hm : m ≤ n) : Own enc k e u0 u a m c (l.take m) := by
  refine ⟨by rw [List.length_take, h.len]; omega, Nat.le_trans hm h.le, h.max, ?_⟩
  rcases h.row with h1 | ⟨b, cs, h1, h2, h3, h4, h5⟩
  · exact .inl h1
  · refine .inr ⟨b, cs, h1, h2, h3, h4, ?_⟩
    rw [← flat_take hk, ← h5, List.take_take]
    congr 1
    have : m * k ≤ n * k := Nat.mul_le_mul_right k hm
    omega
theorem subA_zero (a : Option Addr) (c k : Nat) : subA a 0 c k = a := by
  unfold subA
  split
  · rfl
  · cases a with
    | none => rfl
    | some a => simp [Addr.add]
theorem len_next (M : LM) (x : Call) : (M.next x).L.length ≤ M.L.length + 1 := by
  unfold LM.next
  split
  · omega
  · split
    · exact len_insL _ _ _
    · split
      · have := len_delL x.op.key M.L; simp only []; omega
      · split
        · simp
        · split
          · simp
          · omega
theorem f48_spec {y : Value} (hy : notAgg y = true) {J X : List (List Int) → PH → Prop} (hY : YieldOk y J X) {L : List Call} (hL7 : L.length ≤ 7) {sB : Nat} {a : Option Addr} {n c : Nat} :
    ∀ (f : Nat) {u0 u F : PH} {P : List Int} {left : Int} {d : List (List Int)} {m : Option Addr} {M : LM}, P.length + f = L.length → Sk u0 u F sB a n c P left → Sl Call.cells 13 u0 a n L → MapAt u0 m M → M.L.length + f ≤ 100 → J d F → 1 ≤ left → left ≤ 1000000 →
    Spec Try.prog 48 #[.pointer (some ⟨sB, 0, none⟩), .pointer m, y] u fun v u' => ∃ t F' left', v = .bool t ∧ Sk u0 u' F' sB a n c P left' ∧ Ends J X d (goL L f P M) left left' F' t := by
  intro f
  induction f with
  | zero =>
    intro u0 u F P left d m M hf hS hL hM hsz hJ hl1 hl2
    have hlen := hL.len
    obtain ⟨⟨ao, co, hs, hO, hF⟩, e0, n0, nF, ap, eF⟩ := hS
    refine f48_of (hx2 := hy) ?_
    unfold f48_V
    have hPn : P.length = n := by omega
    refine ⟨sB, 0, rfl, ao, P.length, co, by rw [PH.cell_eq hs]; rfl, sB, 0, rfl, a, n, c, by rw [PH.cell_eq hs]; rfl, fun _ => ?_, fun h => by rw [hPn] at h; simp at h⟩
    refine ⟨sB, 0, rfl, left, by rw [PH.cell_eq hs]; rfl, sB, 0, rfl, ⟨_, _, 0, 0, hs, by simp, fun j _ => by omega⟩, sB, 0, rfl, ?_⟩
    rw [wrap_i64 (x := left - 1) (by omega) (by omega)]
    obtain ⟨u1, hu1⟩ : ∃ u1, u1 = PH.write u sB (0 + 2) [.int .i64 (left - 1)] := ⟨_, rfl⟩
    rw [← hu1]
    have hs1 : u1 sB = some (.cells #[.slice a n c, .slice ao P.length co, .int .i64 (left - 1)] 56) := by rw [hu1, PH.write_one hs]; rfl
    have hne1 : ∀ k, k ≠ sB → u1 k = u k := fun k hk => by rw [hu1, PH.write_ne hk]
    have e01 : Ext u0 u1 := fun k o hk => by rw [hne1 k (fun e => by subst e; rw [n0] at hk; cases hk)]; exact e0 k o hk
    have eF1 : Ext F u1 := fun k o hk => by rw [hne1 k (fun e => by subst e; rw [nF] at hk; cases hk)]; exact eF k o hk
    have hO1 : Own encI 1 3 u0 u1 ao P.length co P := ⟨hO.len, hO.le, hO.max, by
      rcases hO.row with h | ⟨rb, cs, g1, g2, g3, g4, g5⟩
      · exact .inl h
      · exact .inr ⟨rb, cs, g1, g2, by rw [hne1 rb (fun e => by subst e; rw [hs] at g3; cases g3)]; exact g3, g4, g5⟩⟩
    clear hu1
    refine ⟨ao, P.length, co, by rw [PH.cell_eq hs1]; rfl, (f60_spec (hO1.sl encI_len) (by omega) (fun h => by
      rcases hO.row with ⟨_, h2⟩ | ⟨rb, cs, g1, _⟩
      · have := hO.le; omega
      · rw [h] at g1; cases g1)).use ?_⟩
    rintro v u2 ⟨a', c', rfl, hO2, e12⟩
    have hfresh : ∀ x, a' = some x → u1 x.block = none := fun x hx => by
      rcases hO2.row with ⟨g, _⟩ | ⟨rb, cs, g1, g2, _⟩
      · rw [g] at hx; cases hx
      · rw [g1] at hx; cases hx; exact g2
    refine ⟨_, _, _, rfl, (hY.ok d F u2 P a' P.length c' hJ (eF1.trans e12) (hO2.sl encI_len) (fun x hx => by
      cases hFx : F x.block with
      | none => rfl
      | some o => have := eF1 _ _ hFx; rw [hfresh x hx] at this; cases this)).mono ?_⟩
    rintro v u3 ⟨t, F', rfl, keep, eF', dom, hJ', hX'⟩
    have old : ∀ k, u1 k ≠ none → F k = none → F' k = none := fun k h1 h2 => by
      cases hk : F' k with
      | none => rfl
      | some o =>
        rcases dom k (by rw [hk]; simp) with h | h | ⟨x, hx, rfl⟩
        · exact (h h2).elim
        · cases h1' : u1 k with
          | none => exact (h1 h1').elim
          | some o => rw [e12 k o h1'] at h; cases h
        · exact (h1 (hfresh x hx)).elim
    have e03 : Ext u0 u3 := fun k o hk => keep k o ((ap k).resolve_left fun h => by rw [h] at hk; cases hk) (e12 k o (e01 k o hk))
    have hs3 : u3 sB = some (.cells #[.slice a n c, .slice ao P.length co, .int .i64 (left - 1)] 56) := keep _ _ nF (e12 _ _ hs1)
    have S3 : Sk u0 u3 F' sB a n c P (left - 1) := by
      refine ⟨⟨ao, co, hs3, ⟨hO.len, hO.le, hO.max, ?_⟩, fun x hx => ?_⟩, e03, n0, old _ (by rw [hs1]; simp) nF, fun k => ?_, eF'⟩
      · rcases hO1.row with h | ⟨rb, cs, g1, g2, g3, g4, g5⟩
        · exact .inl h
        · exact .inr ⟨rb, cs, g1, g2, keep _ _ (hF _ g1) (e12 _ _ g3), g4, g5⟩
      · rcases hO1.row with ⟨h, _⟩ | ⟨rb, cs, g1, g2, g3, g4, g5⟩
        · rw [h] at hx; cases hx
        · rw [g1] at hx; cases hx
          exact old _ (by rw [g3]; simp) (hF _ g1)
      · cases h0 : u0 k with
        | none => exact .inl rfl
        | some o => exact .inr (old _ (by rw [e01 k o h0]; simp) ((ap k).resolve_left fun h => by rw [h] at h0; cases h0))
    refine ⟨t, rfl, fun ht => ?_, fun ht => ?_⟩
    · refine ⟨sB, 0, rfl, left - 1, by rw [PH.cell_eq hs3]; rfl, decide (left - 1 > 0), F', left - 1, rfl, S3, ?_⟩
      by_cases hg : left - 1 > 0
      · refine .inl ⟨by simpa using hg, by simpa [goL] using hJ' ht, by simp [goL], by omega⟩
      · refine .inr ⟨by simpa using hg, .inr ⟨by simp [goL]; omega, ?_⟩⟩
        have : left.toNat = 1 := by omega
        rw [this]; simpa [goL] using hJ' ht
    · exact ⟨false, F', left - 1, rfl, S3, .inr ⟨rfl, .inl ⟨[], P, [], by simp [goL], by simp; omega, by simpa using hX' ht⟩⟩⟩
  | succ f ih =>
    intro u0 u F P left d m M hf hS hL hM hsz hJ hl1 hl2
    have hlen := hL.len
    have hS' := hS
    obtain ⟨⟨ao, co, hs, hO, hF⟩, e0, n0, nF, ap, eF⟩ := hS'
    refine f48_of (hx2 := hy) ?_
    unfold f48_V
    have hPn : P.length + (f + 1) = n := by omega
    refine ⟨sB, 0, rfl, ao, P.length, co, by rw [PH.cell_eq hs]; rfl, sB, 0, rfl, a, n, c, by rw [PH.cell_eq hs]; rfl, fun h => ?_, fun _ => ?_⟩
    · have : (P.length : Int) = n := by simpa using h
      omega
    refine ⟨sB, 0, rfl, a, n, c, by rw [PH.cell_eq hs]; rfl, ?_⟩
    clear hs hO hF ao co
    refine ⟨fun _ i u' => ∃ (k : Nat) (F' : PH) (left' : Int), i = k ∧ k ≤ n ∧ Sk u0 u' F' sB a n c P left' ∧ Ends J X d ((List.range k).flatMap (step1 L f P M)) left left' F' true, fun _ i _ => n - i.toNat, ⟨0, F, left, rfl, by omega, hS, Ends.nil hJ hl1⟩, ?_⟩
    rintro z i u1 ⟨k, F1, left1, rfl, hk, hS1, hE1⟩
    have hl1' : 1 ≤ left1 ∧ left1 ≤ left := by
      rcases hE1 with ⟨_, _, h1, h2⟩ | ⟨h, _⟩
      · omega
      · cases h
    have hJ1 : J (d ++ (List.range k).flatMap (step1 L f P M)) F1 := by
      rcases hE1 with ⟨_, h, _, _⟩ | ⟨h, _⟩
      · exact h
      · cases h
    have hS1' := hS1
    obtain ⟨⟨ao, co, hs, hO, hF⟩, e0, n0, nF, ap, eF⟩ := hS1'
    refine ⟨fun hlt => ?_, fun hge => ?_⟩
    · have hlt := of_decide_eq_true hlt
      obtain ⟨x, hx⟩ := (hL.ext e0).idx (i := (k : Int)) (by omega) hlt
      have hx' : L[k]? = some x := by simpa using hx
      rw [wrap_i64 (x := (k : Int) + 1) (by omega) (by omega)]
      -- nothing from here
      have none1 : ∀ {u2 : PH}, Sk u0 u2 F1 sB a n c P left1 → step1 L f P M k = [] → ((∃ (k' : Nat) (F' : PH) (left' : Int), (k : Int) + 1 = k' ∧ k' ≤ n ∧ Sk u0 u2 F' sB a n c P left' ∧ Ends J X d ((List.range k').flatMap (step1 L f P M)) left left' F' true) ∧ n - ((k : Int) + 1).toNat < n - (k : Int).toNat) := fun h2 h => by
        refine ⟨⟨k + 1, F1, left1, by omega, by omega, h2, ?_⟩, by omega⟩
        rw [List.range_succ, List.flatMap_append]
        simpa [h] using hE1
      refine (hL.ext e0).call (by omega) hx fun b o _ => ((f61_spec hM).over e0).use ?_
      rintro v u2 ⟨u0', ⟨m', rfl, hM', e00, mb, rfl, hmb⟩, e02, out2⟩
      -- the heap behind the clone
      have S2 : Sk u0' u2 F1 sB a n c P left1 := hS1.over e02 out2
      have e0u2 : Ext u0 u2 := e00.trans e02
      refine ⟨_, rfl, ?_⟩
      have S2' := S2
      obtain ⟨⟨ao2, co2, hs2, hO2, hF2⟩, _, nsB', _, _, eF2⟩ := S2'
      have S2b : Sk u0 u2 F1 sB a n c P left1 := ⟨⟨ao2, co2, hs2, hO2.base e00, hF2⟩, e0u2, n0, nF, ap, eF2⟩
      refine (f62_spec hs2 (hL.ext e0u2) (hO2.sl encI_len) (by omega) (by omega) (by omega)).use ?_
      rintro v u3 ⟨rfl, rfl⟩
      refine ⟨_, rfl, fun hno => none1 S2b ?_, fun hyes => ?_⟩
      · have hno : mayB L P k = false := by simpa using hno
        simp [step1, hno]
      have hmay : mayB L P k = true := by simpa using hyes
      refine ((f63_spec hM' x (by omega)).over e02).use ?_
      rintro v u4 ⟨u0'', ⟨rfl, rest, hnx, hsame⟩, e04, out4⟩
      have S4 : Sk u0'' u4 F1 sB a n c P left1 := S2.over e04 out4
      have e00'' : Ext u0 u0'' := fun k o hk => rest k o (fun z hz e => by cases hz; simp only at e; subst e; rw [hmb] at hk; cases hk) (e00 k o hk)
      refine ⟨_, rfl, fun hno => ?_, fun hyes => ?_⟩
      · have hno : M.may x = false := by simpa using hno
        have S4' := S4
        obtain ⟨⟨ao4, co4, hs4, hO4, hF4⟩, _, _, _, _, eF4⟩ := S4'
        exact none1 ⟨⟨ao4, co4, hs4, hO4.base e00'', hF4⟩, e00''.trans e04, n0, nF, ap, eF4⟩ (by simp [step1, hmay, hx', hno])
      have hok : M.may x = true := by simpa using hyes
      have hst : step1 L f P M k = goL L f (P ++ [(k : Int)]) (M.next x) := by simp [step1, hmay, hx', hok]
      have S4' := S4
      obtain ⟨⟨ao4, co4, hs4, hO4, hF4⟩, _, nsB4, _, ap4, eF4⟩ := S4'
      refine ⟨sB, 0, rfl, ao4, P.length, co4, by rw [PH.cell_eq hs4]; rfl, fun B hB => ?_⟩
      obtain ⟨w, hwe, hwo, hwk⟩ := hO4.rest
      have hrow4 : ∀ z, ao4 = some z → u0'' z.block = none ∧ z.block ≠ sB ∧ F1 z.block = none := fun z hz => by
        rcases hO4.row with ⟨h, _⟩ | ⟨rb, cs, g1, g2, g3, g4, g5⟩
        · rw [h] at hz; cases hz
        · rw [g1] at hz; cases hz
          exact ⟨g2, fun e => (by simp only at e; subst e; rw [hs4] at g3; cases g3), hF4 _ g1⟩
      have wsB : w sB = some (.cells #[.slice a n c, .slice ao4 P.length co4, .int .i64 left1] 56) := hwk _ _ hs4 fun z hz e => (hrow4 z hz).2.1 e.symm
      have w0 : Ext u0'' w := fun k o hk => hwk k o (e04 k o hk) fun z hz e => by rw [e, (hrow4 z hz).1] at hk; cases hk
      have wF : Ext F1 w := fun k o hk => hwk k o (eF4 k o hk) fun z hz e => by rw [e, (hrow4 z hz).2.2] at hk; cases hk
      refine (app_ints (hwo.ext (Ext.add hB _)) (Sl.oneI u4 B k 3) (by omega) (hwe.trans (Ext.add hB _))).use ?_
      rintro v u5 ⟨a5, c5, rfl, hO5, e5, _⟩
      refine ⟨_, _, _, rfl, sB, 0, rfl, ⟨_, _, 0, 0, e5 _ _ wsB, by simp, fun j _ => by omega⟩, ?_⟩
      have hs5 := e5 _ _ wsB
      obtain ⟨u6, hu6⟩ : ∃ u6, u6 = PH.write u5 sB (0 + 1) [.slice a5 (P.length + 1) c5] := ⟨_, rfl⟩
      rw [← hu6]
      have hs6 : u6 sB = some (.cells #[.slice a n c, .slice a5 (P ++ [(k : Int)]).length c5, .int .i64 left1] 56) := by rw [hu6, PH.write_one hs5, List.length_append]; rfl
      have hne6 : ∀ k, k ≠ sB → u6 k = u5 k := fun k hk => by rw [hu6, PH.write_ne hk]
      clear hu6
      have hrow5 : ∀ z, a5 = some z → w z.block = none := fun z hz => by
        rcases hO5.row with ⟨h, _⟩ | ⟨rb, cs, g1, g2, g3, g4, g5⟩
        · rw [h] at hz; cases hz
        · rw [g1] at hz; cases hz; exact g2
      have S6 : Sk u0'' u6 F1 sB a n c (P ++ [(k : Int)]) left1 := by
        refine ⟨⟨a5, c5, hs6, ⟨rfl, ?_, hO5.max, ?_⟩, fun z hz => ?_⟩, fun k o hk => ?_, nsB4, nF, ap4, fun k o hk => ?_⟩
        · rw [List.length_append]; exact hO5.le
        · rcases hO5.row with h | ⟨rb, cs, g1, g2, g3, g4, g5⟩
          · exact .inl h
          · refine .inr ⟨rb, cs, g1, ?_, by rw [hne6 rb (fun e => by subst e; rw [wsB] at g2; cases g2)]; exact g3, g4, by rw [List.length_append]; exact g5⟩
            cases h : u0'' rb with
            | none => rfl
            | some o => rw [w0 _ _ h] at g2; cases g2
        · cases h : F1 z.block with
          | none => rfl
          | some o => have := hrow5 z hz; rw [wF _ _ h] at this; cases this
        · rw [hne6 k (fun e => by subst e; rw [nsB4] at hk; cases hk)]; exact e5 _ _ (w0 _ _ hk)
        · rw [hne6 k (fun e => by subst e; rw [nF] at hk; cases hk)]; exact e5 _ _ (wF _ _ hk)
      have hln := len_next M x
      refine (ih (by rw [List.length_append]; simp; omega) S6 (hL.ext e00'') (hnx hok) (by omega) hJ1 hl1'.1 (by omega)).use ?_
      rintro v u7 ⟨t, F7, left7, rfl, S7, E7⟩
      obtain ⟨⟨ao7, co7, hs7, hO7, hF7⟩, e07, nsB7, nF7, ap7, eF7⟩ := S7
      have hple : (P ++ [(k : Int)]).length = P.length + 1 := by rw [List.length_append]; rfl
      rw [hple] at hs7 hO7
      have hle7 := hO7.le
      refine ⟨t, rfl, sB, 0, rfl, ao7, P.length + 1, co7, by rw [PH.cell_eq hs7]; rfl, sB, 0, rfl, ao7, P.length + 1, co7, by rw [PH.cell_eq hs7]; rfl, ?_⟩
      have ew : IntKind.wrap .i64 (((P.length + 1 : Nat) : Int) - 1) = (P.length : Int) := by rw [wrap_i64 (by omega) (by omega)]; omega
      rw [ew]
      refine ⟨⟨by omega, by omega, by omega⟩, sB, 0, rfl, ⟨_, _, 0, 0, hs7, by simp, fun j _ => by omega⟩, ?_⟩
      have e0n : (0 : Int).toNat = 0 := rfl
      simp only [e0n, subA_zero, Nat.sub_zero, Int.toNat_natCast]
      obtain ⟨u8, hu8⟩ : ∃ u8, u8 = PH.write u7 sB (0 + 1) [.slice ao7 P.length co7] := ⟨_, rfl⟩
      rw [← hu8]
      have hs8 : u8 sB = some (.cells #[.slice a n c, .slice ao7 P.length co7, .int .i64 left7] 56) := by rw [hu8, PH.write_one hs7]; rfl
      have hne8 : ∀ k, k ≠ sB → u8 k = u7 k := fun k hk => by rw [hu8, PH.write_ne hk]
      clear hu8
      have hpre := hO7.pre (m := P.length) encI_len (by omega)
      rw [List.take_left'  rfl] at hpre
      have S8 : Sk u0 u8 F7 sB a n c P left7 := by
        refine ⟨⟨ao7, co7, hs8, ⟨hpre.len, hpre.le, hpre.max, ?_⟩, hF7⟩, fun k o hk => ?_, n0, nF7, fun k => ?_, fun k o hk => ?_⟩
        · rcases hpre.row with h | ⟨rb, cs, g1, g2, g3, g4, g5⟩
          · exact .inl h
          · refine .inr ⟨rb, cs, g1, ?_, by rw [hne8 rb (fun e => by subst e; rw [hs7] at g3; cases g3)]; exact g3, g4, g5⟩
            cases h : u0 rb with
            | none => rfl
            | some o => rw [e00'' _ _ h] at g2; cases g2
        · rw [hne8 k (fun e => by subst e; rw [n0] at hk; cases hk)]; exact e07 _ _ (e00'' _ _ hk)
        · rcases ap7 k with h | h
          · cases h0 : u0 k with
            | none => exact .inl rfl
            | some o => rw [e00'' _ _ h0] at h; cases h
          · exact .inr h
        · rw [hne8 k (fun e => by subst e; rw [nF7] at hk; cases hk)]; exact eF7 _ _ hk
      rw [← hst] at E7
      have E8 := hE1.app E7
      have hacc : (List.range (k + 1)).flatMap (step1 L f P M) = (List.range k).flatMap (step1 L f P M) ++ step1 L f P M k := by rw [List.range_succ, List.flatMap_append]; simp
      rw [← hacc] at E8
      refine ⟨fun hno => ?_, fun hyes => ?_⟩
      · have hno : t = false := by simpa using hno
        subst hno
        refine ⟨false, F7, left7, rfl, S8, ?_⟩
        rw [goL_succ, hlen, show n = (k + 1) + (n - (k + 1)) by omega, List.range_add, List.flatMap_append]
        exact E8.stop
      · have hyes : t = true := by simpa using hyes
        subst hyes
        exact ⟨⟨k + 1, F7, left7, by omega, by omega, S8, E8⟩, by omega⟩
    · have hge := of_decide_eq_false hge
      have : k = n := by omega
      subst this
      refine ⟨true, F1, left1, rfl, hS1, ?_⟩
      rw [goL_succ, hlen]; exact hE1
end Go.Proofs.Ytlmnfhhmgfnbpaa.E
