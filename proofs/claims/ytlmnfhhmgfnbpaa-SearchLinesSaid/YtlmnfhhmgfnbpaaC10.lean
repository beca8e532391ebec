/- CONTRACTS: calls' own numbers: prog.own, prog.Bare, prog.Right. -/
import Derived.Test.YtlmnfhhmgfnbpaaC9
namespace Go.Proofs.Ytlmnfhhmgfnbpaa.E
open Go
def offs (k : Int) : List Nat := if k = 1 ∨ k = 3 then [1] else if k = 2 then [1, 2, 3, 4] else if k = 7 then [3] else []
def ptrs (b : Nat) (l : List Nat) : List Value := l.map fun o => .pointer (some ⟨b, o, none⟩)
def Ø : PH := fun _ => none
/-- the iterator of a call's own numbers: J i F u: i rounds are done, F is the iterator's own memory -/
theorem f80_spec {y : Value} (hy : notAgg y = true) {B b : Nat} {u : PH} {k : Int} {J : Nat → PH → PH → Prop} {X : PH → Prop}
    (hB : PH.cell u B 0 = some (.pointer (some ⟨b, 0, none⟩))) (hk : PH.cell u b 0 = some (.int .i64 k))
    (hJ : ∀ i F u' B' o, J i F u' → u' B' = none → J i (PH.add F B' o) (PH.add u' B' o)) (h0 : J 0 Ø u)
    (step : ∀ (i o : Nat) (F u' : PH), (offs k)[i]? = some o → J i F u' → CallV Try.prog y [.pointer (some ⟨b, o, none⟩)] u' fun v u'' => ∃ t, v = .bool t ∧ (t = true → J (i + 1) F u'' ∧ Ext F u'') ∧ (t = false → X u'')) :
    Spec Try.prog 80 #[y, .pointer (some ⟨B, 0, none⟩)] u fun _ u' => (∃ F, J (offs k).length F u') ∨ X u' := by
  refine f80_of (hyield := hy) ?_
  unfold f80_V
  have mk : ∀ (l : List Nat) (B' : Nat), offs k = l → u B' = none → (l.length = (offs k).length ∧ ∃ F, J 0 F (PH.add u B' (.cells (ptrs b l).toArray 78)) ∧ ∀ (i o : Nat), (offs k)[i]? = some o → ∃ B'', (some ⟨B', 0, none⟩ : Option Addr) = some ⟨B'', 0, none⟩ ∧ F B'' = some (.cells (ptrs b (offs k)).toArray 78) ∧ (PH.add u B' (.cells (ptrs b l).toArray 78)) B'' = some (.cells (ptrs b (offs k)).toArray 78)) := by
    intro l B' hl hn
    subst hl
    exact ⟨rfl, _, hJ _ _ _ _ _ h0 hn, fun i o _ => ⟨B', rfl, PH.add_eq _ _ _, PH.add_eq _ _ _⟩⟩
  refine ⟨fun a n _ u' => n = (offs k).length ∧ ∃ F, J 0 F u' ∧ ∀ (i o : Nat), (offs k)[i]? = some o → ∃ B'', a = some ⟨B'', 0, none⟩ ∧ F B'' = some (.cells (ptrs b (offs k)).toArray 78) ∧ u' B'' = some (.cells (ptrs b (offs k)).toArray 78), ?_, ?_⟩
  · refine ⟨_, hB, b, 0, rfl, k, hk, fun h1 => ?_, fun h1 => ⟨fun h3 => ?_, fun h3 => ⟨fun h2 => ?_, fun h2 => ⟨fun h7 => ?_, fun h7 => ?_⟩⟩⟩⟩
    · have hk1 : k = 1 := by simpa using h1
      refine ⟨_, hB, b, 0, rfl, fun B' hn => ?_⟩
      exact mk [1] B' (by simp [offs, hk1]) hn
    · have hk1 : k = 3 := by simpa using h3
      refine ⟨_, hB, b, 0, rfl, fun B' hn => ?_⟩
      exact mk [1] B' (by simp [offs, hk1]) hn
    · have hk1 : k = 2 := by simpa using h2
      refine ⟨u, Ext.refl u, _, hB, b, 0, rfl, _, hB, b, 0, rfl, _, hB, b, 0, rfl, _, hB, b, 0, rfl, fun B' hn => ⟨Ext.add hn _, ?_⟩⟩
      exact mk [1, 2, 3, 4] B' (by simp [offs, hk1]) hn
    · have hk1 : k = 7 := by simpa using h7
      refine ⟨_, hB, b, 0, rfl, fun B' hn => ?_⟩
      exact mk [3] B' (by simp [offs, hk1]) hn
    · simp only [beq_eq_false_iff_ne, ne_eq] at h1 h2 h3 h7
      have ho : offs k = [] := by simp [offs, h1, h2, h3, h7]
      exact ⟨by rw [ho]; rfl, _, h0, fun i o ho' => by rw [ho] at ho'; simp at ho'⟩
  · rintro a n c u1 ⟨rfl, F0, hj, hrow⟩
    refine ⟨fun i u' => 0 ≤ i ∧ i ≤ (offs k).length ∧ ∃ F, J i.toNat F u' ∧ ∀ (i o : Nat), (offs k)[i]? = some o → ∃ B'', a = some ⟨B'', 0, none⟩ ∧ F B'' = some (.cells (ptrs b (offs k)).toArray 78) ∧ u' B'' = some (.cells (ptrs b (offs k)).toArray 78), fun i _ => (offs k).length - i.toNat, ⟨by omega, by omega, F0, hj, hrow⟩, ?_⟩
    rintro i u' ⟨hi0, hi1, F, hj', hrow'⟩
    refine ⟨fun hlt => ?_, fun hge => ?_⟩
    · have hlt : i < (offs k).length := by simpa using hlt
      have hil : i.toNat < (offs k).length := by omega
      obtain ⟨o, ho⟩ : ∃ o, (offs k)[i.toNat]? = some o := ⟨_, List.getElem?_eq_getElem hil⟩
      obtain ⟨B'', rfl, hn, hr⟩ := hrow' _ _ ho
      refine ⟨B'', 0, rfl, ⟨hi0, hlt⟩, some ⟨b, o, none⟩, ?_, ?_⟩
      · rw [PH.cell_eq hr]; simp [ptrs, ho]
      · refine (step _ _ _ _ ho hj').mono ?_
        rintro v u'' ⟨t, rfl, ht, hf⟩
        refine ⟨t, rfl, fun h => .inr (hf (by simpa using h)), fun h => ?_⟩
        obtain ⟨t1, t2⟩ := ht (by simpa using h)
        have hsmall : (offs k).length ≤ 4 := by unfold offs; split <;> (try split) <;> (try split) <;> simp
        rw [wrap_i64 (by omega) (by omega)]
        refine ⟨⟨by omega, by omega, F, by rw [show (i + 1).toNat = i.toNat + 1 by omega]; exact t1, fun j o' hj' => ?_⟩, by show _ - _ < _ - _; omega⟩
        obtain ⟨B3, e3, n3, r3⟩ := hrow' _ _ hj'
        exact ⟨B3, e3, n3, t2 _ _ n3⟩
    · have hge : ¬ i < (offs k).length := by simpa using hge
      exact .inl ⟨F, by rw [show (offs k).length = i.toNat by omega]; exact hj'⟩
theorem f52_spec (k : Int) (u : PH) : Spec Try.prog 52 #[.int .i64 k] u fun v u' => v = .bool (decide (k ≥ 0) && decide (k ≤ 7)) ∧ u' = u := by
  refine f52_of ?_
  unfold f52_V
  exact ⟨rfl, rfl⟩
theorem f66_spec (p : Option Addr) (u : PH) : Spec Try.prog 66 #[.pointer p] u fun v u' => ∃ B, u B = none ∧ v = .func (.func 80) #[] #[.pointer (some ⟨B, 0, none⟩)] ∧ u' = PH.add u B (.cells #[.pointer p] 77) := by
  refine f66_of ?_
  unfold f66_V
  exact fun B hB => ⟨B, hB, rfl, rfl⟩
def bare (o : Op) : Op := if o.kind = 1 ∨ o.kind = 3 then ⟨o.kind, o.key, 0, 0, 0⟩ else if o.kind = 2 then o else if o.kind = 4 ∨ o.kind = 5 ∨ o.kind = 6 then ⟨o.kind, 0, 0, 0, 0⟩ else if o.kind = 7 then ⟨7, 0, 0, o.cost, 0⟩ else ⟨0, 0, 0, 0, 0⟩
theorem f55_spec (o : Op) (u : PH) : Spec Try.prog 55 #[o.v] u fun v u' => v = (bare o).v ∧ u' = u := by
  refine f55_of ?_
  unfold f55_V
  refine ⟨fun h => ?_, fun h1 => ⟨fun h => ?_, fun h3 => ⟨fun h => ?_, fun h2 => ⟨fun h => ?_, fun h4 => ⟨fun h => ?_, fun h5 => ⟨fun h => ?_, fun h6 => ⟨fun h => ?_, fun h7 => ?_⟩⟩⟩⟩⟩⟩⟩ <;> simp at * <;> simp_all [bare]
end Go.Proofs.Ytlmnfhhmgfnbpaa.E
