/- FROM CONTRACTS TO ROWS: the whole heap as what is known; arguments that are read out of it. -/
import Derived.Test.YtlmnfhhmgfnbpaaDoorL0
import Derived.WalkKit
import Derived.ProofKit
import Derived.OpenShut
import Derived.ShutString
import Derived.ChangeOld
import Derived.Below
import Derived.Carry
import Derived.SizedLaws
import Derived.Deep.Slices
namespace Go.Proofs.YtlmnfhhmgfnbpaaDoor.E
open Go Go.ChangeShapes Go.WideShapes Go.Deep Go.RowKit
def whole (w : World) : PH := fun b => w.heap[b]?
theorem whole_cell {w : World} {b o : Nat} {v : Value} (h : w.cell? ⟨b, o, none⟩ = some v) : PH.cell (whole w) b o = some v := by
  simp only [PH.cell, whole]
  simp only [World.cell?] at h
  split at h
  · rename_i c t fr hb
    rw [hb]; simpa using h
  · cases h
theorem below_of_spec {P : Program} {f : FuncId} {args : Array Value} {w : World} (h : Spec P f args (whole w) fun v u' => v = .bool true ∧ Ext (whole w) u') :
    Calls P f args w fun e w' => e = .returned (.bool true) ∧ Below w.heap.size w w' := by
  refine (h w fun b o hb => hb).mono ?_
  rintro e w' ⟨v, u', rfl, hs, hf, rfl, hE⟩
  refine ⟨rfl, hf.os, hf.tape, hf.output, hf.size, fun k hk => ?_⟩
  have : whole w k = some (w.heap[k]'hk) := by simp [whole, hk]
  rw [hs k _ (hE k _ this)]; simp [hk]
/-! ### flat structs -/
def flatFs (P : Program) (fl : TypeId → Option (List Sh)) : List Field → Nat → Option (List Sh)
  | [], _ => some []
  | f :: r, off => if f.offset = off then match fl f.type with
      | some l => if P.cellsOf f.type = l.length then match flatFs P fl r (off + l.length) with
          | some l' => some (l ++ l')
          | none => none
        else none
      | none => none
    else none
def flat (P : Program) : Nat → TypeId → Option (List Sh)
  | 0, _ => none
  | n + 1, t => match P.underlying t with
    | some (.int k) => some [.int k]
    | some .bool => some [.bool]
    | some .string => some [.str]
    | some (.slice _) => some [.slice]
    | some (.struct fs) => match flatFs P (flat P n) fs.toList 0 with
      | some l => if P.cellsOf t = l.length then some l else none
      | none => none
    | _ => none
def fitsL : List Sh → List Value → Prop
  | [], [] => True
  | .int k :: r, v :: vs => (∃ n, v = .int k n ∧ (Lit.int k n).wf = true) ∧ fitsL r vs
  | .bool :: r, v :: vs => (∃ b, v = .bool b) ∧ fitsL r vs
  | .str :: r, v :: vs => (∃ s : ByteArray, v = .string s ∧ s.size ≤ maxLen) ∧ fitsL r vs
  | .slice :: r, v :: vs => (∃ a n c, v = .slice a n c) ∧ fitsL r vs
  | _, _ => False
theorem fitsL_len : ∀ {l : List Sh} {vs : List Value}, fitsL l vs → vs.length = l.length
  | [], [], _ => rfl
  | [], _ :: _, h => by simp [fitsL] at h
  | s :: r, [], h => by cases s <;> simp [fitsL] at h
  | s :: r, v :: vs, h => by
    cases s <;> simp only [fitsL] at h
    all_goals first
      | (have := fitsL_len h.2; simp [this])
      | exact h.elim
theorem fitsL_append : ∀ {a b : List Sh} {x y : List Value}, fitsL a x → fitsL b y → fitsL (a ++ b) (x ++ y)
  | [], b, [], y, _, h => h
  | [], _, _ :: _, _, h, _ => by simp [fitsL] at h
  | s :: r, _, [], _, h, _ => by cases s <;> simp [fitsL] at h
  | s :: r, b, v :: vs, y, h, k => by
    cases s <;> simp only [fitsL, List.cons_append] at h ⊢
    all_goals first
      | exact ⟨h.1, fitsL_append h.2 k⟩
      | exact h.elim
section
variable {H : Type} {enc : TypeId × Value → H} {P : Program} {w : World} {base : Nat} {spare : Nat → Bool} {held : Bool}
theorem flat_fits : ∀ (n : Nat) {t : TypeId} {fuel : Nat} {cs : List Value} {x : DataW H × List MemPlace} {l : List Sh}, flat P n t = some l → DataW.trod enc P w base spare held fuel t cs = some x → fitsL l cs
  | 0, t, fuel, cs, x, l, h, _ => by simp [flat] at h
  | n + 1, t, fuel, cs, x, l, h, ht => by
    unfold flat at h
    split at h
    · rename_i k hu
      cases h
      obtain ⟨m, rfl, _, hw⟩ := DataW.trod_int hu ht
      exact ⟨⟨m, rfl, hw⟩, trivial⟩
    · rename_i hu
      cases h
      obtain ⟨b, rfl, _⟩ := DataW.trod_bool hu ht
      exact ⟨⟨b, rfl⟩, trivial⟩
    · rename_i hu
      cases h
      obtain ⟨s, rfl, _, hs⟩ := DataW.trod_string hu ht
      exact ⟨⟨s, rfl, hs⟩, trivial⟩
    · rename_i e hu
      cases h
      rcases open_slice hu ht with ⟨rfl, _⟩ | ⟨a, len, cap, m, n', D, Pl, rfl, _⟩
      · exact ⟨⟨_, _, _, rfl⟩, trivial⟩
      · exact ⟨⟨_, _, _, rfl⟩, trivial⟩
    · rename_i fs hu
      split at h
      · rename_i l' hl
        split at h
        · rename_i hc
          cases h
          obtain ⟨xs, m, _, _, hlen, hxl, hf⟩ := DataW.trod_struct hu ht
          have key : ∀ (r : List Field) (off : Nat) (l : List Sh), (∀ f ∈ r, ∃ y, DataW.trod enc P w base spare held m f.type ((cs.drop f.offset).take (P.cellsOf f.type)) = some y) → flatFs P (flat P n) r off = some l → fitsL l ((cs.drop off).take l.length) := by
            intro r
            induction r with
            | nil => intro off l _ h; simp [flatFs] at h; subst h; trivial
            | cons f r ih =>
              intro off l hall h
              simp only [flatFs] at h
              split at h
              · rename_i ho
                split at h
                · rename_i lf hlf
                  split at h
                  · rename_i hcf
                    split at h
                    · rename_i lr hlr
                      cases h
                      obtain ⟨y, hy⟩ := hall f (by simp)
                      have h1 := flat_fits n hlf hy
                      rw [ho, hcf] at h1
                      have h2 := ih _ _ (fun g hg => hall g (by simp [hg])) hlr
                      have := fitsL_append h1 h2
                      rw [List.length_append, List.take_add, List.drop_drop]
                      exact this
                    · cases h
                  · cases h
                · cases h
              · cases h
          have := key fs.toList 0 l (fun f hf' => by
            obtain ⟨i, hi⟩ := List.getElem?_of_mem hf'
            have hi' : fs[i]? = some f := by rw [← Array.getElem?_toList]; exact hi
            have hlt : i < fs.size := (Array.getElem?_eq_some_iff.1 hi').1
            have h3 := hf i f hi'
            rw [List.getElem?_eq_getElem (by omega)] at h3
            exact ⟨_, h3⟩) hl
          rw [List.drop_zero, List.take_of_length_le (by omega)] at this
          exact this
        · cases h
      · cases h
    · cases h
theorem choose_list {α : Type} {n : Nat} {R : Nat → α → Prop} (h : ∀ i, i < n → ∃ x, R i x) : ∃ L : List α, L.length = n ∧ ∀ i x, L[i]? = some x → R i x := by
  induction n with
  | zero => exact ⟨[], rfl, fun i x hx => by simp at hx⟩
  | succ n ih =>
    obtain ⟨L, h1, h2⟩ := ih fun i hi => h i (by omega)
    obtain ⟨x, hx⟩ := h n (by omega)
    refine ⟨L ++ [x], by simp [h1], fun i y hy => ?_⟩
    by_cases hi : i < n
    · rw [List.getElem?_append_left (by omega)] at hy; exact h2 i y hy
    · rw [List.getElem?_append_right (by omega)] at hy
      have : i = n := by
        have := (List.getElem?_eq_some_iff.1 hy).1
        simp at this; omega
      subst this
      rw [h1, Nat.sub_self] at hy
      simp at hy; subst hy; exact hx
/-- a slice of flat structs, out of the whole heap -/
theorem agg_of {v : Value} {vs : List Value} (h : v.cells.toList = vs) (hl : 2 ≤ vs.length) : v = .agg vs.toArray := by
  cases v with
  | agg cs => simp only [Value.cells] at h; subst h; simp
  | _ => simp only [Value.cells] at h; subst h; simp at hl
/-- an argument of a flat struct -/
theorem open_struct {t : TypeId} {v : Value} {d : DataW H} {ps : List MemPlace} {n : Nat} {l : List Sh} (hfl : flat P n t = some l) (h2 : 2 ≤ l.length) (h : DataW.Trod enc P w base spare held t v d ps) : ∃ vs, fitsL l vs ∧ v = .agg vs.toArray := by
  obtain ⟨fuel, hf⟩ := h
  have := flat_fits n hfl hf
  exact ⟨_, this, agg_of rfl (by rw [fitsL_len this]; exact h2)⟩
theorem open_flat {α : Type} {ec : α → List Value} {k : Nat} {t e : TypeId} {fuel : Nat} {cs : List Value} {x : DataW H × List MemPlace} {n : Nat} {l : List Sh} {good : α → Prop} (ht : P.underlying t = some (.slice e)) (hfl : flat P n e = some l) (hk : P.cellsOf e = k) (hk0 : 0 < k)
    (dec : ∀ vs, fitsL l vs → ∃ y, vs = ec y ∧ good y) (hlen : ∀ y, (ec y).length = k) (h : DataW.trod enc P w base spare held fuel t cs = some x) :
    ∃ (a : Option Addr) (len cap : Nat) (L : List α), cs = [.slice a len cap] ∧ len ≤ cap ∧ cap ≤ maxLen ∧ Sl ec k (whole w) a len L ∧ ∀ y ∈ L, good y := by
  rcases open_slice ht h with ⟨rfl, _⟩ | ⟨a, len, cap, m, n', D, Pl, rfl, hb, hl, hm, hmm, hx, hi⟩
  · exact ⟨none, 0, 0, [], rfl, Nat.le_refl _, Nat.zero_le _, Sl.nil _, fun y hy => by cases hy⟩
  · obtain ⟨L, h1, h2⟩ := choose_list (n := len) (R := fun i y => good y ∧ ∀ j v, (ec y)[j]? = some v → w.cell? (a.add (i * k + j)) = some v) (fun i hi' => by
      have him : i < m := by rw [hmm]; split <;> omega
      obtain ⟨cs', hc, ht'⟩ := hi i him
      obtain ⟨y, hy, hg⟩ := dec cs' (flat_fits n hfl ht')
      obtain ⟨_, hcl, hcell⟩ := World.cells?_some hc
      refine ⟨y, hg, fun j v hj => ?_⟩
      have hjl : j < P.cellsOf e := by
        have := (List.getElem?_eq_some_iff.1 hj).1
        rw [hlen, ← hk] at this; exact this
      have := hcell j hjl
      rw [hy, hj, hk] at this
      rw [← this, Go.Deep.add_add])
    refine ⟨some a, len, cap, L, rfl, hl, hm, ⟨h1, fun i y hy => ?_⟩, fun y hy => ?_⟩
    · obtain ⟨ab, ao, as⟩ := a
      have hs : as = none := by
        obtain ⟨y0, hy0⟩ : ∃ y0, L[0]? = some y0 := ⟨_, List.getElem?_eq_getElem (by have := (List.getElem?_eq_some_iff.1 hy).1; omega)⟩
        obtain ⟨v, hv⟩ : ∃ v, (ec y0)[0]? = some v := ⟨_, List.getElem?_eq_getElem (by rw [hlen]; exact hk0)⟩
        have := (h2 0 y0 hy0).2 0 v hv
        cases as with
        | none => rfl
        | some z =>
          simp only [Nat.zero_mul, Nat.add_zero, Addr.add, if_true, World.cell?] at this
          split at this
          · simp at this
          · cases this
      subst hs
      refine ⟨ab, ao, rfl, fun j v hj => ?_⟩
      have := (h2 i y hy).2 j v hj
      rw [addr_add] at this
      apply whole_cell
      rw [← this, Nat.add_assoc]
    · obtain ⟨i, hi'⟩ := List.getElem?_of_mem hy
      exact (h2 i y hi').1
end
end Go.Proofs.YtlmnfhhmgfnbpaaDoor.E
