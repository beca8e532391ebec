/- WORDS FOR PROOFS OVER THE ENGINE: partial heaps, slices as lists, slices of one's own, 'append'. -/
import Derived.Test.YtlmnfhhmgfnbpaaDoorE13
import Derived.ArgAppend
namespace Go.Proofs.YtlmnfhhmgfnbpaaDoor.E
open Go
variable {P : Program}

theorem wrap_i64 {x : Int} (h1 : -9223372036854775808 ≤ x) (h2 : x ≤ 9223372036854775807) : IntKind.wrap .i64 x = x := by
  simp only [IntKind.wrap, IntKind.bits, IntKind.signed]
  simp
  omega
theorem Ext.refl (u : PH) : Ext u u := fun _ _ h => h
theorem Ext.trans {u v w : PH} (h1 : Ext u v) (h2 : Ext v w) : Ext u w := fun b o h => h2 b o (h1 b o h)
theorem PH.cell_some {u : PH} {b o : Nat} {v : Value} (h : PH.cell u b o = some v) : ∃ c t fr, u b = some (.cells c t fr) ∧ c[o]? = some v := by
  unfold PH.cell at h
  split at h
  · rename_i c t fr hu; exact ⟨c, t, fr, hu, h⟩
  · cases h
theorem Ext.cell {u u' : PH} (h : Ext u u') {b o : Nat} {v : Value} (hc : PH.cell u b o = some v) : PH.cell u' b o = some v := by
  obtain ⟨c, t, fr, hu, hv⟩ := PH.cell_some hc
  simp only [PH.cell, h b _ hu, hv]
theorem Ext.cells {u u' : PH} (h : Ext u u') {b o : Nat} {xs : List Value} (hc : PH.cells u b o xs) : PH.cells u' b o xs := fun j y hj => h.cell (hc j y hj)
theorem Ext.add {u : PH} {b : Nat} (hb : u b = none) (o : Obj) : Ext u (PH.add u b o) := fun k x hk => by
  simp only [PH.add]
  split
  · rename_i e; subst e; rw [hb] at hk; cases hk
  · exact hk
theorem PH.add_eq (u : PH) (b : Nat) (o : Obj) : PH.add u b o b = some o := by simp [PH.add]
theorem PH.add_ne {u : PH} {b k : Nat} {o : Obj} (h : k ≠ b) : PH.add u b o k = u k := by simp [PH.add, h]
theorem PH.cell_eq {u : PH} {b : Nat} {c : Array Value} {t : TypeId} {fr : Nat × Nat} (h : u b = some (.cells c t fr)) (o : Nat) : PH.cell u b o = c[o]? := by simp [PH.cell, h]
theorem PH.cells_of {u : PH} {b : Nat} {c : Array Value} {t : TypeId} {fr : Nat × Nat} (h : u b = some (.cells c t fr)) {o : Nat} {xs : List Value} (hx : (c.toList.drop o).take xs.length = xs) : PH.cells u b o xs := fun j y hj => by
  rw [PH.cell_eq h, ← Array.getElem?_toList]
  have hl : j < xs.length := by
    rcases Nat.lt_or_ge j xs.length with h | h
    · exact h
    · rw [List.getElem?_eq_none h] at hj; cases hj
  rw [← hx, List.getElem?_take, if_pos hl, List.getElem?_drop] at hj
  exact hj
theorem PH.cells_get {u : PH} {b o : Nat} {xs : List Value} (h : PH.cells u b o xs) {j : Nat} {y : Value} (hj : xs[j]? = some y) : PH.cell u b (o + j) = some y := h j y hj
/-- a contract in hand -/
theorem Spec.use {f : FuncId} {args : Array Value} {u : PH} {Q Q' : Value → PH → Prop} (h : Spec P f args u Q) (hq : ∀ v u', Q v u' → Q' v u') : Spec P f args u Q' := h.mono hq
theorem SemSpec.use {s : Sem Value} {u : PH} {Q Q' : Value → PH → Prop} (h : SemSpec P s u Q) (hq : ∀ v u', Q v u' → Q' v u') : SemSpec P s u Q' := fun w hw => by
  obtain ⟨v, w', u', h1, h2, h3, h4⟩ := h w hw
  exact ⟨v, w', u', h1, h2, h3, hq v u' h4⟩

/-! ### Slices read as lists -/
section
variable {α : Type} (enc : α → List Value) (k : Nat)
/-- from address a on, n elements lie, that read as l -/
structure Sl (u : PH) (a : Option Addr) (n : Nat) (l : List α) : Prop where
  len : l.length = n
  get : ∀ i x, l[i]? = some x → ∃ b o, a = some ⟨b, o, none⟩ ∧ PH.cells u b (o + i * k) (enc x)
end
section
variable {α : Type} {enc : α → List Value} {k : Nat} {u u' : PH} {a : Option Addr} {n : Nat} {l : List α}
theorem Sl.ext (h : Sl enc k u a n l) (he : Ext u u') : Sl enc k u' a n l := ⟨h.len, fun i x hx => by
  obtain ⟨b, o, h1, h2⟩ := h.get i x hx
  exact ⟨b, o, h1, he.cells h2⟩⟩
/-- the i-th element's place -/
theorem Sl.at (h : Sl enc k u a n l) {i : Int} {x : α} (hi : 0 ≤ i) (hx : l[i.toNat]? = some x) {K : Nat → Nat → Prop} (hk : ∀ b o, PH.cells u b (o + i.toNat * k) (enc x) → K b o) :
    ∃ b o : Nat, a = some ⟨b, o, none⟩ ∧ (0 ≤ i ∧ i < (n : Int)) ∧ K b o := by
  obtain ⟨b, o, h1, h2⟩ := h.get _ x hx
  have : i.toNat < l.length := by
    rcases Nat.lt_or_ge i.toNat l.length with h | h
    · exact h
    · rw [List.getElem?_eq_none h] at hx; cases hx
  have := h.len
  exact ⟨b, o, h1, ⟨hi, by omega⟩, hk b o h2⟩
theorem Sl.nil (a : Option Addr) : Sl enc k u a 0 [] := ⟨rfl, fun i x hx => by simp at hx⟩
/-- a part of it -/
theorem Sl.sub (h : Sl enc k u a n l) {i j c : Nat} (hij : i ≤ j) (hj : j ≤ n) (hc : n ≤ c) : Sl enc k u (subA a i c k) (j - i) ((l.drop i).take (j - i)) := by
  have hl := h.len
  refine ⟨by simp; omega, fun t x hx => ?_⟩
  rw [List.getElem?_take] at hx
  split at hx
  · rename_i ht
    rw [List.getElem?_drop] at hx
    obtain ⟨b, o, h1, h2⟩ := h.get _ x hx
    refine ⟨b, o + i * k, ?_, ?_⟩
    · unfold subA
      rw [if_neg (by omega), h1, Option.map_some, addr_add]
    · rw [Nat.add_mul, ← Nat.add_assoc] at h2; exact h2
  · cases hx
end

/-! ### Slices of one's own: rows in blocks of which u0 knows nothing -/
section
variable {α : Type} (enc : α → List Value) (k : Nat) (e : TypeId)
structure Own (u0 u : PH) (a : Option Addr) (n c : Nat) (l : List α) : Prop where
  len : l.length = n
  le : n ≤ c
  max : c ≤ maxLen
  row : (a = none ∧ c = 0) ∨ ∃ b cs, a = some ⟨b, 0, none⟩ ∧ u0 b = none ∧ u b = some (.cells cs e (0, 0)) ∧ cs.size = c * k ∧ cs.toList.take (n * k) = l.flatMap enc
end
section
variable {α : Type} {enc : α → List Value} {k : Nat} {e : TypeId} {u0 u u' : PH} {a : Option Addr} {n c : Nat} {l : List α}
theorem flat_len (hk : ∀ x, (enc x).length = k) : ∀ l : List α, (l.flatMap enc).length = l.length * k
  | [] => by simp
  | x :: r => by simp only [List.flatMap_cons, List.length_append, hk, flat_len hk r, List.length_cons, Nat.add_mul]; omega
theorem flat_at (hk : ∀ x, (enc x).length = k) : ∀ (l : List α) (i : Nat) (x : α), l[i]? = some x → ((l.flatMap enc).drop (i * k)).take k = enc x
  | [], i, x, h => by simp at h
  | y :: r, 0, x, h => by
    simp at h; subst h
    simp [List.flatMap_cons, ← hk y]
  | y :: r, i + 1, x, h => by
    simp only [List.getElem?_cons_succ] at h
    rw [List.flatMap_cons, Nat.add_mul, Nat.one_mul, Nat.add_comm, ← List.drop_drop, List.drop_append_of_le_length (by rw [hk]; exact Nat.le_refl _), show (enc y).drop k = [] from List.drop_eq_nil_of_le (by rw [hk]; exact Nat.le_refl _), List.nil_append]
    exact flat_at hk r i x h
theorem Own.sl (h : Own enc k e u0 u a n c l) (hk : ∀ x, (enc x).length = k) : Sl enc k u a n l := by
  refine ⟨h.len, fun i x hx => ?_⟩
  have hi : i < l.length := by
    rcases Nat.lt_or_ge i l.length with h | h
    · exact h
    · rw [List.getElem?_eq_none h] at hx; cases hx
  have hlen := h.len
  have hle := h.le
  rcases h.row with ⟨_, h0⟩ | ⟨b, cs, h1, h2, h3, h4, h5⟩
  · omega
  · refine ⟨b, 0, h1, PH.cells_of h3 ?_⟩
    rw [hk x]
    have := flat_at hk l i x hx
    rw [← h5, List.drop_take, List.take_take] at this
    rw [Nat.zero_add, ← this]
    congr 1
    have : (i + 1) * k ≤ n * k := Nat.mul_le_mul_right k (by omega)
    rw [Nat.add_mul, Nat.one_mul] at this
    omega
theorem Own.nil (u0 u : PH) : Own enc k e u0 u none 0 0 [] := ⟨rfl, Nat.le_refl _, Nat.zero_le _, .inl ⟨rfl, rfl⟩⟩
theorem Own.ext (h : Own enc k e u0 u a n c l) (he : Ext u u') : Own enc k e u0 u' a n c l := ⟨h.len, h.le, h.max, by
  rcases h.row with h | ⟨b, cs, h1, h2, h3, h4, h5⟩
  · exact .inl h
  · exact .inr ⟨b, cs, h1, h2, he b _ h3, h4, h5⟩⟩
theorem Own.fresh {b : Nat} (hb : u0 b = none) (e : TypeId) (xs : List α) (hk : ∀ x, (enc x).length = k) (hm : xs.length ≤ maxLen) : Own enc k e u0 (PH.add u b (.cells (xs.flatMap enc).toArray e)) (some ⟨b, 0, none⟩) xs.length xs.length xs :=
  ⟨rfl, Nat.le_refl _, hm, .inr ⟨b, _, rfl, hb, PH.add_eq _ _ _, by simpa using flat_len hk xs, by
    rw [List.take_of_length_le]
    simpa using Nat.le_of_eq (flat_len hk xs)⟩⟩
end
end Go.Proofs.YtlmnfhhmgfnbpaaDoor.E
