/- WORDS FOR PROOFS OVER THE ENGINE: slices of calls. -/
import Derived.Test.YtlmnfhhmgfnbpaaDoorL1
import Derived.Test.YtlmnfhhmgfnbpaaDoorB0
namespace Go.Proofs.YtlmnfhhmgfnbpaaDoor.E
open Go
variable {u : PH} {a : Option Addr} {n : Nat} {l : List Call}
theorem Sl.idx {α : Type} {enc : α → List Value} {k : Nat} {l : List α} (h : Sl enc k u a n l) {i : Int} (h0 : 0 ≤ i) (h1 : i < (n : Int)) : ∃ x, l[i.toNat]? = some x := by
  have := h.len
  exact ⟨l[i.toNat]'(by omega), List.getElem?_eq_getElem (by omega)⟩
/-- a whole call is read -/
theorem Sl.call (h : Sl Call.cells 13 u a n l) {i : Int} {x : Call} (hi : 0 ≤ i) (hx : l[i.toNat]? = some x)
    {K : Nat → Nat → Int → Int → Int → Int → Int → Int → Int → Int → Int → Int → Int → Bool → Int → Prop}
    (hk : ∀ b o, a = some ⟨b, o, none⟩ → K b o x.client x.id x.op.kind x.op.key x.op.val x.op.cost x.op.ttl x.beg x.at_ x.end_ x.tick x.ok x.got) :
    ∃ b o : Nat, a = some ⟨b, o, none⟩ ∧ (0 ≤ i ∧ i < (n : Int)) ∧ ∃ n1 n2 n3 n4 n5 n6 n7 n8 n9 n10 n11 : Int, ∃ b12 : Bool, ∃ n13 : Int,
      PH.cells u b (o + i.toNat * 13) [.int .i64 n1, .int .i64 n2, .int .i64 n3, .int .i64 n4, .int .i64 n5, .int .i64 n6, .int .i64 n7, .int .i64 n8, .int .i64 n9, .int .i64 n10, .int .i64 n11, .bool b12, .int .i64 n13] ∧
      K b o n1 n2 n3 n4 n5 n6 n7 n8 n9 n10 n11 b12 n13 := by
  obtain ⟨b, o, h1, h2⟩ := h.get _ x hx
  have := h.len
  have hlt : i.toNat < l.length := by
    rcases Nat.lt_or_ge i.toNat l.length with h | h
    · exact h
    · rw [List.getElem?_eq_none h] at hx; cases hx
  exact ⟨b, o, h1, ⟨hi, by omega⟩, _, _, _, _, _, _, _, _, _, _, _, _, _, h2, hk b o h1⟩
/-- a field of a call is read -/
theorem Sl.callInt (h : Sl Call.cells 13 u a n l) {i : Int} {x : Call} (hi : 0 ≤ i) (hx : l[i.toNat]? = some x) {j : Nat} {v : Int} (hv : x.cells[j]? = some (.int .i64 v)) {K : Nat → Nat → Int → Prop}
    (hk : ∀ b o, a = some ⟨b, o, none⟩ → K b o v) :
    ∃ b o : Nat, a = some ⟨b, o, none⟩ ∧ (0 ≤ i ∧ i < (n : Int)) ∧ ∃ n1 : Int, PH.cell u b (o + i.toNat * 13 + j) = some (.int .i64 n1) ∧ K b o n1 := by
  obtain ⟨b, o, h1, h2⟩ := h.get _ x hx
  have := h.len
  have hlt : i.toNat < l.length := by
    rcases Nat.lt_or_ge i.toNat l.length with h | h
    · exact h
    · rw [List.getElem?_eq_none h] at hx; cases hx
  exact ⟨b, o, h1, ⟨hi, by omega⟩, v, h2 j _ hv, hk b o h1⟩
end Go.Proofs.YtlmnfhhmgfnbpaaDoor.E
