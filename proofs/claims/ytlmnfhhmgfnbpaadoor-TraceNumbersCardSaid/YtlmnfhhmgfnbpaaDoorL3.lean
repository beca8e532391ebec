/- WORDS FOR PROOFS OVER THE ENGINE: iterators. -/
import Derived.Test.YtlmnfhhmgfnbpaaDoorL2
namespace Go.Proofs.YtlmnfhhmgfnbpaaDoor.E
open Go
/-- what was not known in u, and is known in u1, stays -/
def KeepN (u u1 u2 : PH) : Prop := ∀ b o, u b = none → u1 b = some o → u2 b = some o
theorem KeepN.refl (u u1 : PH) : KeepN u u1 u1 := fun _ _ _ h => h
theorem KeepN.trans {u u1 u2 u3 : PH} (h : KeepN u u1 u2) (k : KeepN u u2 u3) : KeepN u u1 u3 := fun b o hn hb => k b o hn (h b o hn hb)
theorem KeepN.of_ext {u u1 u2 : PH} (h : Ext u1 u2) : KeepN u u1 u2 := fun b o _ hb => h b o hb
theorem PH.write_ne {u : PH} {b o k : Nat} {vs : List Value} (h : k ≠ b) : PH.write u b o vs k = u k := by simp [PH.write, h]
theorem PH.del_ne {u : PH} {b k : Nat} (h : k ≠ b) : PH.del u b k = u k := by simp [PH.del, h]
theorem PH.del_eq (u : PH) (b : Nat) : PH.del u b b = none := by simp [PH.del]
theorem PH.cell_of_eq {u u' : PH} {b : Nat} (h : u' b = u b) (o : Nat) : PH.cell u' b o = PH.cell u b o := by simp [PH.cell, h]
/-- a store of one cell -/
theorem PH.write_one {u : PH} {b o : Nat} {v : Value} {c : Array Value} {t : TypeId} {fr : Nat × Nat} (h : u b = some (.cells c t fr)) : PH.write u b o [v] b = some (.cells (c.setIfInBounds o v) t fr) := by
  simp [PH.write, h, setAll]
theorem PH.cell_write_same {u : PH} {b o : Nat} {v x : Value} (h : PH.cell u b o = some x) : PH.cell (PH.write u b o [v]) b o = some v := by
  obtain ⟨c, t, fr, h1, h2⟩ := PH.cell_some h
  rw [PH.cell_eq (PH.write_one h1)]
  have := (Array.getElem?_eq_some_iff.1 h2).1
  simp [this]
theorem PH.cell_write_off {u : PH} {b o j : Nat} {v : Value} (hj : j ≠ o) : PH.cell (PH.write u b o [v]) b j = PH.cell u b j := by
  cases hu : u b with
  | none => simp [PH.cell, PH.write, hu]
  | some x =>
    cases x with
    | cells c t fr =>
      rw [PH.cell_eq (PH.write_one hu), PH.cell_eq hu]
      simp [Array.getElem?_setIfInBounds, Ne.symm hj]
    | _ => simp [PH.cell, PH.write, hu]
end Go.Proofs.YtlmnfhhmgfnbpaaDoor.E
