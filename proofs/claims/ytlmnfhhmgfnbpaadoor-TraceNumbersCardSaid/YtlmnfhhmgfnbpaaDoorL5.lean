/- WORDS FOR PROOFS OVER THE ENGINE: operations of the model's that read and make no memory. -/
import Derived.Test.YtlmnfhhmgfnbpaaDoorL3
namespace Go.Proofs.YtlmnfhhmgfnbpaaDoor.E
open Go
variable {P : Program}
theorem SemSpec.run {s : Sem Value} {v : Value} (h : ∀ w, s.run P w = .ok v w) (u : PH) : SemSpec P s u fun v' u' => v' = v ∧ u' = u :=
  fun w hw => ⟨v, w, u, h w, hw, ⟨rfl, rfl, rfl, Nat.le_refl _, fun _ _ hb => ⟨rfl, hb⟩⟩, rfl, rfl⟩
theorem sem_max {ts : Array TypeId} {t : TypeId} {k : IntKind} (a b : Int) (u : PH) : SemSpec P (Builtin.max_ ts t #[.int k a, .int k b]) u fun v u' => v = .int k (max a b) ∧ u' = u := by
  refine (SemSpec.run (v := .int k (if b > a then b else a)) (fun w => rfl) u).use ?_
  rintro v u' ⟨rfl, rfl⟩
  refine ⟨?_, rfl⟩
  congr 1
  split <;> omega
theorem sem_min {ts : Array TypeId} {t : TypeId} {k : IntKind} (a b : Int) (u : PH) : SemSpec P (Builtin.min_ ts t #[.int k a, .int k b]) u fun v u' => v = .int k (min a b) ∧ u' = u := by
  refine (SemSpec.run (v := .int k (if b < a then b else a)) (fun w => rfl) u).use ?_
  rintro v u' ⟨rfl, rfl⟩
  refine ⟨?_, rfl⟩
  congr 1
  split <;> omega
end Go.Proofs.YtlmnfhhmgfnbpaaDoor.E
