/- FROM CONTRACTS TO ROWS: slices of calls. -/
import Derived.Test.YtlmnfhhmgfnbpaaC6
import Derived.Test.YtlmnfhhmgfnbpaaK0
namespace Go.Proofs.Ytlmnfhhmgfnbpaa.E
open Go Go.ChangeShapes Go.WideShapes Go.ChangeAt Go.RowKit
theorem flat28 : flat Try.prog 8 28 = some [.int .i64, .int .i64, .int .i64, .int .i64, .int .i64, .int .i64, .int .i64, .int .i64, .int .i64, .int .i64, .int .i64, .bool, .int .i64] := by kernel_rfl
theorem cells28 : Try.prog.cellsOf 28 = 13 := by kernel_rfl
theorem dec28 : ∀ vs, fitsL [.int .i64, .int .i64, .int .i64, .int .i64, .int .i64, .int .i64, .int .i64, .int .i64, .int .i64, .int .i64, .int .i64, .bool, .int .i64] vs → ∃ y : Call, vs = y.cells ∧ True := by
  intro vs h
  have hl := fitsL_len h
  match vs, hl with
  | [v0, v1, v2, v3, v4, v5, v6, v7, v8, v9, v10, v11, v12], _ =>
    simp only [fitsL] at h
    obtain ⟨⟨n0, rfl, _⟩, ⟨n1, rfl, _⟩, ⟨n2, rfl, _⟩, ⟨n3, rfl, _⟩, ⟨n4, rfl, _⟩, ⟨n5, rfl, _⟩, ⟨n6, rfl, _⟩, ⟨n7, rfl, _⟩, ⟨n8, rfl, _⟩, ⟨n9, rfl, _⟩, ⟨n10, rfl, _⟩, ⟨b, rfl⟩, ⟨n12, rfl, _⟩, _⟩ := h
    exact ⟨⟨n0, n1, ⟨n2, n3, n4, n5, n6⟩, n7, n8, n9, n10, b, n12⟩, rfl, trivial⟩
theorem laidOut : laidOutB Try.prog = true := by kernel_rfl
theorem own : ownKnob Try.prog.godebug = none := by kernel_rfl
end Go.Proofs.Ytlmnfhhmgfnbpaa.E
