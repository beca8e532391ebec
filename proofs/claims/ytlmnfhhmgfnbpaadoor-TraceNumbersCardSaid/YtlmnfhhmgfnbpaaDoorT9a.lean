/- CONTRACTS: the example's line. -/
import Derived.Test.YtlmnfhhmgfnbpaaDoorT8
namespace Go.Proofs.YtlmnfhhmgfnbpaaDoor.E
open Go Go.RowKit
theorem itoa_dig (n : Nat) (h : n < 10) : Lib.itoa (n : Int) = [UInt8.ofNat (48 + n)] := by
  rw [Lib.itoa_nonneg, Lib.decDigits_one h]
def awC : Call := ⟨0, 3, ⟨2, 1, 5, 3, 0⟩, 4, 6, 7, 0, true, 0⟩
theorem aw_line : callL awC = [48, 46, 51, 32, 115, 101, 116, 32, 49, 32, 53, 32, 51, 32, 48, 32, 61, 32, 111, 107, 32, 48, 32, 91, 52, 32, 54, 32, 55, 93, 32, 64, 48] := by
  have i0 : Lib.itoa 0 = [48] := itoa_dig 0 (by omega)
  have i1 : Lib.itoa 1 = [49] := itoa_dig 1 (by omega)
  have i3 : Lib.itoa 3 = [51] := itoa_dig 3 (by omega)
  have i4 : Lib.itoa 4 = [52] := itoa_dig 4 (by omega)
  have i5 : Lib.itoa 5 = [53] := itoa_dig 5 (by omega)
  have i6 : Lib.itoa 6 = [54] := itoa_dig 6 (by omega)
  have i7 : Lib.itoa 7 = [55] := itoa_dig 7 (by omega)
  have h : rightB awC.op = true := by decide
  have hn : numsL awC.op = [1, 5, 3, 0] := by decide
  have hm : nameL awC.op.kind = [115, 101, 116] := by decide
  have ha : ansL awC.ok = [111, 107] := by decide
  rw [callL, if_pos h, wordsL, hn, hm, ha]
  simp only [List.map_cons, List.map_nil, awC, i0, i1, i3, i4, i5, i6, i7]
  rfl
theorem awC_ok : CallI awC := by
  constructor
  all_goals first
    | (constructor <;> (constructor <;> decide))
    | (constructor <;> decide)
theorem f14_spec {u : PH} (T : Tb u) : Spec Tryd.prog 14 #[] u fun v u' => v = .bool true ∧ Ext u u' := by
  refine f14_of ?_
  unfold f14_V
  refine (f8_spec f29_spec awC_ok T).use ?_
  rintro v u' ⟨rfl, hE⟩
  refine ⟨_, rfl, ?_, hE⟩
  rw [aw_line]
  simp
end Go.Proofs.YtlmnfhhmgfnbpaaDoor.E
