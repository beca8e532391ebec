import Derived.Test.YtlmnfhhmgfnbpaaDoorE13
import Derived.Test.YtlmnfhhmgfnbpaaDoorB0
namespace Go.Proofs.YtlmnfhhmgfnbpaaDoor.E
open Go
/-- cortado/cortadolaw45.TraceNumbers -/
def f4_h : Hints := ⟨[], []⟩
set_option maxRecDepth 100000 in
def f4_V (n : Int) (s : ByteArray) (u : PH) (Q : Value → PH → Prop) : Prop :=
 (((decide ((((s.size : Int)) : Int) > 40)) = true →
 Spec Tryd.prog 14 #[] u (fun v1 u2 =>
 ∃ b3 : Bool, v1 = .bool b3 ∧
 Q (.bool b3) u2)) ∧
 ((decide ((((s.size : Int)) : Int) > 40)) = false →
 Spec Tryd.prog 15 #[.string s] u (fun v4 u5 =>
 ∃ n6 : Int, ∃ b7 : Bool, v4 = .tuple #[.int .i64 n6, .bool b7] ∧
 Spec Tryd.prog 16 #[.string s] u5 (fun v8 u9 =>
 ∃ n10 : Int, ∃ b11 : Bool, v8 = .tuple #[.int .i64 n10, .bool b11] ∧
 Spec Tryd.prog 17 #[.int .i64 n] u9 (fun v12 u13 =>
 ∃ s14 : ByteArray, v12 = .string s14 ∧
 Spec Tryd.prog 15 #[.string s14] u13 (fun v15 u16 =>
 ∃ n17 : Int, ∃ b18 : Bool, v15 = .tuple #[.int .i64 n17, .bool b18] ∧
 Spec Tryd.prog 17 #[.int .i64 n] u16 (fun v19 u20 =>
 ∃ s21 : ByteArray, v19 = .string s21 ∧
 Spec Tryd.prog 18 #[.int .i64 n] u20 (fun v22 u23 =>
 ∃ s24 : ByteArray, v22 = .string s24 ∧
 ((((((ByteArray.toList s21 == ByteArray.toList s24) && ((n6 : Int) == n10)) && (b7 == b11)) && b18) && ((n17 : Int) == n)) = true →
 Spec Tryd.prog 14 #[] u23 (fun v25 u26 =>
 ∃ b27 : Bool, v25 = .bool b27 ∧
 Q (.bool b27) u26)) ∧
 ((((((ByteArray.toList s21 == ByteArray.toList s24) && ((n6 : Int) == n10)) && (b7 == b11)) && b18) && ((n17 : Int) == n)) = false →
 Q (.bool false) u23)))))))))
set_option maxRecDepth 100000 in
theorem f4_vc (n : Int) (s : ByteArray) (u : PH) (Q : Value → PH → Prop) : fnVC Tryd.prog f4_h Tryd.f4 [.c (.v (.int .i64 n)), .c (.v (.string s))] u Q = f4_V n s u Q := by kernel_rfl
theorem f4_of {n : Int} {s : ByteArray} {u : PH} {Q : Value → PH → Prop} (h : f4_V n s u Q) : Spec Tryd.prog 4 #[.int .i64 n, .string s] u Q :=
  spec_of_vc (H := f4_h) (ps := [.c (.v (.int .i64 n)), .c (.v (.string s))]) Tryd.func4 rfl (by rw [f4_vc]; exact h)
/-- cortado/trace.Num -/
def f15_h : Hints := ⟨[(2, ⟨[(2, .int .i64), (3, .bool)], [], []⟩)], []⟩
set_option maxRecDepth 100000 in
def f15_V (s : ByteArray) (u : PH) (Q : Value → PH → Prop) : Prop :=
 (SemSpec Tryd.prog (Instr.range 9 (.string s)) u (fun v1 u2 =>
 ∃ p3 : Option Addr, v1 = .pointer p3 ∧
 ∃ (I4 : Int → Bool → PH → Prop) (M5 : Int → Bool → PH → Nat), I4 0 false u2 ∧
 ∀ n6 : Int, ∀ b7 : Bool, ∀ u8 : PH, I4 n6 b7 u8 →
 SemSpec Tryd.prog (Instr.next (.pointer p3) true 0) u8 (fun v9 u10 =>
 (v9 = .tuple #[.bool false] ∧
 Spec Tryd.prog 40 #[.string s, .int .i64 10, .int .i64 64] u10 (fun v11 u12 =>
 ∃ n13 : Int, ∃ (v14 : Value) (h15 : notAgg v14 = true), v11 = .tuple #[.int .i64 n13, v14] ∧
 SemSpec Tryd.prog (do eqGuard .neq 76 (.tmp 33) (.const .nilIface) v14 .nilIface; binOp .neq 76 v14 .nilIface) u12 (fun v16 u17 =>
 ∃ b18 : Bool, v16 = .bool b18 ∧
 (b18 = true →
 Q (.tuple #[.int .i64 0, .bool false]) u17) ∧
 (b18 = false →
 Spec Tryd.prog 17 #[.int .i64 n13] u17 (fun v19 u20 =>
 ∃ s21 : ByteArray, v19 = .string s21 ∧
 ((!(ByteArray.toList s21 == ByteArray.toList s)) = true →
 Q (.tuple #[.int .i64 0, .bool false]) u20) ∧
 ((!(ByteArray.toList s21 == ByteArray.toList s)) = false →
 Q (.tuple #[.int .i64 n13, .bool true]) u20)))))) ∨
 (∃ n22 c23 : Int, v9 = .tuple #[.bool true, .int .i64 n22, .int .i32 c23] ∧
 ((((decide ((c23 : Int) < 48)) || (decide ((c23 : Int) > 57))) && (((c23 : Int) != 45) || (decide ((n22 : Int) > 0)))) = true →
 Q (.tuple #[.int .i64 0, .bool false]) u10) ∧
 ((((decide ((c23 : Int) < 48)) || (decide ((c23 : Int) > 57))) && (((c23 : Int) != 45) || (decide ((n22 : Int) > 0)))) = false →
 I4 n6 b7 u10 ∧ M5 n6 b7 u10 < M5 n6 b7 u8)))))
set_option maxRecDepth 100000 in
theorem f15_vc (s : ByteArray) (u : PH) (Q : Value → PH → Prop) : fnVC Tryd.prog f15_h Tryd.f15 [.c (.v (.string s))] u Q = f15_V s u Q := by kernel_rfl
theorem f15_of {s : ByteArray} {u : PH} {Q : Value → PH → Prop} (h : f15_V s u Q) : Spec Tryd.prog 15 #[.string s] u Q :=
  spec_of_vc (H := f15_h) (ps := [.c (.v (.string s))]) Tryd.func15 rfl (by rw [f15_vc]; exact h)
/-- cortado/cortadoref45.Num -/
def f16_h : Hints := ⟨[(6, ⟨[(2, .int .i64), (3, .bool), (4, .int .u64), (6, .int .i64)], [], []⟩)], []⟩
set_option maxRecDepth 100000 in
def f16_V (s : ByteArray) (u : PH) (Q : Value → PH → Prop) : Prop :=
 (((decide ((((s.size : Int)) : Int) > 0)) = true →
 SemSpec Tryd.prog (Instr.index 9 (.string s) (.int .i64 0)) u (fun v1 u2 =>
 ∃ n3 : Int, v1 = .int .u8 n3 ∧
 (((n3 : Int) == 45) = true →
 ∃ (I4 : Int → Bool → Int → Int → PH → Prop) (M5 : Int → Bool → Int → Int → PH → Nat), I4 0 false 0 1 u2 ∧
 ∀ n6 : Int, ∀ b7 : Bool, ∀ n8 : Int, ∀ n9 : Int, ∀ u10 : PH, I4 n6 b7 n8 n9 u10 →
 ((decide ((n9 : Int) < ((s.size : Int)))) = true →
 SemSpec Tryd.prog (Instr.index 9 (.string s) (.int .i64 n9)) u10 (fun v11 u12 =>
 ∃ n13 : Int, v11 = .int .u8 n13 ∧
 ((decide ((n13 : Int) < 48)) = true →
 Q (.tuple #[.int .i64 0, .bool false]) u12) ∧
 ((decide ((n13 : Int) < 48)) = false →
 SemSpec Tryd.prog (Instr.index 9 (.string s) (.int .i64 n9)) u12 (fun v14 u15 =>
 ∃ n16 : Int, v14 = .int .u8 n16 ∧
 (((decide ((n16 : Int) > 57)) || (decide ((n9 : Int) > 20))) = true →
 Q (.tuple #[.int .i64 0, .bool false]) u15) ∧
 (((decide ((n16 : Int) > 57)) || (decide ((n9 : Int) > 20))) = false →
 SemSpec Tryd.prog (Instr.index 9 (.string s) (.int .i64 n9)) u15 (fun v17 u18 =>
 ∃ n19 : Int, v17 = .int .u8 n19 ∧
 I4 n6 b7 (IntKind.wrap .u64 ((IntKind.wrap .u64 (10 * n8)) + (IntKind.wrap .u64 (IntKind.wrap .u8 (n19 - 48))))) (IntKind.wrap .i64 (n9 + 1)) u18 ∧ M5 n6 b7 (IntKind.wrap .u64 ((IntKind.wrap .u64 (10 * n8)) + (IntKind.wrap .u64 (IntKind.wrap .u8 (n19 - 48))))) (IntKind.wrap .i64 (n9 + 1)) u18 < M5 n6 b7 n8 n9 u10)))))) ∧
 ((decide ((n9 : Int) < ((s.size : Int)))) = false →
 (((1 : Int) == 1) = true →
 Spec Tryd.prog 18 #[.int .i64 (IntKind.wrap .i64 (IntKind.wrap .u64 (0 - n8)))] u10 (fun v20 u21 =>
 ∃ s22 : ByteArray, v20 = .string s22 ∧
 ((!(ByteArray.toList s22 == ByteArray.toList s)) = true →
 Q (.tuple #[.int .i64 0, .bool false]) u21) ∧
 ((!(ByteArray.toList s22 == ByteArray.toList s)) = false →
 Q (.tuple #[.int .i64 (IntKind.wrap .i64 (IntKind.wrap .u64 (0 - n8))), .bool true]) u21))) ∧
 (((1 : Int) == 1) = false →
 Spec Tryd.prog 18 #[.int .i64 (IntKind.wrap .i64 n8)] u10 (fun v23 u24 =>
 ∃ s25 : ByteArray, v23 = .string s25 ∧
 ((!(ByteArray.toList s25 == ByteArray.toList s)) = true →
 Q (.tuple #[.int .i64 0, .bool false]) u24) ∧
 ((!(ByteArray.toList s25 == ByteArray.toList s)) = false →
 Q (.tuple #[.int .i64 (IntKind.wrap .i64 n8), .bool true]) u24))))) ∧
 (((n3 : Int) == 45) = false →
 ∃ (I26 : Int → Bool → Int → Int → PH → Prop) (M27 : Int → Bool → Int → Int → PH → Nat), I26 0 false 0 0 u2 ∧
 ∀ n28 : Int, ∀ b29 : Bool, ∀ n30 : Int, ∀ n31 : Int, ∀ u32 : PH, I26 n28 b29 n30 n31 u32 →
 ((decide ((n31 : Int) < ((s.size : Int)))) = true →
 SemSpec Tryd.prog (Instr.index 9 (.string s) (.int .i64 n31)) u32 (fun v33 u34 =>
 ∃ n35 : Int, v33 = .int .u8 n35 ∧
 ((decide ((n35 : Int) < 48)) = true →
 Q (.tuple #[.int .i64 0, .bool false]) u34) ∧
 ((decide ((n35 : Int) < 48)) = false →
 SemSpec Tryd.prog (Instr.index 9 (.string s) (.int .i64 n31)) u34 (fun v36 u37 =>
 ∃ n38 : Int, v36 = .int .u8 n38 ∧
 (((decide ((n38 : Int) > 57)) || (decide ((n31 : Int) > 20))) = true →
 Q (.tuple #[.int .i64 0, .bool false]) u37) ∧
 (((decide ((n38 : Int) > 57)) || (decide ((n31 : Int) > 20))) = false →
 SemSpec Tryd.prog (Instr.index 9 (.string s) (.int .i64 n31)) u37 (fun v39 u40 =>
 ∃ n41 : Int, v39 = .int .u8 n41 ∧
 I26 n28 b29 (IntKind.wrap .u64 ((IntKind.wrap .u64 (10 * n30)) + (IntKind.wrap .u64 (IntKind.wrap .u8 (n41 - 48))))) (IntKind.wrap .i64 (n31 + 1)) u40 ∧ M27 n28 b29 (IntKind.wrap .u64 ((IntKind.wrap .u64 (10 * n30)) + (IntKind.wrap .u64 (IntKind.wrap .u8 (n41 - 48))))) (IntKind.wrap .i64 (n31 + 1)) u40 < M27 n28 b29 n30 n31 u32)))))) ∧
 ((decide ((n31 : Int) < ((s.size : Int)))) = false →
 (((0 : Int) == 1) = true →
 Spec Tryd.prog 18 #[.int .i64 (IntKind.wrap .i64 (IntKind.wrap .u64 (0 - n30)))] u32 (fun v42 u43 =>
 ∃ s44 : ByteArray, v42 = .string s44 ∧
 ((!(ByteArray.toList s44 == ByteArray.toList s)) = true →
 Q (.tuple #[.int .i64 0, .bool false]) u43) ∧
 ((!(ByteArray.toList s44 == ByteArray.toList s)) = false →
 Q (.tuple #[.int .i64 (IntKind.wrap .i64 (IntKind.wrap .u64 (0 - n30))), .bool true]) u43))) ∧
 (((0 : Int) == 1) = false →
 Spec Tryd.prog 18 #[.int .i64 (IntKind.wrap .i64 n30)] u32 (fun v45 u46 =>
 ∃ s47 : ByteArray, v45 = .string s47 ∧
 ((!(ByteArray.toList s47 == ByteArray.toList s)) = true →
 Q (.tuple #[.int .i64 0, .bool false]) u46) ∧
 ((!(ByteArray.toList s47 == ByteArray.toList s)) = false →
 Q (.tuple #[.int .i64 (IntKind.wrap .i64 n30), .bool true]) u46))))))) ∧
 ((decide ((((s.size : Int)) : Int) > 0)) = false →
 ∃ (I48 : Int → Bool → Int → Int → PH → Prop) (M49 : Int → Bool → Int → Int → PH → Nat), I48 0 false 0 0 u ∧
 ∀ n50 : Int, ∀ b51 : Bool, ∀ n52 : Int, ∀ n53 : Int, ∀ u54 : PH, I48 n50 b51 n52 n53 u54 →
 ((decide ((n53 : Int) < ((s.size : Int)))) = true →
 SemSpec Tryd.prog (Instr.index 9 (.string s) (.int .i64 n53)) u54 (fun v55 u56 =>
 ∃ n57 : Int, v55 = .int .u8 n57 ∧
 ((decide ((n57 : Int) < 48)) = true →
 Q (.tuple #[.int .i64 0, .bool false]) u56) ∧
 ((decide ((n57 : Int) < 48)) = false →
 SemSpec Tryd.prog (Instr.index 9 (.string s) (.int .i64 n53)) u56 (fun v58 u59 =>
 ∃ n60 : Int, v58 = .int .u8 n60 ∧
 (((decide ((n60 : Int) > 57)) || (decide ((n53 : Int) > 20))) = true →
 Q (.tuple #[.int .i64 0, .bool false]) u59) ∧
 (((decide ((n60 : Int) > 57)) || (decide ((n53 : Int) > 20))) = false →
 SemSpec Tryd.prog (Instr.index 9 (.string s) (.int .i64 n53)) u59 (fun v61 u62 =>
 ∃ n63 : Int, v61 = .int .u8 n63 ∧
 I48 n50 b51 (IntKind.wrap .u64 ((IntKind.wrap .u64 (10 * n52)) + (IntKind.wrap .u64 (IntKind.wrap .u8 (n63 - 48))))) (IntKind.wrap .i64 (n53 + 1)) u62 ∧ M49 n50 b51 (IntKind.wrap .u64 ((IntKind.wrap .u64 (10 * n52)) + (IntKind.wrap .u64 (IntKind.wrap .u8 (n63 - 48))))) (IntKind.wrap .i64 (n53 + 1)) u62 < M49 n50 b51 n52 n53 u54)))))) ∧
 ((decide ((n53 : Int) < ((s.size : Int)))) = false →
 (((0 : Int) == 1) = true →
 Spec Tryd.prog 18 #[.int .i64 (IntKind.wrap .i64 (IntKind.wrap .u64 (0 - n52)))] u54 (fun v64 u65 =>
 ∃ s66 : ByteArray, v64 = .string s66 ∧
 ((!(ByteArray.toList s66 == ByteArray.toList s)) = true →
 Q (.tuple #[.int .i64 0, .bool false]) u65) ∧
 ((!(ByteArray.toList s66 == ByteArray.toList s)) = false →
 Q (.tuple #[.int .i64 (IntKind.wrap .i64 (IntKind.wrap .u64 (0 - n52))), .bool true]) u65))) ∧
 (((0 : Int) == 1) = false →
 Spec Tryd.prog 18 #[.int .i64 (IntKind.wrap .i64 n52)] u54 (fun v67 u68 =>
 ∃ s69 : ByteArray, v67 = .string s69 ∧
 ((!(ByteArray.toList s69 == ByteArray.toList s)) = true →
 Q (.tuple #[.int .i64 0, .bool false]) u68) ∧
 ((!(ByteArray.toList s69 == ByteArray.toList s)) = false →
 Q (.tuple #[.int .i64 (IntKind.wrap .i64 n52), .bool true]) u68))))))
set_option maxRecDepth 100000 in
theorem f16_vc (s : ByteArray) (u : PH) (Q : Value → PH → Prop) : fnVC Tryd.prog f16_h Tryd.f16 [.c (.v (.string s))] u Q = f16_V s u Q := by kernel_rfl
theorem f16_of {s : ByteArray} {u : PH} {Q : Value → PH → Prop} (h : f16_V s u Q) : Spec Tryd.prog 16 #[.string s] u Q :=
  spec_of_vc (H := f16_h) (ps := [.c (.v (.string s))]) Tryd.func16 rfl (by rw [f16_vc]; exact h)
end Go.Proofs.YtlmnfhhmgfnbpaaDoor.E
