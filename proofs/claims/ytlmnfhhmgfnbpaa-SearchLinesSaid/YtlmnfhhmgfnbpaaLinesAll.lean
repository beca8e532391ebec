/- joined from VE VF G1 G2 G3 G4 G5 G6 LawLines -/
import Derived.Test.YtlmnfhhmgfnbpaaE13
import Derived.Test.YtlmnfhhmgfnbpaaB0
import Derived.Test.YtlmnfhhmgfnbpaaD5
import Derived.Test.YtlmnfhhmgfnbpaaD8
import Derived.Test.YtlmnfhhmgfnbpaaC3
import Derived.Test.YtlmnfhhmgfnbpaaD9
import Derived.Test.YtlmnfhhmgfnbpaaK1
namespace Go.Proofs.Ytlmnfhhmgfnbpaa.E
open Go
/-- cortado/cortadolaw39.SearchLines -/
def f5_h : Hints := ⟨[], []⟩
set_option maxRecDepth 100000 in
def f5_V (x0 : Option Addr) (x0_l x0_c : Nat) (x1 : Option Addr) (x1_l x1_c : Nat) (x2 : Int) (u : PH) (Q : Value → PH → Prop) : Prop :=
 ((((decide (((((x0_l : Nat) : Int)) : Int) > 5)) || (decide (((((x1_l : Nat) : Int)) : Int) > 6))) = true →
 Spec Try.prog 22 #[] u (fun v1 u2 =>
 ∃ b3 : Bool, v1 = .bool b3 ∧
 Q (.bool b3) u2)) ∧
 (((decide (((((x0_l : Nat) : Int)) : Int) > 5)) || (decide (((((x1_l : Nat) : Int)) : Int) > 6))) = false →
 (20 : Int) ≠ 0 ∧
 Spec Try.prog 26 #[.slice x0 x0_l x0_c, .int .i64 (IntKind.wrap .i64 ((Int.tmod x2 20)))] u (fun v4 u5 =>
 ∃ (a6 : Option Addr) (l7 c8 : Nat), v4 = .slice a6 l7 c8 ∧
 Spec Try.prog 27 #[.slice x0 x0_l x0_c, .int .i64 (IntKind.wrap .i64 ((Int.tmod x2 20)))] u5 (fun v9 u10 =>
 ∃ (v11 : Value) (h12 : notAgg v11 = true), v9 = v11 ∧
 SemSpec Try.prog (do eqGuard .eql 43 (.tmp 33) (.const .nilFunc) v11 .nilFunc; binOp .eql 43 v11 .nilFunc) u10 (fun v13 u14 =>
 ∃ b15 : Bool, v13 = .bool b15 ∧
 (b15 = true →
 Q (.bool false) u14) ∧
 (b15 = false →
 ∀ B16 : Nat, u14 B16 = none →
 ∀ B17 : Nat, (PH.add u14 B16 (.cells #[.int .i64 0] 3)) B17 = none →
 ∀ B18 : Nat, (PH.add (PH.add u14 B16 (.cells #[.int .i64 0] 3)) B17 (.cells #[.slice a6 l7 c8] 40)) B18 = none →
 True ∧
 ∀ (L19 : Nat) (O20 O21 O22 : Obj) (O23 : Nat → Obj), (PH.add (PH.add (PH.add u14 B16 (.cells #[.int .i64 0] 3)) B17 (.cells #[.slice a6 l7 c8] 40)) B18 (.cells #[.bool false] 4)) L19 = none →
 (∀ x26 : Value, ∀ (u24 : PH) (R25 : Value → PH → Prop),
 (u24 L19 = some O20 ∧
 ∃ (a27 : Option Addr) (l28 c29 : Nat), x26 = .slice a27 l28 c29 ∧
 u24 L19 = some O20 ∧
 ∃ n30 : Int, PH.cell (PH.add u24 L19 O21) B16 0 = some (.int .i64 n30) ∧
 ∃ (a31 : Option Addr) (l32 c33 : Nat), PH.cell (PH.add u24 L19 O21) B17 0 = some (.slice a31 l32 c33) ∧
 ((decide ((n30 : Int) ≥ (((l32 : Nat) : Int)))) = true →
 PH.free (PH.add u24 L19 O21) B18 0 1 ∧
 (PH.write (PH.add u24 L19 O21) B18 0 [.bool false]) L19 = some O21 ∧
 R25 (.bool false) (PH.add (PH.write (PH.add u24 L19 O21) B18 0 [.bool false]) L19 O22)) ∧
 ((decide ((n30 : Int) ≥ (((l32 : Nat) : Int)))) = false →
 ∃ (a34 : Option Addr) (l35 c36 : Nat), PH.cell (PH.add u24 L19 O21) B17 0 = some (.slice a34 l35 c36) ∧
 ∃ n37 : Int, PH.cell (PH.add u24 L19 O21) B16 0 = some (.int .i64 n37) ∧
 ∃ b38 o39 : Nat, (a34 : Option Addr) = some ⟨b38, o39, none⟩ ∧ ((0 : Int) ≤ n37 ∧ (n37 : Int) < ((l35 : Nat) : Int)) ∧
 ∃ (a40 : Option Addr) (l41 c42 : Nat), PH.cell (PH.add u24 L19 O21) b38 (o39 + (n37 : Int).toNat * 1) = some (.slice a40 l41 c42) ∧
 Spec Try.prog 28 #[.slice a27 l28 c29, .slice a40 l41 c42] (PH.add u24 L19 O21) (fun v43 u44 =>
 ∃ b45 : Bool, v43 = .bool b45 ∧
 ((!b45) = true →
 PH.free u44 B18 0 1 ∧
 (PH.write u44 B18 0 [.bool false]) L19 = some O21 ∧
 R25 (.bool false) (PH.add (PH.write u44 B18 0 [.bool false]) L19 O22)) ∧
 ((!b45) = false →
 ∃ n46 : Int, PH.cell u44 B16 0 = some (.int .i64 n46) ∧
 PH.free u44 B16 0 1 ∧
 (PH.write u44 B16 0 [.int .i64 (IntKind.wrap .i64 (n46 + 1))]) L19 = some O21 ∧
 R25 (.bool true) (PH.add (PH.write u44 B16 0 [.int .i64 (IntKind.wrap .i64 (n46 + 1))]) L19 O20))))) →
 CallV Try.prog (.func (.yield L19) #[] #[]) [x26] u24 R25) →
 CallF Try.prog v11 [.func (.yield L19) #[] #[]] (PH.add (PH.add (PH.add (PH.add u14 B16 (.cells #[.int .i64 0] 3)) B17 (.cells #[.slice a6 l7 c8] 40)) B18 (.cells #[.bool false] 4)) L19 O20) (fun _ u47 =>
 (u47 L19 = some O20 ∧
 Spec Try.prog 23 #[.slice x0 x0_l x0_c] (PH.del u47 L19) (fun v48 u49 =>
 ∃ (a50 : Option Addr) (l51 c52 : Nat), ∃ b53 : Bool, v48 = .tuple #[.slice a50 l51 c52, .bool b53] ∧
 Spec Try.prog 26 #[.slice x0 x0_l x0_c, .int .i64 1] u49 (fun v54 u55 =>
 ∃ (a56 : Option Addr) (l57 c58 : Nat), v54 = .slice a56 l57 c58 ∧
 ∃ n59 : Int, PH.cell u55 B16 0 = some (.int .i64 n59) ∧
 ∃ (a60 : Option Addr) (l61 c62 : Nat), PH.cell u55 B17 0 = some (.slice a60 l61 c62) ∧
 ((((n59 : Int) == (((l61 : Nat) : Int))) && (b53 == (decide (((((l57 : Nat) : Int)) : Int) > 0)))) = true →
 ((!b53) = true →
 Spec Try.prog 29 #[.slice x0 x0_l x0_c] u55 (fun v63 u64 =>
 ∃ b65 : Bool, v63 = .bool b65 ∧
 ((b65 == b53) = true →
 Spec Try.prog 30 #[.slice x0 x0_l x0_c, .slice x1 x1_l x1_c] u64 (fun v66 u67 =>
 ∃ b68 : Bool, v66 = .bool b68 ∧
 Spec Try.prog 24 #[.slice x0 x0_l x0_c, .slice x1 x1_l x1_c] u67 (fun v69 u70 =>
 ∃ b71 : Bool, v69 = .bool b71 ∧
 ((b68 == b71) = true →
 Spec Try.prog 22 #[] u70 (fun v72 u73 =>
 ∃ b74 : Bool, v72 = .bool b74 ∧
 PH.free u73 B18 0 1 ∧
 ∃ b75 : Bool, PH.cell (PH.write u73 B18 0 [.bool b74]) B18 0 = some (.bool b75) ∧
 Q (.bool b75) (PH.write u73 B18 0 [.bool b74]))) ∧
 ((b68 == b71) = false →
 PH.free u70 B18 0 1 ∧
 ∃ b76 : Bool, PH.cell (PH.write u70 B18 0 [.bool false]) B18 0 = some (.bool b76) ∧
 Q (.bool b76) (PH.write u70 B18 0 [.bool false]))))) ∧
 ((b65 == b53) = false →
 PH.free u64 B18 0 1 ∧
 ∃ b77 : Bool, PH.cell (PH.write u64 B18 0 [.bool false]) B18 0 = some (.bool b77) ∧
 Q (.bool b77) (PH.write u64 B18 0 [.bool false])))) ∧
 ((!b53) = false →
 ∃ b78 o79 : Nat, (a56 : Option Addr) = some ⟨b78, o79, none⟩ ∧ ((0 : Int) ≤ 0 ∧ (0 : Int) < ((l57 : Nat) : Int)) ∧
 ∃ (a80 : Option Addr) (l81 c82 : Nat), PH.cell u55 b78 (o79 + (0 : Int).toNat * 1) = some (.slice a80 l81 c82) ∧
 Spec Try.prog 28 #[.slice a50 l51 c52, .slice a80 l81 c82] u55 (fun v83 u84 =>
 ∃ b85 : Bool, v83 = .bool b85 ∧
 (b85 = true →
 Spec Try.prog 29 #[.slice x0 x0_l x0_c] u84 (fun v86 u87 =>
 ∃ b88 : Bool, v86 = .bool b88 ∧
 ((b88 == b53) = true →
 Spec Try.prog 30 #[.slice x0 x0_l x0_c, .slice x1 x1_l x1_c] u87 (fun v89 u90 =>
 ∃ b91 : Bool, v89 = .bool b91 ∧
 Spec Try.prog 24 #[.slice x0 x0_l x0_c, .slice x1 x1_l x1_c] u90 (fun v92 u93 =>
 ∃ b94 : Bool, v92 = .bool b94 ∧
 ((b91 == b94) = true →
 Spec Try.prog 22 #[] u93 (fun v95 u96 =>
 ∃ b97 : Bool, v95 = .bool b97 ∧
 PH.free u96 B18 0 1 ∧
 ∃ b98 : Bool, PH.cell (PH.write u96 B18 0 [.bool b97]) B18 0 = some (.bool b98) ∧
 Q (.bool b98) (PH.write u96 B18 0 [.bool b97]))) ∧
 ((b91 == b94) = false →
 PH.free u93 B18 0 1 ∧
 ∃ b99 : Bool, PH.cell (PH.write u93 B18 0 [.bool false]) B18 0 = some (.bool b99) ∧
 Q (.bool b99) (PH.write u93 B18 0 [.bool false]))))) ∧
 ((b88 == b53) = false →
 PH.free u87 B18 0 1 ∧
 ∃ b100 : Bool, PH.cell (PH.write u87 B18 0 [.bool false]) B18 0 = some (.bool b100) ∧
 Q (.bool b100) (PH.write u87 B18 0 [.bool false])))) ∧
 (b85 = false →
 PH.free u84 B18 0 1 ∧
 ∃ b101 : Bool, PH.cell (PH.write u84 B18 0 [.bool false]) B18 0 = some (.bool b101) ∧
 Q (.bool b101) (PH.write u84 B18 0 [.bool false]))))) ∧
 ((((n59 : Int) == (((l61 : Nat) : Int))) && (b53 == (decide (((((l57 : Nat) : Int)) : Int) > 0)))) = false →
 PH.free u55 B18 0 1 ∧
 ∃ b102 : Bool, PH.cell (PH.write u55 B18 0 [.bool false]) B18 0 = some (.bool b102) ∧
 Q (.bool b102) (PH.write u55 B18 0 [.bool false]))))) ∨
 (u47 L19 = some O22 ∧
 ∃ b103 : Bool, PH.cell (PH.del u47 L19) B18 0 = some (.bool b103) ∧
 Q (.bool b103) (PH.del u47 L19)))))))))
set_option maxRecDepth 100000 in
theorem f5_vc (x0 : Option Addr) (x0_l x0_c : Nat) (x1 : Option Addr) (x1_l x1_c : Nat) (x2 : Int) (u : PH) (Q : Value → PH → Prop) : fnVC Try.prog f5_h Try.f5 [.c (.v (.slice x0 x0_l x0_c)), .c (.v (.slice x1 x1_l x1_c)), .c (.v (.int .u64 x2))] u Q = f5_V x0 x0_l x0_c x1 x1_l x1_c x2 u Q := by kernel_rfl
theorem f5_of {x0 : Option Addr} {x0_l x0_c : Nat} {x1 : Option Addr} {x1_l x1_c : Nat} {x2 : Int} {u : PH} {Q : Value → PH → Prop} (h : f5_V x0 x0_l x0_c x1 x1_l x1_c x2 u Q) : Spec Try.prog 5 #[.slice x0 x0_l x0_c, .slice x1 x1_l x1_c, .int .u64 x2] u Q :=
  spec_of_vc (H := f5_h) (ps := [.c (.v (.slice x0 x0_l x0_c)), .c (.v (.slice x1 x1_l x1_c)), .c (.v (.int .u64 x2))]) Try.func5 rfl (by rw [f5_vc]; exact h)
/-- cortado/cortadoref39.Lines -/
def f26_h : Hints := ⟨[(4, ⟨[(6, .slice), (7, .int .i64)], [], []⟩), (8, ⟨[(5, .slice), (6, .slice), (8, .bool)], [], []⟩)], []⟩
set_option maxRecDepth 100000 in
def f26_V (l : Option Addr) (l_l l_c : Nat) (most : Int) (u : PH) (Q : Value → PH → Prop) : Prop :=
 (∃ (I1 : Option Addr → Nat → Nat → Int → PH → Prop) (M2 : Option Addr → Nat → Nat → Int → PH → Nat), I1 none 0 0 0 u ∧
 ∀ (a3 : Option Addr) (l4 c5 : Nat), ∀ n6 : Int, ∀ u7 : PH, I1 a3 l4 c5 n6 u7 →
 ((decide ((n6 : Int) < (((l_l : Nat) : Int)))) = true →
 ∀ B8 : Nat, u7 B8 = none →
 SemSpec Try.prog (Builtin.append_ #[35, 35] 35 #[.slice a3 l4 c5, .slice ((some ⟨B8, 0, none⟩)) 1 1]) (PH.add u7 B8 (.cells #[.int .i64 n6] 3)) (fun v9 u10 =>
 ∃ (a11 : Option Addr) (l12 c13 : Nat), v9 = .slice a11 l12 c13 ∧
 I1 a11 l12 c13 (IntKind.wrap .i64 (n6 + 1)) u10 ∧ M2 a11 l12 c13 (IntKind.wrap .i64 (n6 + 1)) u10 < M2 a3 l4 c5 n6 u7)) ∧
 ((decide ((n6 : Int) < (((l_l : Nat) : Int)))) = false →
 ∃ (I14 : Option Addr → Nat → Nat → Option Addr → Nat → Nat → Bool → PH → Prop) (M15 : Option Addr → Nat → Nat → Option Addr → Nat → Nat → Bool → PH → Nat), I14 none 0 0 a3 l4 c5 true u7 ∧
 ∀ (a16 : Option Addr) (l17 c18 : Nat), ∀ (a19 : Option Addr) (l20 c21 : Nat), ∀ b22 : Bool, ∀ u23 : PH, I14 a16 l17 c18 a19 l20 c21 b22 u23 →
 ((b22 && (decide (((((l17 : Nat) : Int)) : Int) < most))) = true →
 Spec Try.prog 24 #[.slice l l_l l_c, .slice a19 l20 c21] u23 (fun v24 u25 =>
 ∃ b26 : Bool, v24 = .bool b26 ∧
 (b26 = true →
 ∀ B27 : Nat, u25 B27 = none →
 SemSpec Try.prog (Builtin.append_ #[40, 40] 40 #[.slice a16 l17 c18, .slice ((some ⟨B27, 0, none⟩)) 1 1]) (PH.add u25 B27 (.cells #[.slice a19 l20 c21] 35)) (fun v28 u29 =>
 ∃ (a30 : Option Addr) (l31 c32 : Nat), v28 = .slice a30 l31 c32 ∧
 Spec Try.prog 46 #[.slice a19 l20 c21] u29 (fun v33 u34 =>
 ∃ (a35 : Option Addr) (l36 c37 : Nat), ∃ b38 : Bool, v33 = .tuple #[.slice a35 l36 c37, .bool b38] ∧
 I14 a30 l31 c32 a35 l36 c37 b38 u34 ∧ M15 a30 l31 c32 a35 l36 c37 b38 u34 < M15 a16 l17 c18 a19 l20 c21 b22 u23))) ∧
 (b26 = false →
 Spec Try.prog 46 #[.slice a19 l20 c21] u25 (fun v39 u40 =>
 ∃ (a41 : Option Addr) (l42 c43 : Nat), ∃ b44 : Bool, v39 = .tuple #[.slice a41 l42 c43, .bool b44] ∧
 I14 a16 l17 c18 a41 l42 c43 b44 u40 ∧ M15 a16 l17 c18 a41 l42 c43 b44 u40 < M15 a16 l17 c18 a19 l20 c21 b22 u23)))) ∧
 ((b22 && (decide (((((l17 : Nat) : Int)) : Int) < most))) = false →
 Q (.slice a16 l17 c18) u23)))
set_option maxRecDepth 100000 in
theorem f26_vc (l : Option Addr) (l_l l_c : Nat) (most : Int) (u : PH) (Q : Value → PH → Prop) : fnVC Try.prog f26_h Try.f26 [.c (.v (.slice l l_l l_c)), .c (.v (.int .i64 most))] u Q = f26_V l l_l l_c most u Q := by kernel_rfl
theorem f26_of {l : Option Addr} {l_l l_c : Nat} {most : Int} {u : PH} {Q : Value → PH → Prop} (h : f26_V l l_l l_c most u Q) : Spec Try.prog 26 #[.slice l l_l l_c, .int .i64 most] u Q :=
  spec_of_vc (H := f26_h) (ps := [.c (.v (.slice l l_l l_c)), .c (.v (.int .i64 most))]) Try.func26 rfl (by rw [f26_vc]; exact h)
/-- cortado/search.Linear -/
def f29_h : Hints := ⟨[], []⟩
set_option maxRecDepth 100000 in
def f29_V (l : Option Addr) (l_l l_c : Nat) (u : PH) (Q : Value → PH → Prop) : Prop :=
 (Spec Try.prog 23 #[.slice l l_l l_c] u (fun v1 u2 =>
 ∃ (a3 : Option Addr) (l4 c5 : Nat), ∃ b6 : Bool, v1 = .tuple #[.slice a3 l4 c5, .bool b6] ∧
 Q (.bool b6) u2))
set_option maxRecDepth 100000 in
theorem f29_vc (l : Option Addr) (l_l l_c : Nat) (u : PH) (Q : Value → PH → Prop) : fnVC Try.prog f29_h Try.f29 [.c (.v (.slice l l_l l_c))] u Q = f29_V l l_l l_c u Q := by kernel_rfl
theorem f29_of {l : Option Addr} {l_l l_c : Nat} {u : PH} {Q : Value → PH → Prop} (h : f29_V l l_l l_c u Q) : Spec Try.prog 29 #[.slice l l_l l_c] u Q :=
  spec_of_vc (H := f29_h) (ps := [.c (.v (.slice l l_l l_c))]) Try.func29 rfl (by rw [f29_vc]; exact h)
/-- cortado/search.Line -/
def f30_h : Hints := ⟨[(5, ⟨[(5, .slice), (15, .int .i64)], [], []⟩)], []⟩
set_option maxRecDepth 100000 in
def f30_V (l : Option Addr) (l_l l_c : Nat) (order : Option Addr) (order_l order_c : Nat) (u : PH) (Q : Value → PH → Prop) : Prop :=
 (Spec Try.prog 50 #[.slice order order_l order_c, .int .i64 (((l_l : Nat) : Int))] u (fun v1 u2 =>
 ∃ b3 : Bool, v1 = .bool b3 ∧
 ((!b3) = true →
 Q (.bool false) u2) ∧
 ((!b3) = false →
 ∃ (I4 : Option Addr → Nat → Nat → Int → PH → Prop) (M5 : Option Addr → Nat → Nat → Int → PH → Nat), I4 none 0 0 0 u2 ∧
 ∀ (a6 : Option Addr) (l7 c8 : Nat), ∀ n9 : Int, ∀ u10 : PH, I4 a6 l7 c8 n9 u10 →
 ((decide ((n9 : Int) < (((order_l : Nat) : Int)))) = true →
 ∃ b11 o12 : Nat, (order : Option Addr) = some ⟨b11, o12, none⟩ ∧ ((0 : Int) ≤ n9 ∧ (n9 : Int) < ((order_l : Nat) : Int)) ∧
 ∃ n13 : Int, PH.cell u10 b11 (o12 + (n9 : Int).toNat * 1) = some (.int .i64 n13) ∧
 ∃ b14 o15 : Nat, (l : Option Addr) = some ⟨b14, o15, none⟩ ∧ ((0 : Int) ≤ n13 ∧ (n13 : Int) < ((l_l : Nat) : Int)) ∧
 ∃ n16 : Int, ∃ n17 : Int, ∃ n18 : Int, ∃ n19 : Int, ∃ n20 : Int, ∃ n21 : Int, ∃ n22 : Int, ∃ n23 : Int, ∃ n24 : Int, ∃ n25 : Int, ∃ n26 : Int, ∃ b27 : Bool, ∃ n28 : Int, PH.cells u10 b14 (o15 + (n13 : Int).toNat * 13) [.int .i64 n16, .int .i64 n17, .int .i64 n18, .int .i64 n19, .int .i64 n20, .int .i64 n21, .int .i64 n22, .int .i64 n23, .int .i64 n24, .int .i64 n25, .int .i64 n26, .bool b27, .int .i64 n28] ∧
 ∀ B29 : Nat, u10 B29 = none →
 SemSpec Try.prog (Builtin.append_ #[22, 22] 22 #[.slice a6 l7 c8, .slice ((some ⟨B29, 0, none⟩)) 1 1]) (PH.add u10 B29 (.cells #[.int .i64 n16, .int .i64 n17, .int .i64 n18, .int .i64 n19, .int .i64 n20, .int .i64 n21, .int .i64 n22, .int .i64 n23, .int .i64 n24, .int .i64 n25, .int .i64 n26, .bool b27, .int .i64 n28] 28)) (fun v30 u31 =>
 ∃ (a32 : Option Addr) (l33 c34 : Nat), v30 = .slice a32 l33 c34 ∧
 I4 a32 l33 c34 (IntKind.wrap .i64 (n9 + 1)) u31 ∧ M5 a32 l33 c34 (IntKind.wrap .i64 (n9 + 1)) u31 < M5 a6 l7 c8 n9 u10)) ∧
 ((decide ((n9 : Int) < (((order_l : Nat) : Int)))) = false →
 Spec Try.prog 20 #[.slice a6 l7 c8] u10 (fun v35 u36 =>
 ∃ n37 : Int, v35 = .int .i64 n37 ∧
 (((n37 : Int) == 0) = true →
 Spec Try.prog 51 #[.slice a6 l7 c8] u36 (fun v38 u39 =>
 ∃ n40 : Int, v38 = .int .i64 n40 ∧
 Q (.bool ((n40 : Int) == (((l7 : Nat) : Int)))) u39)) ∧
 (((n37 : Int) == 0) = false →
 Q (.bool false) u36))))))
set_option maxRecDepth 100000 in
theorem f30_vc (l : Option Addr) (l_l l_c : Nat) (order : Option Addr) (order_l order_c : Nat) (u : PH) (Q : Value → PH → Prop) : fnVC Try.prog f30_h Try.f30 [.c (.v (.slice l l_l l_c)), .c (.v (.slice order order_l order_c))] u Q = f30_V l l_l l_c order order_l order_c u Q := by kernel_rfl
theorem f30_of {l : Option Addr} {l_l l_c : Nat} {order : Option Addr} {order_l order_c : Nat} {u : PH} {Q : Value → PH → Prop} (h : f30_V l l_l l_c order order_l order_c u Q) : Spec Try.prog 30 #[.slice l l_l l_c, .slice order order_l order_c] u Q :=
  spec_of_vc (H := f30_h) (ps := [.c (.v (.slice l l_l l_c)), .c (.v (.slice order order_l order_c))]) Try.func30 rfl (by rw [f30_vc]; exact h)
/-- cortado/cortadoref39.Next -/
def f46_h : Hints := ⟨[(3, ⟨[(5, .int .i64)], [], []⟩), (8, ⟨[(6, .int .i64)], [], []⟩), (14, ⟨[(8, .int .i64), (9, .int .i64)], [], []⟩)], []⟩
set_option maxRecDepth 100000 in
def f46_V (x0 : Option Addr) (x0_l x0_c : Nat) (u : PH) (Q : Value → PH → Prop) : Prop :=
 (∀ B1 : Nat, u B1 = none →
 SemSpec Try.prog (Builtin.append_ #[35, 35] 35 #[.slice ((some ⟨B1, 0, none⟩)) 0 0, .slice x0 x0_l x0_c]) (PH.add u B1 (.cells #[] 3)) (fun v2 u3 =>
 ∃ (a4 : Option Addr) (l5 c6 : Nat), v2 = .slice a4 l5 c6 ∧
 ∃ (I7 : Int → PH → Prop) (M8 : Int → PH → Nat), I7 (IntKind.wrap .i64 ((((l5 : Nat) : Int)) - 2)) u3 ∧
 ∀ n9 : Int, ∀ u10 : PH, I7 n9 u10 →
 ((decide ((n9 : Int) ≥ 0)) = true →
 ∃ b11 o12 : Nat, (a4 : Option Addr) = some ⟨b11, o12, none⟩ ∧ ((0 : Int) ≤ n9 ∧ (n9 : Int) < ((l5 : Nat) : Int)) ∧
 ∃ n13 : Int, PH.cell u10 b11 (o12 + (n9 : Int).toNat * 1) = some (.int .i64 n13) ∧
 ∃ b14 o15 : Nat, (a4 : Option Addr) = some ⟨b14, o15, none⟩ ∧ ((0 : Int) ≤ (IntKind.wrap .i64 (n9 + 1)) ∧ ((IntKind.wrap .i64 (n9 + 1)) : Int) < ((l5 : Nat) : Int)) ∧
 ∃ n16 : Int, PH.cell u10 b14 (o15 + ((IntKind.wrap .i64 (n9 + 1)) : Int).toNat * 1) = some (.int .i64 n16) ∧
 ((decide ((n13 : Int) > n16)) = true →
 I7 (IntKind.wrap .i64 (n9 - 1)) u10 ∧ M8 (IntKind.wrap .i64 (n9 - 1)) u10 < M8 n9 u10) ∧
 ((decide ((n13 : Int) > n16)) = false →
 ((decide ((n9 : Int) < 0)) = true →
 Q (.tuple #[.slice a4 l5 c6, .bool false]) u10) ∧
 ((decide ((n9 : Int) < 0)) = false →
 ∃ (I17 : Int → PH → Prop) (M18 : Int → PH → Nat), I17 (IntKind.wrap .i64 ((((l5 : Nat) : Int)) - 1)) u10 ∧
 ∀ n19 : Int, ∀ u20 : PH, I17 n19 u20 →
 ∃ b21 o22 : Nat, (a4 : Option Addr) = some ⟨b21, o22, none⟩ ∧ ((0 : Int) ≤ n19 ∧ (n19 : Int) < ((l5 : Nat) : Int)) ∧
 ∃ n23 : Int, PH.cell u20 b21 (o22 + (n19 : Int).toNat * 1) = some (.int .i64 n23) ∧
 ∃ b24 o25 : Nat, (a4 : Option Addr) = some ⟨b24, o25, none⟩ ∧ ((0 : Int) ≤ n9 ∧ (n9 : Int) < ((l5 : Nat) : Int)) ∧
 ∃ n26 : Int, PH.cell u20 b24 (o25 + (n9 : Int).toNat * 1) = some (.int .i64 n26) ∧
 ((decide ((n23 : Int) < n26)) = true →
 I17 (IntKind.wrap .i64 (n19 - 1)) u20 ∧ M18 (IntKind.wrap .i64 (n19 - 1)) u20 < M18 n19 u20) ∧
 ((decide ((n23 : Int) < n26)) = false →
 ∃ b27 o28 : Nat, (a4 : Option Addr) = some ⟨b27, o28, none⟩ ∧ ((0 : Int) ≤ n9 ∧ (n9 : Int) < ((l5 : Nat) : Int)) ∧
 ∃ n29 : Int, PH.cell u20 b27 (o28 + (n9 : Int).toNat * 1) = some (.int .i64 n29) ∧
 ∃ b30 o31 : Nat, (a4 : Option Addr) = some ⟨b30, o31, none⟩ ∧ ((0 : Int) ≤ n19 ∧ (n19 : Int) < ((l5 : Nat) : Int)) ∧
 ∃ n32 : Int, PH.cell u20 b30 (o31 + (n19 : Int).toNat * 1) = some (.int .i64 n32) ∧
 ∃ b33 o34 : Nat, (a4 : Option Addr) = some ⟨b33, o34, none⟩ ∧ ((0 : Int) ≤ n9 ∧ (n9 : Int) < ((l5 : Nat) : Int)) ∧
 PH.free u20 b33 (o34 + (n9 : Int).toNat * 1) 1 ∧
 ∃ b35 o36 : Nat, (a4 : Option Addr) = some ⟨b35, o36, none⟩ ∧ ((0 : Int) ≤ n19 ∧ (n19 : Int) < ((l5 : Nat) : Int)) ∧
 PH.free (PH.write u20 b33 (o34 + (n9 : Int).toNat * 1) [.int .i64 n32]) b35 (o36 + (n19 : Int).toNat * 1) 1 ∧
 ∃ (I37 : Int → Int → PH → Prop) (M38 : Int → Int → PH → Nat), I37 (IntKind.wrap .i64 (n9 + 1)) (IntKind.wrap .i64 ((((l5 : Nat) : Int)) - 1)) (PH.write (PH.write u20 b33 (o34 + (n9 : Int).toNat * 1) [.int .i64 n32]) b35 (o36 + (n19 : Int).toNat * 1) [.int .i64 n29]) ∧
 ∀ n39 : Int, ∀ n40 : Int, ∀ u41 : PH, I37 n39 n40 u41 →
 ((decide ((n39 : Int) < n40)) = true →
 ∃ b42 o43 : Nat, (a4 : Option Addr) = some ⟨b42, o43, none⟩ ∧ ((0 : Int) ≤ n39 ∧ (n39 : Int) < ((l5 : Nat) : Int)) ∧
 ∃ n44 : Int, PH.cell u41 b42 (o43 + (n39 : Int).toNat * 1) = some (.int .i64 n44) ∧
 ∃ b45 o46 : Nat, (a4 : Option Addr) = some ⟨b45, o46, none⟩ ∧ ((0 : Int) ≤ n40 ∧ (n40 : Int) < ((l5 : Nat) : Int)) ∧
 ∃ n47 : Int, PH.cell u41 b45 (o46 + (n40 : Int).toNat * 1) = some (.int .i64 n47) ∧
 ∃ b48 o49 : Nat, (a4 : Option Addr) = some ⟨b48, o49, none⟩ ∧ ((0 : Int) ≤ n39 ∧ (n39 : Int) < ((l5 : Nat) : Int)) ∧
 PH.free u41 b48 (o49 + (n39 : Int).toNat * 1) 1 ∧
 ∃ b50 o51 : Nat, (a4 : Option Addr) = some ⟨b50, o51, none⟩ ∧ ((0 : Int) ≤ n40 ∧ (n40 : Int) < ((l5 : Nat) : Int)) ∧
 PH.free (PH.write u41 b48 (o49 + (n39 : Int).toNat * 1) [.int .i64 n47]) b50 (o51 + (n40 : Int).toNat * 1) 1 ∧
 I37 (IntKind.wrap .i64 (n39 + 1)) (IntKind.wrap .i64 (n40 - 1)) (PH.write (PH.write u41 b48 (o49 + (n39 : Int).toNat * 1) [.int .i64 n47]) b50 (o51 + (n40 : Int).toNat * 1) [.int .i64 n44]) ∧ M38 (IntKind.wrap .i64 (n39 + 1)) (IntKind.wrap .i64 (n40 - 1)) (PH.write (PH.write u41 b48 (o49 + (n39 : Int).toNat * 1) [.int .i64 n47]) b50 (o51 + (n40 : Int).toNat * 1) [.int .i64 n44]) < M38 n39 n40 u41) ∧
 ((decide ((n39 : Int) < n40)) = false →
 Q (.tuple #[.slice a4 l5 c6, .bool true]) u41))))) ∧
 ((decide ((n9 : Int) ≥ 0)) = false →
 ((decide ((n9 : Int) < 0)) = true →
 Q (.tuple #[.slice a4 l5 c6, .bool false]) u10) ∧
 ((decide ((n9 : Int) < 0)) = false →
 ∃ (I52 : Int → PH → Prop) (M53 : Int → PH → Nat), I52 (IntKind.wrap .i64 ((((l5 : Nat) : Int)) - 1)) u10 ∧
 ∀ n54 : Int, ∀ u55 : PH, I52 n54 u55 →
 ∃ b56 o57 : Nat, (a4 : Option Addr) = some ⟨b56, o57, none⟩ ∧ ((0 : Int) ≤ n54 ∧ (n54 : Int) < ((l5 : Nat) : Int)) ∧
 ∃ n58 : Int, PH.cell u55 b56 (o57 + (n54 : Int).toNat * 1) = some (.int .i64 n58) ∧
 ∃ b59 o60 : Nat, (a4 : Option Addr) = some ⟨b59, o60, none⟩ ∧ ((0 : Int) ≤ n9 ∧ (n9 : Int) < ((l5 : Nat) : Int)) ∧
 ∃ n61 : Int, PH.cell u55 b59 (o60 + (n9 : Int).toNat * 1) = some (.int .i64 n61) ∧
 ((decide ((n58 : Int) < n61)) = true →
 I52 (IntKind.wrap .i64 (n54 - 1)) u55 ∧ M53 (IntKind.wrap .i64 (n54 - 1)) u55 < M53 n54 u55) ∧
 ((decide ((n58 : Int) < n61)) = false →
 ∃ b62 o63 : Nat, (a4 : Option Addr) = some ⟨b62, o63, none⟩ ∧ ((0 : Int) ≤ n9 ∧ (n9 : Int) < ((l5 : Nat) : Int)) ∧
 ∃ n64 : Int, PH.cell u55 b62 (o63 + (n9 : Int).toNat * 1) = some (.int .i64 n64) ∧
 ∃ b65 o66 : Nat, (a4 : Option Addr) = some ⟨b65, o66, none⟩ ∧ ((0 : Int) ≤ n54 ∧ (n54 : Int) < ((l5 : Nat) : Int)) ∧
 ∃ n67 : Int, PH.cell u55 b65 (o66 + (n54 : Int).toNat * 1) = some (.int .i64 n67) ∧
 ∃ b68 o69 : Nat, (a4 : Option Addr) = some ⟨b68, o69, none⟩ ∧ ((0 : Int) ≤ n9 ∧ (n9 : Int) < ((l5 : Nat) : Int)) ∧
 PH.free u55 b68 (o69 + (n9 : Int).toNat * 1) 1 ∧
 ∃ b70 o71 : Nat, (a4 : Option Addr) = some ⟨b70, o71, none⟩ ∧ ((0 : Int) ≤ n54 ∧ (n54 : Int) < ((l5 : Nat) : Int)) ∧
 PH.free (PH.write u55 b68 (o69 + (n9 : Int).toNat * 1) [.int .i64 n67]) b70 (o71 + (n54 : Int).toNat * 1) 1 ∧
 ∃ (I72 : Int → Int → PH → Prop) (M73 : Int → Int → PH → Nat), I72 (IntKind.wrap .i64 (n9 + 1)) (IntKind.wrap .i64 ((((l5 : Nat) : Int)) - 1)) (PH.write (PH.write u55 b68 (o69 + (n9 : Int).toNat * 1) [.int .i64 n67]) b70 (o71 + (n54 : Int).toNat * 1) [.int .i64 n64]) ∧
 ∀ n74 : Int, ∀ n75 : Int, ∀ u76 : PH, I72 n74 n75 u76 →
 ((decide ((n74 : Int) < n75)) = true →
 ∃ b77 o78 : Nat, (a4 : Option Addr) = some ⟨b77, o78, none⟩ ∧ ((0 : Int) ≤ n74 ∧ (n74 : Int) < ((l5 : Nat) : Int)) ∧
 ∃ n79 : Int, PH.cell u76 b77 (o78 + (n74 : Int).toNat * 1) = some (.int .i64 n79) ∧
 ∃ b80 o81 : Nat, (a4 : Option Addr) = some ⟨b80, o81, none⟩ ∧ ((0 : Int) ≤ n75 ∧ (n75 : Int) < ((l5 : Nat) : Int)) ∧
 ∃ n82 : Int, PH.cell u76 b80 (o81 + (n75 : Int).toNat * 1) = some (.int .i64 n82) ∧
 ∃ b83 o84 : Nat, (a4 : Option Addr) = some ⟨b83, o84, none⟩ ∧ ((0 : Int) ≤ n74 ∧ (n74 : Int) < ((l5 : Nat) : Int)) ∧
 PH.free u76 b83 (o84 + (n74 : Int).toNat * 1) 1 ∧
 ∃ b85 o86 : Nat, (a4 : Option Addr) = some ⟨b85, o86, none⟩ ∧ ((0 : Int) ≤ n75 ∧ (n75 : Int) < ((l5 : Nat) : Int)) ∧
 PH.free (PH.write u76 b83 (o84 + (n74 : Int).toNat * 1) [.int .i64 n82]) b85 (o86 + (n75 : Int).toNat * 1) 1 ∧
 I72 (IntKind.wrap .i64 (n74 + 1)) (IntKind.wrap .i64 (n75 - 1)) (PH.write (PH.write u76 b83 (o84 + (n74 : Int).toNat * 1) [.int .i64 n82]) b85 (o86 + (n75 : Int).toNat * 1) [.int .i64 n79]) ∧ M73 (IntKind.wrap .i64 (n74 + 1)) (IntKind.wrap .i64 (n75 - 1)) (PH.write (PH.write u76 b83 (o84 + (n74 : Int).toNat * 1) [.int .i64 n82]) b85 (o86 + (n75 : Int).toNat * 1) [.int .i64 n79]) < M73 n74 n75 u76) ∧
 ((decide ((n74 : Int) < n75)) = false →
 Q (.tuple #[.slice a4 l5 c6, .bool true]) u76))))))
set_option maxRecDepth 100000 in
theorem f46_vc (x0 : Option Addr) (x0_l x0_c : Nat) (u : PH) (Q : Value → PH → Prop) : fnVC Try.prog f46_h Try.f46 [.c (.v (.slice x0 x0_l x0_c))] u Q = f46_V x0 x0_l x0_c u Q := by kernel_rfl
theorem f46_of {x0 : Option Addr} {x0_l x0_c : Nat} {u : PH} {Q : Value → PH → Prop} (h : f46_V x0 x0_l x0_c u Q) : Spec Try.prog 46 #[.slice x0 x0_l x0_c] u Q :=
  spec_of_vc (H := f46_h) (ps := [.c (.v (.slice x0 x0_l x0_c))]) Try.func46 rfl (by rw [f46_vc]; exact h)
/-- cortado/search.whole -/
def f50_h : Hints := ⟨[(6, ⟨[(4, .bool), (18, .int .i64)], [], []⟩)], []⟩
set_option maxRecDepth 100000 in
def f50_V (order : Option Addr) (order_l order_c : Nat) (n : Int) (u : PH) (Q : Value → PH → Prop) : Prop :=
 (((((((order_l : Nat) : Int)) : Int) != n) = true →
 Q (.bool false) u) ∧
 ((((((order_l : Nat) : Int)) : Int) != n) = false →
 Spec Try.prog 60 #[.slice order order_l order_c] u (fun v1 u2 =>
 ∃ (a3 : Option Addr) (l4 c5 : Nat), v1 = .slice a3 l4 c5 ∧
 Spec Try.prog 65 #[.slice a3 l4 c5] u2 (fun v6 u7 =>
 v6 = .tuple #[] ∧
 ∃ (I8 : Bool → Int → PH → Prop) (M9 : Bool → Int → PH → Nat), I8 false 0 u7 ∧
 ∀ b10 : Bool, ∀ n11 : Int, ∀ u12 : PH, I8 b10 n11 u12 →
 ((decide ((n11 : Int) < (((l4 : Nat) : Int)))) = true →
 ∃ b13 o14 : Nat, (a3 : Option Addr) = some ⟨b13, o14, none⟩ ∧ ((0 : Int) ≤ n11 ∧ (n11 : Int) < ((l4 : Nat) : Int)) ∧
 ∃ n15 : Int, PH.cell u12 b13 (o14 + (n11 : Int).toNat * 1) = some (.int .i64 n15) ∧
 (((n11 : Int) != n15) = true →
 Q (.bool false) u12) ∧
 (((n11 : Int) != n15) = false →
 I8 b10 (IntKind.wrap .i64 (n11 + 1)) u12 ∧ M9 b10 (IntKind.wrap .i64 (n11 + 1)) u12 < M9 b10 n11 u12)) ∧
 ((decide ((n11 : Int) < (((l4 : Nat) : Int)))) = false →
 Q (.bool true) u12)))))
set_option maxRecDepth 100000 in
theorem f50_vc (order : Option Addr) (order_l order_c : Nat) (n : Int) (u : PH) (Q : Value → PH → Prop) : fnVC Try.prog f50_h Try.f50 [.c (.v (.slice order order_l order_c)), .c (.v (.int .i64 n))] u Q = f50_V order order_l order_c n u Q := by kernel_rfl
theorem f50_of {order : Option Addr} {order_l order_c : Nat} {n : Int} {u : PH} {Q : Value → PH → Prop} (h : f50_V order order_l order_c n u Q) : Spec Try.prog 50 #[.slice order order_l order_c, .int .i64 n] u Q :=
  spec_of_vc (H := f50_h) (ps := [.c (.v (.slice order order_l order_c)), .c (.v (.int .i64 n))]) Try.func50 rfl (by rw [f50_vc]; exact h)
/-- slices.Sort[[]int,int] -/
def f65_h : Hints := ⟨[], []⟩
set_option maxRecDepth 100000 in
def f65_V (x : Option Addr) (x_l x_c : Nat) (u : PH) (Q : Value → PH → Prop) : Prop :=
 (Spec Try.prog 79 #[.int .u64 (IntKind.wrap .u64 (((x_l : Nat) : Int)))] u (fun v1 u2 =>
 ∃ n3 : Int, v1 = .int .i64 n3 ∧
 Spec Try.prog 78 #[.slice x x_l x_c, .int .i64 0, .int .i64 (((x_l : Nat) : Int)), .int .i64 n3] u2 (fun v4 u5 =>
 v4 = .tuple #[] ∧
 Q (.tuple #[]) u5)))
set_option maxRecDepth 100000 in
theorem f65_vc (x : Option Addr) (x_l x_c : Nat) (u : PH) (Q : Value → PH → Prop) : fnVC Try.prog f65_h Try.f65 [.c (.v (.slice x x_l x_c))] u Q = f65_V x x_l x_c u Q := by kernel_rfl
theorem f65_of {x : Option Addr} {x_l x_c : Nat} {u : PH} {Q : Value → PH → Prop} (h : f65_V x x_l x_c u Q) : Spec Try.prog 65 #[.slice x x_l x_c] u Q :=
  spec_of_vc (H := f65_h) (ps := [.c (.v (.slice x x_l x_c))]) Try.func65 rfl (by rw [f65_vc]; exact h)
/-- slices.pdqsortOrdered[int] -/
def f78_h : Hints := ⟨[(2, ⟨[(1, .int .i64), (2, .int .i64), (3, .int .i64), (8, .bool), (9, .bool)], [], []⟩)], []⟩
set_option maxRecDepth 100000 in
def f78_V (x0 : Option Addr) (x0_l x0_c : Nat) (x1 : Int) (x2 : Int) (x3 : Int) (u : PH) (Q : Value → PH → Prop) : Prop :=
 (∃ (I1 : Int → Int → Int → Bool → Bool → PH → Prop) (M2 : Int → Int → Int → Bool → Bool → PH → Nat), I1 x1 x2 x3 true true u ∧
 ∀ n3 : Int, ∀ n4 : Int, ∀ n5 : Int, ∀ b6 : Bool, ∀ b7 : Bool, ∀ u8 : PH, I1 n3 n4 n5 b6 b7 u8 →
 ((decide (((IntKind.wrap .i64 (n4 - n3)) : Int) ≤ 12)) = true →
 Spec Try.prog 92 #[.slice x0 x0_l x0_c, .int .i64 n3, .int .i64 n4] u8 (fun v9 u10 =>
 v9 = .tuple #[] ∧
 Q (.tuple #[]) u10)) ∧
 ((decide (((IntKind.wrap .i64 (n4 - n3)) : Int) ≤ 12)) = false →
 (((n5 : Int) == 0) = true →
 Spec Try.prog 93 #[.slice x0 x0_l x0_c, .int .i64 n3, .int .i64 n4] u8 (fun v11 u12 =>
 v11 = .tuple #[] ∧
 Q (.tuple #[]) u12)) ∧
 (((n5 : Int) == 0) = false →
 ((!b6) = true →
 Spec Try.prog 94 #[.slice x0 x0_l x0_c, .int .i64 n3, .int .i64 n4] u8 (fun v13 u14 =>
 v13 = .tuple #[] ∧
 Spec Try.prog 95 #[.slice x0 x0_l x0_c, .int .i64 n3, .int .i64 n4] u14 (fun v15 u16 =>
 ∃ n17 : Int, ∃ n18 : Int, v15 = .tuple #[.int .i64 n17, .int .i64 n18] ∧
 (((n18 : Int) == 2) = true →
 Spec Try.prog 96 #[.slice x0 x0_l x0_c, .int .i64 n3, .int .i64 n4] u16 (fun v19 u20 =>
 v19 = .tuple #[] ∧
 (((b6 && b7) && ((1 : Int) == 1)) = true →
 Spec Try.prog 97 #[.slice x0 x0_l x0_c, .int .i64 n3, .int .i64 n4] u20 (fun v21 u22 =>
 ∃ b23 : Bool, v21 = .bool b23 ∧
 (b23 = true →
 Q (.tuple #[]) u22) ∧
 (b23 = false →
 ((decide ((n3 : Int) > 0)) = true →
 ∃ b24 o25 : Nat, (x0 : Option Addr) = some ⟨b24, o25, none⟩ ∧ ((0 : Int) ≤ (IntKind.wrap .i64 (n3 - 1)) ∧ ((IntKind.wrap .i64 (n3 - 1)) : Int) < ((x0_l : Nat) : Int)) ∧
 ∃ n26 : Int, PH.cell u22 b24 (o25 + ((IntKind.wrap .i64 (n3 - 1)) : Int).toNat * 1) = some (.int .i64 n26) ∧
 ∃ b27 o28 : Nat, (x0 : Option Addr) = some ⟨b27, o28, none⟩ ∧ ((0 : Int) ≤ (IntKind.wrap .i64 ((IntKind.wrap .i64 (n4 - 1)) - (IntKind.wrap .i64 (n17 - n3)))) ∧ ((IntKind.wrap .i64 ((IntKind.wrap .i64 (n4 - 1)) - (IntKind.wrap .i64 (n17 - n3)))) : Int) < ((x0_l : Nat) : Int)) ∧
 ∃ n29 : Int, PH.cell u22 b27 (o28 + ((IntKind.wrap .i64 ((IntKind.wrap .i64 (n4 - 1)) - (IntKind.wrap .i64 (n17 - n3)))) : Int).toNat * 1) = some (.int .i64 n29) ∧
 Spec Try.prog 98 #[.int .i64 n26, .int .i64 n29] u22 (fun v30 u31 =>
 ∃ b32 : Bool, v30 = .bool b32 ∧
 ((!b32) = true →
 Spec Try.prog 99 #[.slice x0 x0_l x0_c, .int .i64 n3, .int .i64 n4, .int .i64 (IntKind.wrap .i64 ((IntKind.wrap .i64 (n4 - 1)) - (IntKind.wrap .i64 (n17 - n3))))] u31 (fun v33 u34 =>
 ∃ n35 : Int, v33 = .int .i64 n35 ∧
 I1 n35 n4 (IntKind.wrap .i64 (n5 - 1)) b6 b7 u34 ∧ M2 n35 n4 (IntKind.wrap .i64 (n5 - 1)) b6 b7 u34 < M2 n3 n4 n5 b6 b7 u8)) ∧
 ((!b32) = false →
 Spec Try.prog 100 #[.slice x0 x0_l x0_c, .int .i64 n3, .int .i64 n4, .int .i64 (IntKind.wrap .i64 ((IntKind.wrap .i64 (n4 - 1)) - (IntKind.wrap .i64 (n17 - n3))))] u31 (fun v36 u37 =>
 ∃ n38 : Int, ∃ b39 : Bool, v36 = .tuple #[.int .i64 n38, .bool b39] ∧
 (8 : Int) ≠ 0 ∧
 ((decide (((IntKind.wrap .i64 (n38 - n3)) : Int) < (IntKind.wrap .i64 (n4 - n38)))) = true →
 Spec Try.prog 78 #[.slice x0 x0_l x0_c, .int .i64 n3, .int .i64 n38, .int .i64 (IntKind.wrap .i64 (n5 - 1))] u37 (fun v40 u41 =>
 v40 = .tuple #[] ∧
 I1 (IntKind.wrap .i64 (n38 + 1)) n4 (IntKind.wrap .i64 (n5 - 1)) (decide (((IntKind.wrap .i64 (n38 - n3)) : Int) ≥ (IntKind.wrap .i64 (Int.tdiv (IntKind.wrap .i64 (n4 - n3)) 8)))) b39 u41 ∧ M2 (IntKind.wrap .i64 (n38 + 1)) n4 (IntKind.wrap .i64 (n5 - 1)) (decide (((IntKind.wrap .i64 (n38 - n3)) : Int) ≥ (IntKind.wrap .i64 (Int.tdiv (IntKind.wrap .i64 (n4 - n3)) 8)))) b39 u41 < M2 n3 n4 n5 b6 b7 u8)) ∧
 ((decide (((IntKind.wrap .i64 (n38 - n3)) : Int) < (IntKind.wrap .i64 (n4 - n38)))) = false →
 Spec Try.prog 78 #[.slice x0 x0_l x0_c, .int .i64 (IntKind.wrap .i64 (n38 + 1)), .int .i64 n4, .int .i64 (IntKind.wrap .i64 (n5 - 1))] u37 (fun v42 u43 =>
 v42 = .tuple #[] ∧
 I1 n3 n38 (IntKind.wrap .i64 (n5 - 1)) (decide (((IntKind.wrap .i64 (n4 - n38)) : Int) ≥ (IntKind.wrap .i64 (Int.tdiv (IntKind.wrap .i64 (n4 - n3)) 8)))) b39 u43 ∧ M2 n3 n38 (IntKind.wrap .i64 (n5 - 1)) (decide (((IntKind.wrap .i64 (n4 - n38)) : Int) ≥ (IntKind.wrap .i64 (Int.tdiv (IntKind.wrap .i64 (n4 - n3)) 8)))) b39 u43 < M2 n3 n4 n5 b6 b7 u8)))))) ∧
 ((decide ((n3 : Int) > 0)) = false →
 Spec Try.prog 100 #[.slice x0 x0_l x0_c, .int .i64 n3, .int .i64 n4, .int .i64 (IntKind.wrap .i64 ((IntKind.wrap .i64 (n4 - 1)) - (IntKind.wrap .i64 (n17 - n3))))] u22 (fun v44 u45 =>
 ∃ n46 : Int, ∃ b47 : Bool, v44 = .tuple #[.int .i64 n46, .bool b47] ∧
 (8 : Int) ≠ 0 ∧
 ((decide (((IntKind.wrap .i64 (n46 - n3)) : Int) < (IntKind.wrap .i64 (n4 - n46)))) = true →
 Spec Try.prog 78 #[.slice x0 x0_l x0_c, .int .i64 n3, .int .i64 n46, .int .i64 (IntKind.wrap .i64 (n5 - 1))] u45 (fun v48 u49 =>
 v48 = .tuple #[] ∧
 I1 (IntKind.wrap .i64 (n46 + 1)) n4 (IntKind.wrap .i64 (n5 - 1)) (decide (((IntKind.wrap .i64 (n46 - n3)) : Int) ≥ (IntKind.wrap .i64 (Int.tdiv (IntKind.wrap .i64 (n4 - n3)) 8)))) b47 u49 ∧ M2 (IntKind.wrap .i64 (n46 + 1)) n4 (IntKind.wrap .i64 (n5 - 1)) (decide (((IntKind.wrap .i64 (n46 - n3)) : Int) ≥ (IntKind.wrap .i64 (Int.tdiv (IntKind.wrap .i64 (n4 - n3)) 8)))) b47 u49 < M2 n3 n4 n5 b6 b7 u8)) ∧
 ((decide (((IntKind.wrap .i64 (n46 - n3)) : Int) < (IntKind.wrap .i64 (n4 - n46)))) = false →
 Spec Try.prog 78 #[.slice x0 x0_l x0_c, .int .i64 (IntKind.wrap .i64 (n46 + 1)), .int .i64 n4, .int .i64 (IntKind.wrap .i64 (n5 - 1))] u45 (fun v50 u51 =>
 v50 = .tuple #[] ∧
 I1 n3 n46 (IntKind.wrap .i64 (n5 - 1)) (decide (((IntKind.wrap .i64 (n4 - n46)) : Int) ≥ (IntKind.wrap .i64 (Int.tdiv (IntKind.wrap .i64 (n4 - n3)) 8)))) b47 u51 ∧ M2 n3 n46 (IntKind.wrap .i64 (n5 - 1)) (decide (((IntKind.wrap .i64 (n4 - n46)) : Int) ≥ (IntKind.wrap .i64 (Int.tdiv (IntKind.wrap .i64 (n4 - n3)) 8)))) b47 u51 < M2 n3 n4 n5 b6 b7 u8))))))) ∧
 (((b6 && b7) && ((1 : Int) == 1)) = false →
 ((decide ((n3 : Int) > 0)) = true →
 ∃ b52 o53 : Nat, (x0 : Option Addr) = some ⟨b52, o53, none⟩ ∧ ((0 : Int) ≤ (IntKind.wrap .i64 (n3 - 1)) ∧ ((IntKind.wrap .i64 (n3 - 1)) : Int) < ((x0_l : Nat) : Int)) ∧
 ∃ n54 : Int, PH.cell u20 b52 (o53 + ((IntKind.wrap .i64 (n3 - 1)) : Int).toNat * 1) = some (.int .i64 n54) ∧
 ∃ b55 o56 : Nat, (x0 : Option Addr) = some ⟨b55, o56, none⟩ ∧ ((0 : Int) ≤ (IntKind.wrap .i64 ((IntKind.wrap .i64 (n4 - 1)) - (IntKind.wrap .i64 (n17 - n3)))) ∧ ((IntKind.wrap .i64 ((IntKind.wrap .i64 (n4 - 1)) - (IntKind.wrap .i64 (n17 - n3)))) : Int) < ((x0_l : Nat) : Int)) ∧
 ∃ n57 : Int, PH.cell u20 b55 (o56 + ((IntKind.wrap .i64 ((IntKind.wrap .i64 (n4 - 1)) - (IntKind.wrap .i64 (n17 - n3)))) : Int).toNat * 1) = some (.int .i64 n57) ∧
 Spec Try.prog 98 #[.int .i64 n54, .int .i64 n57] u20 (fun v58 u59 =>
 ∃ b60 : Bool, v58 = .bool b60 ∧
 ((!b60) = true →
 Spec Try.prog 99 #[.slice x0 x0_l x0_c, .int .i64 n3, .int .i64 n4, .int .i64 (IntKind.wrap .i64 ((IntKind.wrap .i64 (n4 - 1)) - (IntKind.wrap .i64 (n17 - n3))))] u59 (fun v61 u62 =>
 ∃ n63 : Int, v61 = .int .i64 n63 ∧
 I1 n63 n4 (IntKind.wrap .i64 (n5 - 1)) b6 b7 u62 ∧ M2 n63 n4 (IntKind.wrap .i64 (n5 - 1)) b6 b7 u62 < M2 n3 n4 n5 b6 b7 u8)) ∧
 ((!b60) = false →
 Spec Try.prog 100 #[.slice x0 x0_l x0_c, .int .i64 n3, .int .i64 n4, .int .i64 (IntKind.wrap .i64 ((IntKind.wrap .i64 (n4 - 1)) - (IntKind.wrap .i64 (n17 - n3))))] u59 (fun v64 u65 =>
 ∃ n66 : Int, ∃ b67 : Bool, v64 = .tuple #[.int .i64 n66, .bool b67] ∧
 (8 : Int) ≠ 0 ∧
 ((decide (((IntKind.wrap .i64 (n66 - n3)) : Int) < (IntKind.wrap .i64 (n4 - n66)))) = true →
 Spec Try.prog 78 #[.slice x0 x0_l x0_c, .int .i64 n3, .int .i64 n66, .int .i64 (IntKind.wrap .i64 (n5 - 1))] u65 (fun v68 u69 =>
 v68 = .tuple #[] ∧
 I1 (IntKind.wrap .i64 (n66 + 1)) n4 (IntKind.wrap .i64 (n5 - 1)) (decide (((IntKind.wrap .i64 (n66 - n3)) : Int) ≥ (IntKind.wrap .i64 (Int.tdiv (IntKind.wrap .i64 (n4 - n3)) 8)))) b67 u69 ∧ M2 (IntKind.wrap .i64 (n66 + 1)) n4 (IntKind.wrap .i64 (n5 - 1)) (decide (((IntKind.wrap .i64 (n66 - n3)) : Int) ≥ (IntKind.wrap .i64 (Int.tdiv (IntKind.wrap .i64 (n4 - n3)) 8)))) b67 u69 < M2 n3 n4 n5 b6 b7 u8)) ∧
 ((decide (((IntKind.wrap .i64 (n66 - n3)) : Int) < (IntKind.wrap .i64 (n4 - n66)))) = false →
 Spec Try.prog 78 #[.slice x0 x0_l x0_c, .int .i64 (IntKind.wrap .i64 (n66 + 1)), .int .i64 n4, .int .i64 (IntKind.wrap .i64 (n5 - 1))] u65 (fun v70 u71 =>
 v70 = .tuple #[] ∧
 I1 n3 n66 (IntKind.wrap .i64 (n5 - 1)) (decide (((IntKind.wrap .i64 (n4 - n66)) : Int) ≥ (IntKind.wrap .i64 (Int.tdiv (IntKind.wrap .i64 (n4 - n3)) 8)))) b67 u71 ∧ M2 n3 n66 (IntKind.wrap .i64 (n5 - 1)) (decide (((IntKind.wrap .i64 (n4 - n66)) : Int) ≥ (IntKind.wrap .i64 (Int.tdiv (IntKind.wrap .i64 (n4 - n3)) 8)))) b67 u71 < M2 n3 n4 n5 b6 b7 u8)))))) ∧
 ((decide ((n3 : Int) > 0)) = false →
 Spec Try.prog 100 #[.slice x0 x0_l x0_c, .int .i64 n3, .int .i64 n4, .int .i64 (IntKind.wrap .i64 ((IntKind.wrap .i64 (n4 - 1)) - (IntKind.wrap .i64 (n17 - n3))))] u20 (fun v72 u73 =>
 ∃ n74 : Int, ∃ b75 : Bool, v72 = .tuple #[.int .i64 n74, .bool b75] ∧
 (8 : Int) ≠ 0 ∧
 ((decide (((IntKind.wrap .i64 (n74 - n3)) : Int) < (IntKind.wrap .i64 (n4 - n74)))) = true →
 Spec Try.prog 78 #[.slice x0 x0_l x0_c, .int .i64 n3, .int .i64 n74, .int .i64 (IntKind.wrap .i64 (n5 - 1))] u73 (fun v76 u77 =>
 v76 = .tuple #[] ∧
 I1 (IntKind.wrap .i64 (n74 + 1)) n4 (IntKind.wrap .i64 (n5 - 1)) (decide (((IntKind.wrap .i64 (n74 - n3)) : Int) ≥ (IntKind.wrap .i64 (Int.tdiv (IntKind.wrap .i64 (n4 - n3)) 8)))) b75 u77 ∧ M2 (IntKind.wrap .i64 (n74 + 1)) n4 (IntKind.wrap .i64 (n5 - 1)) (decide (((IntKind.wrap .i64 (n74 - n3)) : Int) ≥ (IntKind.wrap .i64 (Int.tdiv (IntKind.wrap .i64 (n4 - n3)) 8)))) b75 u77 < M2 n3 n4 n5 b6 b7 u8)) ∧
 ((decide (((IntKind.wrap .i64 (n74 - n3)) : Int) < (IntKind.wrap .i64 (n4 - n74)))) = false →
 Spec Try.prog 78 #[.slice x0 x0_l x0_c, .int .i64 (IntKind.wrap .i64 (n74 + 1)), .int .i64 n4, .int .i64 (IntKind.wrap .i64 (n5 - 1))] u73 (fun v78 u79 =>
 v78 = .tuple #[] ∧
 I1 n3 n74 (IntKind.wrap .i64 (n5 - 1)) (decide (((IntKind.wrap .i64 (n4 - n74)) : Int) ≥ (IntKind.wrap .i64 (Int.tdiv (IntKind.wrap .i64 (n4 - n3)) 8)))) b75 u79 ∧ M2 n3 n74 (IntKind.wrap .i64 (n5 - 1)) (decide (((IntKind.wrap .i64 (n4 - n74)) : Int) ≥ (IntKind.wrap .i64 (Int.tdiv (IntKind.wrap .i64 (n4 - n3)) 8)))) b75 u79 < M2 n3 n4 n5 b6 b7 u8))))))) ∧
 (((n18 : Int) == 2) = false →
 (((b6 && b7) && ((n18 : Int) == 1)) = true →
 Spec Try.prog 97 #[.slice x0 x0_l x0_c, .int .i64 n3, .int .i64 n4] u16 (fun v80 u81 =>
 ∃ b82 : Bool, v80 = .bool b82 ∧
 (b82 = true →
 Q (.tuple #[]) u81) ∧
 (b82 = false →
 ((decide ((n3 : Int) > 0)) = true →
 ∃ b83 o84 : Nat, (x0 : Option Addr) = some ⟨b83, o84, none⟩ ∧ ((0 : Int) ≤ (IntKind.wrap .i64 (n3 - 1)) ∧ ((IntKind.wrap .i64 (n3 - 1)) : Int) < ((x0_l : Nat) : Int)) ∧
 ∃ n85 : Int, PH.cell u81 b83 (o84 + ((IntKind.wrap .i64 (n3 - 1)) : Int).toNat * 1) = some (.int .i64 n85) ∧
 ∃ b86 o87 : Nat, (x0 : Option Addr) = some ⟨b86, o87, none⟩ ∧ ((0 : Int) ≤ n17 ∧ (n17 : Int) < ((x0_l : Nat) : Int)) ∧
 ∃ n88 : Int, PH.cell u81 b86 (o87 + (n17 : Int).toNat * 1) = some (.int .i64 n88) ∧
 Spec Try.prog 98 #[.int .i64 n85, .int .i64 n88] u81 (fun v89 u90 =>
 ∃ b91 : Bool, v89 = .bool b91 ∧
 ((!b91) = true →
 Spec Try.prog 99 #[.slice x0 x0_l x0_c, .int .i64 n3, .int .i64 n4, .int .i64 n17] u90 (fun v92 u93 =>
 ∃ n94 : Int, v92 = .int .i64 n94 ∧
 I1 n94 n4 (IntKind.wrap .i64 (n5 - 1)) b6 b7 u93 ∧ M2 n94 n4 (IntKind.wrap .i64 (n5 - 1)) b6 b7 u93 < M2 n3 n4 n5 b6 b7 u8)) ∧
 ((!b91) = false →
 Spec Try.prog 100 #[.slice x0 x0_l x0_c, .int .i64 n3, .int .i64 n4, .int .i64 n17] u90 (fun v95 u96 =>
 ∃ n97 : Int, ∃ b98 : Bool, v95 = .tuple #[.int .i64 n97, .bool b98] ∧
 (8 : Int) ≠ 0 ∧
 ((decide (((IntKind.wrap .i64 (n97 - n3)) : Int) < (IntKind.wrap .i64 (n4 - n97)))) = true →
 Spec Try.prog 78 #[.slice x0 x0_l x0_c, .int .i64 n3, .int .i64 n97, .int .i64 (IntKind.wrap .i64 (n5 - 1))] u96 (fun v99 u100 =>
 v99 = .tuple #[] ∧
 I1 (IntKind.wrap .i64 (n97 + 1)) n4 (IntKind.wrap .i64 (n5 - 1)) (decide (((IntKind.wrap .i64 (n97 - n3)) : Int) ≥ (IntKind.wrap .i64 (Int.tdiv (IntKind.wrap .i64 (n4 - n3)) 8)))) b98 u100 ∧ M2 (IntKind.wrap .i64 (n97 + 1)) n4 (IntKind.wrap .i64 (n5 - 1)) (decide (((IntKind.wrap .i64 (n97 - n3)) : Int) ≥ (IntKind.wrap .i64 (Int.tdiv (IntKind.wrap .i64 (n4 - n3)) 8)))) b98 u100 < M2 n3 n4 n5 b6 b7 u8)) ∧
 ((decide (((IntKind.wrap .i64 (n97 - n3)) : Int) < (IntKind.wrap .i64 (n4 - n97)))) = false →
 Spec Try.prog 78 #[.slice x0 x0_l x0_c, .int .i64 (IntKind.wrap .i64 (n97 + 1)), .int .i64 n4, .int .i64 (IntKind.wrap .i64 (n5 - 1))] u96 (fun v101 u102 =>
 v101 = .tuple #[] ∧
 I1 n3 n97 (IntKind.wrap .i64 (n5 - 1)) (decide (((IntKind.wrap .i64 (n4 - n97)) : Int) ≥ (IntKind.wrap .i64 (Int.tdiv (IntKind.wrap .i64 (n4 - n3)) 8)))) b98 u102 ∧ M2 n3 n97 (IntKind.wrap .i64 (n5 - 1)) (decide (((IntKind.wrap .i64 (n4 - n97)) : Int) ≥ (IntKind.wrap .i64 (Int.tdiv (IntKind.wrap .i64 (n4 - n3)) 8)))) b98 u102 < M2 n3 n4 n5 b6 b7 u8)))))) ∧
 ((decide ((n3 : Int) > 0)) = false →
 Spec Try.prog 100 #[.slice x0 x0_l x0_c, .int .i64 n3, .int .i64 n4, .int .i64 n17] u81 (fun v103 u104 =>
 ∃ n105 : Int, ∃ b106 : Bool, v103 = .tuple #[.int .i64 n105, .bool b106] ∧
 (8 : Int) ≠ 0 ∧
 ((decide (((IntKind.wrap .i64 (n105 - n3)) : Int) < (IntKind.wrap .i64 (n4 - n105)))) = true →
 Spec Try.prog 78 #[.slice x0 x0_l x0_c, .int .i64 n3, .int .i64 n105, .int .i64 (IntKind.wrap .i64 (n5 - 1))] u104 (fun v107 u108 =>
 v107 = .tuple #[] ∧
 I1 (IntKind.wrap .i64 (n105 + 1)) n4 (IntKind.wrap .i64 (n5 - 1)) (decide (((IntKind.wrap .i64 (n105 - n3)) : Int) ≥ (IntKind.wrap .i64 (Int.tdiv (IntKind.wrap .i64 (n4 - n3)) 8)))) b106 u108 ∧ M2 (IntKind.wrap .i64 (n105 + 1)) n4 (IntKind.wrap .i64 (n5 - 1)) (decide (((IntKind.wrap .i64 (n105 - n3)) : Int) ≥ (IntKind.wrap .i64 (Int.tdiv (IntKind.wrap .i64 (n4 - n3)) 8)))) b106 u108 < M2 n3 n4 n5 b6 b7 u8)) ∧
 ((decide (((IntKind.wrap .i64 (n105 - n3)) : Int) < (IntKind.wrap .i64 (n4 - n105)))) = false →
 Spec Try.prog 78 #[.slice x0 x0_l x0_c, .int .i64 (IntKind.wrap .i64 (n105 + 1)), .int .i64 n4, .int .i64 (IntKind.wrap .i64 (n5 - 1))] u104 (fun v109 u110 =>
 v109 = .tuple #[] ∧
 I1 n3 n105 (IntKind.wrap .i64 (n5 - 1)) (decide (((IntKind.wrap .i64 (n4 - n105)) : Int) ≥ (IntKind.wrap .i64 (Int.tdiv (IntKind.wrap .i64 (n4 - n3)) 8)))) b106 u110 ∧ M2 n3 n105 (IntKind.wrap .i64 (n5 - 1)) (decide (((IntKind.wrap .i64 (n4 - n105)) : Int) ≥ (IntKind.wrap .i64 (Int.tdiv (IntKind.wrap .i64 (n4 - n3)) 8)))) b106 u110 < M2 n3 n4 n5 b6 b7 u8))))))) ∧
 (((b6 && b7) && ((n18 : Int) == 1)) = false →
 ((decide ((n3 : Int) > 0)) = true →
 ∃ b111 o112 : Nat, (x0 : Option Addr) = some ⟨b111, o112, none⟩ ∧ ((0 : Int) ≤ (IntKind.wrap .i64 (n3 - 1)) ∧ ((IntKind.wrap .i64 (n3 - 1)) : Int) < ((x0_l : Nat) : Int)) ∧
 ∃ n113 : Int, PH.cell u16 b111 (o112 + ((IntKind.wrap .i64 (n3 - 1)) : Int).toNat * 1) = some (.int .i64 n113) ∧
 ∃ b114 o115 : Nat, (x0 : Option Addr) = some ⟨b114, o115, none⟩ ∧ ((0 : Int) ≤ n17 ∧ (n17 : Int) < ((x0_l : Nat) : Int)) ∧
 ∃ n116 : Int, PH.cell u16 b114 (o115 + (n17 : Int).toNat * 1) = some (.int .i64 n116) ∧
 Spec Try.prog 98 #[.int .i64 n113, .int .i64 n116] u16 (fun v117 u118 =>
 ∃ b119 : Bool, v117 = .bool b119 ∧
 ((!b119) = true →
 Spec Try.prog 99 #[.slice x0 x0_l x0_c, .int .i64 n3, .int .i64 n4, .int .i64 n17] u118 (fun v120 u121 =>
 ∃ n122 : Int, v120 = .int .i64 n122 ∧
 I1 n122 n4 (IntKind.wrap .i64 (n5 - 1)) b6 b7 u121 ∧ M2 n122 n4 (IntKind.wrap .i64 (n5 - 1)) b6 b7 u121 < M2 n3 n4 n5 b6 b7 u8)) ∧
 ((!b119) = false →
 Spec Try.prog 100 #[.slice x0 x0_l x0_c, .int .i64 n3, .int .i64 n4, .int .i64 n17] u118 (fun v123 u124 =>
 ∃ n125 : Int, ∃ b126 : Bool, v123 = .tuple #[.int .i64 n125, .bool b126] ∧
 (8 : Int) ≠ 0 ∧
 ((decide (((IntKind.wrap .i64 (n125 - n3)) : Int) < (IntKind.wrap .i64 (n4 - n125)))) = true →
 Spec Try.prog 78 #[.slice x0 x0_l x0_c, .int .i64 n3, .int .i64 n125, .int .i64 (IntKind.wrap .i64 (n5 - 1))] u124 (fun v127 u128 =>
 v127 = .tuple #[] ∧
 I1 (IntKind.wrap .i64 (n125 + 1)) n4 (IntKind.wrap .i64 (n5 - 1)) (decide (((IntKind.wrap .i64 (n125 - n3)) : Int) ≥ (IntKind.wrap .i64 (Int.tdiv (IntKind.wrap .i64 (n4 - n3)) 8)))) b126 u128 ∧ M2 (IntKind.wrap .i64 (n125 + 1)) n4 (IntKind.wrap .i64 (n5 - 1)) (decide (((IntKind.wrap .i64 (n125 - n3)) : Int) ≥ (IntKind.wrap .i64 (Int.tdiv (IntKind.wrap .i64 (n4 - n3)) 8)))) b126 u128 < M2 n3 n4 n5 b6 b7 u8)) ∧
 ((decide (((IntKind.wrap .i64 (n125 - n3)) : Int) < (IntKind.wrap .i64 (n4 - n125)))) = false →
 Spec Try.prog 78 #[.slice x0 x0_l x0_c, .int .i64 (IntKind.wrap .i64 (n125 + 1)), .int .i64 n4, .int .i64 (IntKind.wrap .i64 (n5 - 1))] u124 (fun v129 u130 =>
 v129 = .tuple #[] ∧
 I1 n3 n125 (IntKind.wrap .i64 (n5 - 1)) (decide (((IntKind.wrap .i64 (n4 - n125)) : Int) ≥ (IntKind.wrap .i64 (Int.tdiv (IntKind.wrap .i64 (n4 - n3)) 8)))) b126 u130 ∧ M2 n3 n125 (IntKind.wrap .i64 (n5 - 1)) (decide (((IntKind.wrap .i64 (n4 - n125)) : Int) ≥ (IntKind.wrap .i64 (Int.tdiv (IntKind.wrap .i64 (n4 - n3)) 8)))) b126 u130 < M2 n3 n4 n5 b6 b7 u8)))))) ∧
 ((decide ((n3 : Int) > 0)) = false →
 Spec Try.prog 100 #[.slice x0 x0_l x0_c, .int .i64 n3, .int .i64 n4, .int .i64 n17] u16 (fun v131 u132 =>
 ∃ n133 : Int, ∃ b134 : Bool, v131 = .tuple #[.int .i64 n133, .bool b134] ∧
 (8 : Int) ≠ 0 ∧
 ((decide (((IntKind.wrap .i64 (n133 - n3)) : Int) < (IntKind.wrap .i64 (n4 - n133)))) = true →
 Spec Try.prog 78 #[.slice x0 x0_l x0_c, .int .i64 n3, .int .i64 n133, .int .i64 (IntKind.wrap .i64 (n5 - 1))] u132 (fun v135 u136 =>
 v135 = .tuple #[] ∧
 I1 (IntKind.wrap .i64 (n133 + 1)) n4 (IntKind.wrap .i64 (n5 - 1)) (decide (((IntKind.wrap .i64 (n133 - n3)) : Int) ≥ (IntKind.wrap .i64 (Int.tdiv (IntKind.wrap .i64 (n4 - n3)) 8)))) b134 u136 ∧ M2 (IntKind.wrap .i64 (n133 + 1)) n4 (IntKind.wrap .i64 (n5 - 1)) (decide (((IntKind.wrap .i64 (n133 - n3)) : Int) ≥ (IntKind.wrap .i64 (Int.tdiv (IntKind.wrap .i64 (n4 - n3)) 8)))) b134 u136 < M2 n3 n4 n5 b6 b7 u8)) ∧
 ((decide (((IntKind.wrap .i64 (n133 - n3)) : Int) < (IntKind.wrap .i64 (n4 - n133)))) = false →
 Spec Try.prog 78 #[.slice x0 x0_l x0_c, .int .i64 (IntKind.wrap .i64 (n133 + 1)), .int .i64 n4, .int .i64 (IntKind.wrap .i64 (n5 - 1))] u132 (fun v137 u138 =>
 v137 = .tuple #[] ∧
 I1 n3 n133 (IntKind.wrap .i64 (n5 - 1)) (decide (((IntKind.wrap .i64 (n4 - n133)) : Int) ≥ (IntKind.wrap .i64 (Int.tdiv (IntKind.wrap .i64 (n4 - n3)) 8)))) b134 u138 ∧ M2 n3 n133 (IntKind.wrap .i64 (n5 - 1)) (decide (((IntKind.wrap .i64 (n4 - n133)) : Int) ≥ (IntKind.wrap .i64 (Int.tdiv (IntKind.wrap .i64 (n4 - n3)) 8)))) b134 u138 < M2 n3 n4 n5 b6 b7 u8))))))))) ∧
 ((!b6) = false →
 Spec Try.prog 95 #[.slice x0 x0_l x0_c, .int .i64 n3, .int .i64 n4] u8 (fun v139 u140 =>
 ∃ n141 : Int, ∃ n142 : Int, v139 = .tuple #[.int .i64 n141, .int .i64 n142] ∧
 (((n142 : Int) == 2) = true →
 Spec Try.prog 96 #[.slice x0 x0_l x0_c, .int .i64 n3, .int .i64 n4] u140 (fun v143 u144 =>
 v143 = .tuple #[] ∧
 (((b6 && b7) && ((1 : Int) == 1)) = true →
 Spec Try.prog 97 #[.slice x0 x0_l x0_c, .int .i64 n3, .int .i64 n4] u144 (fun v145 u146 =>
 ∃ b147 : Bool, v145 = .bool b147 ∧
 (b147 = true →
 Q (.tuple #[]) u146) ∧
 (b147 = false →
 ((decide ((n3 : Int) > 0)) = true →
 ∃ b148 o149 : Nat, (x0 : Option Addr) = some ⟨b148, o149, none⟩ ∧ ((0 : Int) ≤ (IntKind.wrap .i64 (n3 - 1)) ∧ ((IntKind.wrap .i64 (n3 - 1)) : Int) < ((x0_l : Nat) : Int)) ∧
 ∃ n150 : Int, PH.cell u146 b148 (o149 + ((IntKind.wrap .i64 (n3 - 1)) : Int).toNat * 1) = some (.int .i64 n150) ∧
 ∃ b151 o152 : Nat, (x0 : Option Addr) = some ⟨b151, o152, none⟩ ∧ ((0 : Int) ≤ (IntKind.wrap .i64 ((IntKind.wrap .i64 (n4 - 1)) - (IntKind.wrap .i64 (n141 - n3)))) ∧ ((IntKind.wrap .i64 ((IntKind.wrap .i64 (n4 - 1)) - (IntKind.wrap .i64 (n141 - n3)))) : Int) < ((x0_l : Nat) : Int)) ∧
 ∃ n153 : Int, PH.cell u146 b151 (o152 + ((IntKind.wrap .i64 ((IntKind.wrap .i64 (n4 - 1)) - (IntKind.wrap .i64 (n141 - n3)))) : Int).toNat * 1) = some (.int .i64 n153) ∧
 Spec Try.prog 98 #[.int .i64 n150, .int .i64 n153] u146 (fun v154 u155 =>
 ∃ b156 : Bool, v154 = .bool b156 ∧
 ((!b156) = true →
 Spec Try.prog 99 #[.slice x0 x0_l x0_c, .int .i64 n3, .int .i64 n4, .int .i64 (IntKind.wrap .i64 ((IntKind.wrap .i64 (n4 - 1)) - (IntKind.wrap .i64 (n141 - n3))))] u155 (fun v157 u158 =>
 ∃ n159 : Int, v157 = .int .i64 n159 ∧
 I1 n159 n4 n5 b6 b7 u158 ∧ M2 n159 n4 n5 b6 b7 u158 < M2 n3 n4 n5 b6 b7 u8)) ∧
 ((!b156) = false →
 Spec Try.prog 100 #[.slice x0 x0_l x0_c, .int .i64 n3, .int .i64 n4, .int .i64 (IntKind.wrap .i64 ((IntKind.wrap .i64 (n4 - 1)) - (IntKind.wrap .i64 (n141 - n3))))] u155 (fun v160 u161 =>
 ∃ n162 : Int, ∃ b163 : Bool, v160 = .tuple #[.int .i64 n162, .bool b163] ∧
 (8 : Int) ≠ 0 ∧
 ((decide (((IntKind.wrap .i64 (n162 - n3)) : Int) < (IntKind.wrap .i64 (n4 - n162)))) = true →
 Spec Try.prog 78 #[.slice x0 x0_l x0_c, .int .i64 n3, .int .i64 n162, .int .i64 n5] u161 (fun v164 u165 =>
 v164 = .tuple #[] ∧
 I1 (IntKind.wrap .i64 (n162 + 1)) n4 n5 (decide (((IntKind.wrap .i64 (n162 - n3)) : Int) ≥ (IntKind.wrap .i64 (Int.tdiv (IntKind.wrap .i64 (n4 - n3)) 8)))) b163 u165 ∧ M2 (IntKind.wrap .i64 (n162 + 1)) n4 n5 (decide (((IntKind.wrap .i64 (n162 - n3)) : Int) ≥ (IntKind.wrap .i64 (Int.tdiv (IntKind.wrap .i64 (n4 - n3)) 8)))) b163 u165 < M2 n3 n4 n5 b6 b7 u8)) ∧
 ((decide (((IntKind.wrap .i64 (n162 - n3)) : Int) < (IntKind.wrap .i64 (n4 - n162)))) = false →
 Spec Try.prog 78 #[.slice x0 x0_l x0_c, .int .i64 (IntKind.wrap .i64 (n162 + 1)), .int .i64 n4, .int .i64 n5] u161 (fun v166 u167 =>
 v166 = .tuple #[] ∧
 I1 n3 n162 n5 (decide (((IntKind.wrap .i64 (n4 - n162)) : Int) ≥ (IntKind.wrap .i64 (Int.tdiv (IntKind.wrap .i64 (n4 - n3)) 8)))) b163 u167 ∧ M2 n3 n162 n5 (decide (((IntKind.wrap .i64 (n4 - n162)) : Int) ≥ (IntKind.wrap .i64 (Int.tdiv (IntKind.wrap .i64 (n4 - n3)) 8)))) b163 u167 < M2 n3 n4 n5 b6 b7 u8)))))) ∧
 ((decide ((n3 : Int) > 0)) = false →
 Spec Try.prog 100 #[.slice x0 x0_l x0_c, .int .i64 n3, .int .i64 n4, .int .i64 (IntKind.wrap .i64 ((IntKind.wrap .i64 (n4 - 1)) - (IntKind.wrap .i64 (n141 - n3))))] u146 (fun v168 u169 =>
 ∃ n170 : Int, ∃ b171 : Bool, v168 = .tuple #[.int .i64 n170, .bool b171] ∧
 (8 : Int) ≠ 0 ∧
 ((decide (((IntKind.wrap .i64 (n170 - n3)) : Int) < (IntKind.wrap .i64 (n4 - n170)))) = true →
 Spec Try.prog 78 #[.slice x0 x0_l x0_c, .int .i64 n3, .int .i64 n170, .int .i64 n5] u169 (fun v172 u173 =>
 v172 = .tuple #[] ∧
 I1 (IntKind.wrap .i64 (n170 + 1)) n4 n5 (decide (((IntKind.wrap .i64 (n170 - n3)) : Int) ≥ (IntKind.wrap .i64 (Int.tdiv (IntKind.wrap .i64 (n4 - n3)) 8)))) b171 u173 ∧ M2 (IntKind.wrap .i64 (n170 + 1)) n4 n5 (decide (((IntKind.wrap .i64 (n170 - n3)) : Int) ≥ (IntKind.wrap .i64 (Int.tdiv (IntKind.wrap .i64 (n4 - n3)) 8)))) b171 u173 < M2 n3 n4 n5 b6 b7 u8)) ∧
 ((decide (((IntKind.wrap .i64 (n170 - n3)) : Int) < (IntKind.wrap .i64 (n4 - n170)))) = false →
 Spec Try.prog 78 #[.slice x0 x0_l x0_c, .int .i64 (IntKind.wrap .i64 (n170 + 1)), .int .i64 n4, .int .i64 n5] u169 (fun v174 u175 =>
 v174 = .tuple #[] ∧
 I1 n3 n170 n5 (decide (((IntKind.wrap .i64 (n4 - n170)) : Int) ≥ (IntKind.wrap .i64 (Int.tdiv (IntKind.wrap .i64 (n4 - n3)) 8)))) b171 u175 ∧ M2 n3 n170 n5 (decide (((IntKind.wrap .i64 (n4 - n170)) : Int) ≥ (IntKind.wrap .i64 (Int.tdiv (IntKind.wrap .i64 (n4 - n3)) 8)))) b171 u175 < M2 n3 n4 n5 b6 b7 u8))))))) ∧
 (((b6 && b7) && ((1 : Int) == 1)) = false →
 ((decide ((n3 : Int) > 0)) = true →
 ∃ b176 o177 : Nat, (x0 : Option Addr) = some ⟨b176, o177, none⟩ ∧ ((0 : Int) ≤ (IntKind.wrap .i64 (n3 - 1)) ∧ ((IntKind.wrap .i64 (n3 - 1)) : Int) < ((x0_l : Nat) : Int)) ∧
 ∃ n178 : Int, PH.cell u144 b176 (o177 + ((IntKind.wrap .i64 (n3 - 1)) : Int).toNat * 1) = some (.int .i64 n178) ∧
 ∃ b179 o180 : Nat, (x0 : Option Addr) = some ⟨b179, o180, none⟩ ∧ ((0 : Int) ≤ (IntKind.wrap .i64 ((IntKind.wrap .i64 (n4 - 1)) - (IntKind.wrap .i64 (n141 - n3)))) ∧ ((IntKind.wrap .i64 ((IntKind.wrap .i64 (n4 - 1)) - (IntKind.wrap .i64 (n141 - n3)))) : Int) < ((x0_l : Nat) : Int)) ∧
 ∃ n181 : Int, PH.cell u144 b179 (o180 + ((IntKind.wrap .i64 ((IntKind.wrap .i64 (n4 - 1)) - (IntKind.wrap .i64 (n141 - n3)))) : Int).toNat * 1) = some (.int .i64 n181) ∧
 Spec Try.prog 98 #[.int .i64 n178, .int .i64 n181] u144 (fun v182 u183 =>
 ∃ b184 : Bool, v182 = .bool b184 ∧
 ((!b184) = true →
 Spec Try.prog 99 #[.slice x0 x0_l x0_c, .int .i64 n3, .int .i64 n4, .int .i64 (IntKind.wrap .i64 ((IntKind.wrap .i64 (n4 - 1)) - (IntKind.wrap .i64 (n141 - n3))))] u183 (fun v185 u186 =>
 ∃ n187 : Int, v185 = .int .i64 n187 ∧
 I1 n187 n4 n5 b6 b7 u186 ∧ M2 n187 n4 n5 b6 b7 u186 < M2 n3 n4 n5 b6 b7 u8)) ∧
 ((!b184) = false →
 Spec Try.prog 100 #[.slice x0 x0_l x0_c, .int .i64 n3, .int .i64 n4, .int .i64 (IntKind.wrap .i64 ((IntKind.wrap .i64 (n4 - 1)) - (IntKind.wrap .i64 (n141 - n3))))] u183 (fun v188 u189 =>
 ∃ n190 : Int, ∃ b191 : Bool, v188 = .tuple #[.int .i64 n190, .bool b191] ∧
 (8 : Int) ≠ 0 ∧
 ((decide (((IntKind.wrap .i64 (n190 - n3)) : Int) < (IntKind.wrap .i64 (n4 - n190)))) = true →
 Spec Try.prog 78 #[.slice x0 x0_l x0_c, .int .i64 n3, .int .i64 n190, .int .i64 n5] u189 (fun v192 u193 =>
 v192 = .tuple #[] ∧
 I1 (IntKind.wrap .i64 (n190 + 1)) n4 n5 (decide (((IntKind.wrap .i64 (n190 - n3)) : Int) ≥ (IntKind.wrap .i64 (Int.tdiv (IntKind.wrap .i64 (n4 - n3)) 8)))) b191 u193 ∧ M2 (IntKind.wrap .i64 (n190 + 1)) n4 n5 (decide (((IntKind.wrap .i64 (n190 - n3)) : Int) ≥ (IntKind.wrap .i64 (Int.tdiv (IntKind.wrap .i64 (n4 - n3)) 8)))) b191 u193 < M2 n3 n4 n5 b6 b7 u8)) ∧
 ((decide (((IntKind.wrap .i64 (n190 - n3)) : Int) < (IntKind.wrap .i64 (n4 - n190)))) = false →
 Spec Try.prog 78 #[.slice x0 x0_l x0_c, .int .i64 (IntKind.wrap .i64 (n190 + 1)), .int .i64 n4, .int .i64 n5] u189 (fun v194 u195 =>
 v194 = .tuple #[] ∧
 I1 n3 n190 n5 (decide (((IntKind.wrap .i64 (n4 - n190)) : Int) ≥ (IntKind.wrap .i64 (Int.tdiv (IntKind.wrap .i64 (n4 - n3)) 8)))) b191 u195 ∧ M2 n3 n190 n5 (decide (((IntKind.wrap .i64 (n4 - n190)) : Int) ≥ (IntKind.wrap .i64 (Int.tdiv (IntKind.wrap .i64 (n4 - n3)) 8)))) b191 u195 < M2 n3 n4 n5 b6 b7 u8)))))) ∧
 ((decide ((n3 : Int) > 0)) = false →
 Spec Try.prog 100 #[.slice x0 x0_l x0_c, .int .i64 n3, .int .i64 n4, .int .i64 (IntKind.wrap .i64 ((IntKind.wrap .i64 (n4 - 1)) - (IntKind.wrap .i64 (n141 - n3))))] u144 (fun v196 u197 =>
 ∃ n198 : Int, ∃ b199 : Bool, v196 = .tuple #[.int .i64 n198, .bool b199] ∧
 (8 : Int) ≠ 0 ∧
 ((decide (((IntKind.wrap .i64 (n198 - n3)) : Int) < (IntKind.wrap .i64 (n4 - n198)))) = true →
 Spec Try.prog 78 #[.slice x0 x0_l x0_c, .int .i64 n3, .int .i64 n198, .int .i64 n5] u197 (fun v200 u201 =>
 v200 = .tuple #[] ∧
 I1 (IntKind.wrap .i64 (n198 + 1)) n4 n5 (decide (((IntKind.wrap .i64 (n198 - n3)) : Int) ≥ (IntKind.wrap .i64 (Int.tdiv (IntKind.wrap .i64 (n4 - n3)) 8)))) b199 u201 ∧ M2 (IntKind.wrap .i64 (n198 + 1)) n4 n5 (decide (((IntKind.wrap .i64 (n198 - n3)) : Int) ≥ (IntKind.wrap .i64 (Int.tdiv (IntKind.wrap .i64 (n4 - n3)) 8)))) b199 u201 < M2 n3 n4 n5 b6 b7 u8)) ∧
 ((decide (((IntKind.wrap .i64 (n198 - n3)) : Int) < (IntKind.wrap .i64 (n4 - n198)))) = false →
 Spec Try.prog 78 #[.slice x0 x0_l x0_c, .int .i64 (IntKind.wrap .i64 (n198 + 1)), .int .i64 n4, .int .i64 n5] u197 (fun v202 u203 =>
 v202 = .tuple #[] ∧
 I1 n3 n198 n5 (decide (((IntKind.wrap .i64 (n4 - n198)) : Int) ≥ (IntKind.wrap .i64 (Int.tdiv (IntKind.wrap .i64 (n4 - n3)) 8)))) b199 u203 ∧ M2 n3 n198 n5 (decide (((IntKind.wrap .i64 (n4 - n198)) : Int) ≥ (IntKind.wrap .i64 (Int.tdiv (IntKind.wrap .i64 (n4 - n3)) 8)))) b199 u203 < M2 n3 n4 n5 b6 b7 u8))))))) ∧
 (((n142 : Int) == 2) = false →
 (((b6 && b7) && ((n142 : Int) == 1)) = true →
 Spec Try.prog 97 #[.slice x0 x0_l x0_c, .int .i64 n3, .int .i64 n4] u140 (fun v204 u205 =>
 ∃ b206 : Bool, v204 = .bool b206 ∧
 (b206 = true →
 Q (.tuple #[]) u205) ∧
 (b206 = false →
 ((decide ((n3 : Int) > 0)) = true →
 ∃ b207 o208 : Nat, (x0 : Option Addr) = some ⟨b207, o208, none⟩ ∧ ((0 : Int) ≤ (IntKind.wrap .i64 (n3 - 1)) ∧ ((IntKind.wrap .i64 (n3 - 1)) : Int) < ((x0_l : Nat) : Int)) ∧
 ∃ n209 : Int, PH.cell u205 b207 (o208 + ((IntKind.wrap .i64 (n3 - 1)) : Int).toNat * 1) = some (.int .i64 n209) ∧
 ∃ b210 o211 : Nat, (x0 : Option Addr) = some ⟨b210, o211, none⟩ ∧ ((0 : Int) ≤ n141 ∧ (n141 : Int) < ((x0_l : Nat) : Int)) ∧
 ∃ n212 : Int, PH.cell u205 b210 (o211 + (n141 : Int).toNat * 1) = some (.int .i64 n212) ∧
 Spec Try.prog 98 #[.int .i64 n209, .int .i64 n212] u205 (fun v213 u214 =>
 ∃ b215 : Bool, v213 = .bool b215 ∧
 ((!b215) = true →
 Spec Try.prog 99 #[.slice x0 x0_l x0_c, .int .i64 n3, .int .i64 n4, .int .i64 n141] u214 (fun v216 u217 =>
 ∃ n218 : Int, v216 = .int .i64 n218 ∧
 I1 n218 n4 n5 b6 b7 u217 ∧ M2 n218 n4 n5 b6 b7 u217 < M2 n3 n4 n5 b6 b7 u8)) ∧
 ((!b215) = false →
 Spec Try.prog 100 #[.slice x0 x0_l x0_c, .int .i64 n3, .int .i64 n4, .int .i64 n141] u214 (fun v219 u220 =>
 ∃ n221 : Int, ∃ b222 : Bool, v219 = .tuple #[.int .i64 n221, .bool b222] ∧
 (8 : Int) ≠ 0 ∧
 ((decide (((IntKind.wrap .i64 (n221 - n3)) : Int) < (IntKind.wrap .i64 (n4 - n221)))) = true →
 Spec Try.prog 78 #[.slice x0 x0_l x0_c, .int .i64 n3, .int .i64 n221, .int .i64 n5] u220 (fun v223 u224 =>
 v223 = .tuple #[] ∧
 I1 (IntKind.wrap .i64 (n221 + 1)) n4 n5 (decide (((IntKind.wrap .i64 (n221 - n3)) : Int) ≥ (IntKind.wrap .i64 (Int.tdiv (IntKind.wrap .i64 (n4 - n3)) 8)))) b222 u224 ∧ M2 (IntKind.wrap .i64 (n221 + 1)) n4 n5 (decide (((IntKind.wrap .i64 (n221 - n3)) : Int) ≥ (IntKind.wrap .i64 (Int.tdiv (IntKind.wrap .i64 (n4 - n3)) 8)))) b222 u224 < M2 n3 n4 n5 b6 b7 u8)) ∧
 ((decide (((IntKind.wrap .i64 (n221 - n3)) : Int) < (IntKind.wrap .i64 (n4 - n221)))) = false →
 Spec Try.prog 78 #[.slice x0 x0_l x0_c, .int .i64 (IntKind.wrap .i64 (n221 + 1)), .int .i64 n4, .int .i64 n5] u220 (fun v225 u226 =>
 v225 = .tuple #[] ∧
 I1 n3 n221 n5 (decide (((IntKind.wrap .i64 (n4 - n221)) : Int) ≥ (IntKind.wrap .i64 (Int.tdiv (IntKind.wrap .i64 (n4 - n3)) 8)))) b222 u226 ∧ M2 n3 n221 n5 (decide (((IntKind.wrap .i64 (n4 - n221)) : Int) ≥ (IntKind.wrap .i64 (Int.tdiv (IntKind.wrap .i64 (n4 - n3)) 8)))) b222 u226 < M2 n3 n4 n5 b6 b7 u8)))))) ∧
 ((decide ((n3 : Int) > 0)) = false →
 Spec Try.prog 100 #[.slice x0 x0_l x0_c, .int .i64 n3, .int .i64 n4, .int .i64 n141] u205 (fun v227 u228 =>
 ∃ n229 : Int, ∃ b230 : Bool, v227 = .tuple #[.int .i64 n229, .bool b230] ∧
 (8 : Int) ≠ 0 ∧
 ((decide (((IntKind.wrap .i64 (n229 - n3)) : Int) < (IntKind.wrap .i64 (n4 - n229)))) = true →
 Spec Try.prog 78 #[.slice x0 x0_l x0_c, .int .i64 n3, .int .i64 n229, .int .i64 n5] u228 (fun v231 u232 =>
 v231 = .tuple #[] ∧
 I1 (IntKind.wrap .i64 (n229 + 1)) n4 n5 (decide (((IntKind.wrap .i64 (n229 - n3)) : Int) ≥ (IntKind.wrap .i64 (Int.tdiv (IntKind.wrap .i64 (n4 - n3)) 8)))) b230 u232 ∧ M2 (IntKind.wrap .i64 (n229 + 1)) n4 n5 (decide (((IntKind.wrap .i64 (n229 - n3)) : Int) ≥ (IntKind.wrap .i64 (Int.tdiv (IntKind.wrap .i64 (n4 - n3)) 8)))) b230 u232 < M2 n3 n4 n5 b6 b7 u8)) ∧
 ((decide (((IntKind.wrap .i64 (n229 - n3)) : Int) < (IntKind.wrap .i64 (n4 - n229)))) = false →
 Spec Try.prog 78 #[.slice x0 x0_l x0_c, .int .i64 (IntKind.wrap .i64 (n229 + 1)), .int .i64 n4, .int .i64 n5] u228 (fun v233 u234 =>
 v233 = .tuple #[] ∧
 I1 n3 n229 n5 (decide (((IntKind.wrap .i64 (n4 - n229)) : Int) ≥ (IntKind.wrap .i64 (Int.tdiv (IntKind.wrap .i64 (n4 - n3)) 8)))) b230 u234 ∧ M2 n3 n229 n5 (decide (((IntKind.wrap .i64 (n4 - n229)) : Int) ≥ (IntKind.wrap .i64 (Int.tdiv (IntKind.wrap .i64 (n4 - n3)) 8)))) b230 u234 < M2 n3 n4 n5 b6 b7 u8))))))) ∧
 (((b6 && b7) && ((n142 : Int) == 1)) = false →
 ((decide ((n3 : Int) > 0)) = true →
 ∃ b235 o236 : Nat, (x0 : Option Addr) = some ⟨b235, o236, none⟩ ∧ ((0 : Int) ≤ (IntKind.wrap .i64 (n3 - 1)) ∧ ((IntKind.wrap .i64 (n3 - 1)) : Int) < ((x0_l : Nat) : Int)) ∧
 ∃ n237 : Int, PH.cell u140 b235 (o236 + ((IntKind.wrap .i64 (n3 - 1)) : Int).toNat * 1) = some (.int .i64 n237) ∧
 ∃ b238 o239 : Nat, (x0 : Option Addr) = some ⟨b238, o239, none⟩ ∧ ((0 : Int) ≤ n141 ∧ (n141 : Int) < ((x0_l : Nat) : Int)) ∧
 ∃ n240 : Int, PH.cell u140 b238 (o239 + (n141 : Int).toNat * 1) = some (.int .i64 n240) ∧
 Spec Try.prog 98 #[.int .i64 n237, .int .i64 n240] u140 (fun v241 u242 =>
 ∃ b243 : Bool, v241 = .bool b243 ∧
 ((!b243) = true →
 Spec Try.prog 99 #[.slice x0 x0_l x0_c, .int .i64 n3, .int .i64 n4, .int .i64 n141] u242 (fun v244 u245 =>
 ∃ n246 : Int, v244 = .int .i64 n246 ∧
 I1 n246 n4 n5 b6 b7 u245 ∧ M2 n246 n4 n5 b6 b7 u245 < M2 n3 n4 n5 b6 b7 u8)) ∧
 ((!b243) = false →
 Spec Try.prog 100 #[.slice x0 x0_l x0_c, .int .i64 n3, .int .i64 n4, .int .i64 n141] u242 (fun v247 u248 =>
 ∃ n249 : Int, ∃ b250 : Bool, v247 = .tuple #[.int .i64 n249, .bool b250] ∧
 (8 : Int) ≠ 0 ∧
 ((decide (((IntKind.wrap .i64 (n249 - n3)) : Int) < (IntKind.wrap .i64 (n4 - n249)))) = true →
 Spec Try.prog 78 #[.slice x0 x0_l x0_c, .int .i64 n3, .int .i64 n249, .int .i64 n5] u248 (fun v251 u252 =>
 v251 = .tuple #[] ∧
 I1 (IntKind.wrap .i64 (n249 + 1)) n4 n5 (decide (((IntKind.wrap .i64 (n249 - n3)) : Int) ≥ (IntKind.wrap .i64 (Int.tdiv (IntKind.wrap .i64 (n4 - n3)) 8)))) b250 u252 ∧ M2 (IntKind.wrap .i64 (n249 + 1)) n4 n5 (decide (((IntKind.wrap .i64 (n249 - n3)) : Int) ≥ (IntKind.wrap .i64 (Int.tdiv (IntKind.wrap .i64 (n4 - n3)) 8)))) b250 u252 < M2 n3 n4 n5 b6 b7 u8)) ∧
 ((decide (((IntKind.wrap .i64 (n249 - n3)) : Int) < (IntKind.wrap .i64 (n4 - n249)))) = false →
 Spec Try.prog 78 #[.slice x0 x0_l x0_c, .int .i64 (IntKind.wrap .i64 (n249 + 1)), .int .i64 n4, .int .i64 n5] u248 (fun v253 u254 =>
 v253 = .tuple #[] ∧
 I1 n3 n249 n5 (decide (((IntKind.wrap .i64 (n4 - n249)) : Int) ≥ (IntKind.wrap .i64 (Int.tdiv (IntKind.wrap .i64 (n4 - n3)) 8)))) b250 u254 ∧ M2 n3 n249 n5 (decide (((IntKind.wrap .i64 (n4 - n249)) : Int) ≥ (IntKind.wrap .i64 (Int.tdiv (IntKind.wrap .i64 (n4 - n3)) 8)))) b250 u254 < M2 n3 n4 n5 b6 b7 u8)))))) ∧
 ((decide ((n3 : Int) > 0)) = false →
 Spec Try.prog 100 #[.slice x0 x0_l x0_c, .int .i64 n3, .int .i64 n4, .int .i64 n141] u140 (fun v255 u256 =>
 ∃ n257 : Int, ∃ b258 : Bool, v255 = .tuple #[.int .i64 n257, .bool b258] ∧
 (8 : Int) ≠ 0 ∧
 ((decide (((IntKind.wrap .i64 (n257 - n3)) : Int) < (IntKind.wrap .i64 (n4 - n257)))) = true →
 Spec Try.prog 78 #[.slice x0 x0_l x0_c, .int .i64 n3, .int .i64 n257, .int .i64 n5] u256 (fun v259 u260 =>
 v259 = .tuple #[] ∧
 I1 (IntKind.wrap .i64 (n257 + 1)) n4 n5 (decide (((IntKind.wrap .i64 (n257 - n3)) : Int) ≥ (IntKind.wrap .i64 (Int.tdiv (IntKind.wrap .i64 (n4 - n3)) 8)))) b258 u260 ∧ M2 (IntKind.wrap .i64 (n257 + 1)) n4 n5 (decide (((IntKind.wrap .i64 (n257 - n3)) : Int) ≥ (IntKind.wrap .i64 (Int.tdiv (IntKind.wrap .i64 (n4 - n3)) 8)))) b258 u260 < M2 n3 n4 n5 b6 b7 u8)) ∧
 ((decide (((IntKind.wrap .i64 (n257 - n3)) : Int) < (IntKind.wrap .i64 (n4 - n257)))) = false →
 Spec Try.prog 78 #[.slice x0 x0_l x0_c, .int .i64 (IntKind.wrap .i64 (n257 + 1)), .int .i64 n4, .int .i64 n5] u256 (fun v261 u262 =>
 v261 = .tuple #[] ∧
 I1 n3 n257 n5 (decide (((IntKind.wrap .i64 (n4 - n257)) : Int) ≥ (IntKind.wrap .i64 (Int.tdiv (IntKind.wrap .i64 (n4 - n3)) 8)))) b258 u262 ∧ M2 n3 n257 n5 (decide (((IntKind.wrap .i64 (n4 - n257)) : Int) ≥ (IntKind.wrap .i64 (Int.tdiv (IntKind.wrap .i64 (n4 - n3)) 8)))) b258 u262 < M2 n3 n4 n5 b6 b7 u8)))))))))))
set_option maxRecDepth 100000 in
theorem f78_vc (x0 : Option Addr) (x0_l x0_c : Nat) (x1 : Int) (x2 : Int) (x3 : Int) (u : PH) (Q : Value → PH → Prop) : fnVC Try.prog f78_h Try.f78 [.c (.v (.slice x0 x0_l x0_c)), .c (.v (.int .i64 x1)), .c (.v (.int .i64 x2)), .c (.v (.int .i64 x3))] u Q = f78_V x0 x0_l x0_c x1 x2 x3 u Q := by kernel_rfl
theorem f78_of {x0 : Option Addr} {x0_l x0_c : Nat} {x1 : Int} {x2 : Int} {x3 : Int} {u : PH} {Q : Value → PH → Prop} (h : f78_V x0 x0_l x0_c x1 x2 x3 u Q) : Spec Try.prog 78 #[.slice x0 x0_l x0_c, .int .i64 x1, .int .i64 x2, .int .i64 x3] u Q :=
  spec_of_vc (H := f78_h) (ps := [.c (.v (.slice x0 x0_l x0_c)), .c (.v (.int .i64 x1)), .c (.v (.int .i64 x2)), .c (.v (.int .i64 x3))]) Try.func78 rfl (by rw [f78_vc]; exact h)
/-- math/bits.Len -/
def f79_h : Hints := ⟨[], []⟩
set_option maxRecDepth 100000 in
def f79_V (x : Int) (u : PH) (Q : Value → PH → Prop) : Prop :=
 (Spec Try.prog 102 #[.int .u64 x] u (fun v1 u2 =>
 ∃ n3 : Int, v1 = .int .i64 n3 ∧
 Q (.int .i64 n3) u2))
set_option maxRecDepth 100000 in
theorem f79_vc (x : Int) (u : PH) (Q : Value → PH → Prop) : fnVC Try.prog f79_h Try.f79 [.c (.v (.int .u64 x))] u Q = f79_V x u Q := by kernel_rfl
theorem f79_of {x : Int} {u : PH} {Q : Value → PH → Prop} (h : f79_V x u Q) : Spec Try.prog 79 #[.int .u64 x] u Q :=
  spec_of_vc (H := f79_h) (ps := [.c (.v (.int .u64 x))]) Try.func79 rfl (by rw [f79_vc]; exact h)
/-- slices.insertionSortOrdered[int] -/
def f92_h : Hints := ⟨[(1, ⟨[(6, .int .i64)], [], []⟩), (4, ⟨[(7, .int .i64)], [], []⟩)], []⟩
set_option maxRecDepth 100000 in
def f92_V (data : Option Addr) (data_l data_c : Nat) (a : Int) (b : Int) (u : PH) (Q : Value → PH → Prop) : Prop :=
 (∃ (I1 : Int → PH → Prop) (M2 : Int → PH → Nat), I1 (IntKind.wrap .i64 (a + 1)) u ∧
 ∀ n3 : Int, ∀ u4 : PH, I1 n3 u4 →
 ((decide ((n3 : Int) < b)) = true →
 ∃ (I5 : Int → PH → Prop) (M6 : Int → PH → Nat), I5 n3 u4 ∧
 ∀ n7 : Int, ∀ u8 : PH, I5 n7 u8 →
 ((decide ((n7 : Int) > a)) = true →
 ∃ b9 o10 : Nat, (data : Option Addr) = some ⟨b9, o10, none⟩ ∧ ((0 : Int) ≤ n7 ∧ (n7 : Int) < ((data_l : Nat) : Int)) ∧
 ∃ n11 : Int, PH.cell u8 b9 (o10 + (n7 : Int).toNat * 1) = some (.int .i64 n11) ∧
 ∃ b12 o13 : Nat, (data : Option Addr) = some ⟨b12, o13, none⟩ ∧ ((0 : Int) ≤ (IntKind.wrap .i64 (n7 - 1)) ∧ ((IntKind.wrap .i64 (n7 - 1)) : Int) < ((data_l : Nat) : Int)) ∧
 ∃ n14 : Int, PH.cell u8 b12 (o13 + ((IntKind.wrap .i64 (n7 - 1)) : Int).toNat * 1) = some (.int .i64 n14) ∧
 Spec Try.prog 98 #[.int .i64 n11, .int .i64 n14] u8 (fun v15 u16 =>
 ∃ b17 : Bool, v15 = .bool b17 ∧
 (b17 = true →
 ∃ b18 o19 : Nat, (data : Option Addr) = some ⟨b18, o19, none⟩ ∧ ((0 : Int) ≤ (IntKind.wrap .i64 (n7 - 1)) ∧ ((IntKind.wrap .i64 (n7 - 1)) : Int) < ((data_l : Nat) : Int)) ∧
 ∃ n20 : Int, PH.cell u16 b18 (o19 + ((IntKind.wrap .i64 (n7 - 1)) : Int).toNat * 1) = some (.int .i64 n20) ∧
 ∃ b21 o22 : Nat, (data : Option Addr) = some ⟨b21, o22, none⟩ ∧ ((0 : Int) ≤ n7 ∧ (n7 : Int) < ((data_l : Nat) : Int)) ∧
 ∃ n23 : Int, PH.cell u16 b21 (o22 + (n7 : Int).toNat * 1) = some (.int .i64 n23) ∧
 ∃ b24 o25 : Nat, (data : Option Addr) = some ⟨b24, o25, none⟩ ∧ ((0 : Int) ≤ n7 ∧ (n7 : Int) < ((data_l : Nat) : Int)) ∧
 PH.free u16 b24 (o25 + (n7 : Int).toNat * 1) 1 ∧
 ∃ b26 o27 : Nat, (data : Option Addr) = some ⟨b26, o27, none⟩ ∧ ((0 : Int) ≤ (IntKind.wrap .i64 (n7 - 1)) ∧ ((IntKind.wrap .i64 (n7 - 1)) : Int) < ((data_l : Nat) : Int)) ∧
 PH.free (PH.write u16 b24 (o25 + (n7 : Int).toNat * 1) [.int .i64 n20]) b26 (o27 + ((IntKind.wrap .i64 (n7 - 1)) : Int).toNat * 1) 1 ∧
 I5 (IntKind.wrap .i64 (n7 - 1)) (PH.write (PH.write u16 b24 (o25 + (n7 : Int).toNat * 1) [.int .i64 n20]) b26 (o27 + ((IntKind.wrap .i64 (n7 - 1)) : Int).toNat * 1) [.int .i64 n23]) ∧ M6 (IntKind.wrap .i64 (n7 - 1)) (PH.write (PH.write u16 b24 (o25 + (n7 : Int).toNat * 1) [.int .i64 n20]) b26 (o27 + ((IntKind.wrap .i64 (n7 - 1)) : Int).toNat * 1) [.int .i64 n23]) < M6 n7 u8) ∧
 (b17 = false →
 I1 (IntKind.wrap .i64 (n3 + 1)) u16 ∧ M2 (IntKind.wrap .i64 (n3 + 1)) u16 < M2 n3 u4))) ∧
 ((decide ((n7 : Int) > a)) = false →
 I1 (IntKind.wrap .i64 (n3 + 1)) u8 ∧ M2 (IntKind.wrap .i64 (n3 + 1)) u8 < M2 n3 u4)) ∧
 ((decide ((n3 : Int) < b)) = false →
 Q (.tuple #[]) u4))
set_option maxRecDepth 100000 in
theorem f92_vc (data : Option Addr) (data_l data_c : Nat) (a : Int) (b : Int) (u : PH) (Q : Value → PH → Prop) : fnVC Try.prog f92_h Try.f92 [.c (.v (.slice data data_l data_c)), .c (.v (.int .i64 a)), .c (.v (.int .i64 b))] u Q = f92_V data data_l data_c a b u Q := by kernel_rfl
theorem f92_of {data : Option Addr} {data_l data_c : Nat} {a : Int} {b : Int} {u : PH} {Q : Value → PH → Prop} (h : f92_V data data_l data_c a b u Q) : Spec Try.prog 92 #[.slice data data_l data_c, .int .i64 a, .int .i64 b] u Q :=
  spec_of_vc (H := f92_h) (ps := [.c (.v (.slice data data_l data_c)), .c (.v (.int .i64 a)), .c (.v (.int .i64 b))]) Try.func92 rfl (by rw [f92_vc]; exact h)
/-- math/bits.Len64 -/
def f102_h : Hints := ⟨[], []⟩
set_option maxRecDepth 100000 in
def f102_V (x : Int) (u : PH) (Q : Value → PH → Prop) : Prop :=
 (((decide ((x : Int) ≥ 4294967296)) = true →
 (0 : Int) ≤ 32 ∧
 ((decide ((((Int.fdiv x (2 ^ (min (Int.toNat 32) (IntKind.bits .u64))))) : Int) ≥ 65536)) = true →
 (0 : Int) ≤ 16 ∧
 ((decide ((((Int.fdiv ((Int.fdiv x (2 ^ (min (Int.toNat 32) (IntKind.bits .u64))))) (2 ^ (min (Int.toNat 16) (IntKind.bits .u64))))) : Int) ≥ 256)) = true →
 (0 : Int) ≤ 8 ∧
 SemSpec Try.prog (Instr.index 9 (.string ({ data := #[0, 1, 2, 2, 3, 3, 3, 3, 4, 4, 4, 4, 4, 4, 4, 4, 5, 5, 5, 5, 5, 5, 5, 5, 5, 5, 5, 5, 5, 5, 5, 5, 6, 6, 6, 6, 6, 6, 6, 6, 6, 6, 6, 6, 6, 6, 6, 6, 6, 6, 6, 6, 6, 6, 6, 6, 6, 6, 6, 6, 6, 6, 6, 6, 7, 7, 7, 7, 7, 7, 7, 7, 7, 7, 7, 7, 7, 7, 7, 7, 7, 7, 7, 7, 7, 7, 7, 7, 7, 7, 7, 7, 7, 7, 7, 7, 7, 7, 7, 7, 7, 7, 7, 7, 7, 7, 7, 7, 7, 7, 7, 7, 7, 7, 7, 7, 7, 7, 7, 7, 7, 7, 7, 7, 7, 7, 7, 7, 8, 8, 8, 8, 8, 8, 8, 8, 8, 8, 8, 8, 8, 8, 8, 8, 8, 8, 8, 8, 8, 8, 8, 8, 8, 8, 8, 8, 8, 8, 8, 8, 8, 8, 8, 8, 8, 8, 8, 8, 8, 8, 8, 8, 8, 8, 8, 8, 8, 8, 8, 8, 8, 8, 8, 8, 8, 8, 8, 8, 8, 8, 8, 8, 8, 8, 8, 8, 8, 8, 8, 8, 8, 8, 8, 8, 8, 8, 8, 8, 8, 8, 8, 8, 8, 8, 8, 8, 8, 8, 8, 8, 8, 8, 8, 8, 8, 8, 8, 8, 8, 8, 8, 8, 8, 8, 8, 8, 8, 8, 8, 8, 8, 8, 8, 8, 8, 8, 8, 8, 8, 8, 8, 8, 8, 8, 8, 8] })) (.int .u8 (IntKind.wrap .u8 ((Int.fdiv ((Int.fdiv ((Int.fdiv x (2 ^ (min (Int.toNat 32) (IntKind.bits .u64))))) (2 ^ (min (Int.toNat 16) (IntKind.bits .u64))))) (2 ^ (min (Int.toNat 8) (IntKind.bits .u64)))))))) u (fun v1 u2 =>
 ∃ n3 : Int, v1 = .int .u8 n3 ∧
 Q (.int .i64 (IntKind.wrap .i64 ((IntKind.wrap .i64 ((IntKind.wrap .i64 (32 + 16)) + 8)) + (IntKind.wrap .i64 n3)))) u2)) ∧
 ((decide ((((Int.fdiv ((Int.fdiv x (2 ^ (min (Int.toNat 32) (IntKind.bits .u64))))) (2 ^ (min (Int.toNat 16) (IntKind.bits .u64))))) : Int) ≥ 256)) = false →
 SemSpec Try.prog (Instr.index 9 (.string ({ data := #[0, 1, 2, 2, 3, 3, 3, 3, 4, 4, 4, 4, 4, 4, 4, 4, 5, 5, 5, 5, 5, 5, 5, 5, 5, 5, 5, 5, 5, 5, 5, 5, 6, 6, 6, 6, 6, 6, 6, 6, 6, 6, 6, 6, 6, 6, 6, 6, 6, 6, 6, 6, 6, 6, 6, 6, 6, 6, 6, 6, 6, 6, 6, 6, 7, 7, 7, 7, 7, 7, 7, 7, 7, 7, 7, 7, 7, 7, 7, 7, 7, 7, 7, 7, 7, 7, 7, 7, 7, 7, 7, 7, 7, 7, 7, 7, 7, 7, 7, 7, 7, 7, 7, 7, 7, 7, 7, 7, 7, 7, 7, 7, 7, 7, 7, 7, 7, 7, 7, 7, 7, 7, 7, 7, 7, 7, 7, 7, 8, 8, 8, 8, 8, 8, 8, 8, 8, 8, 8, 8, 8, 8, 8, 8, 8, 8, 8, 8, 8, 8, 8, 8, 8, 8, 8, 8, 8, 8, 8, 8, 8, 8, 8, 8, 8, 8, 8, 8, 8, 8, 8, 8, 8, 8, 8, 8, 8, 8, 8, 8, 8, 8, 8, 8, 8, 8, 8, 8, 8, 8, 8, 8, 8, 8, 8, 8, 8, 8, 8, 8, 8, 8, 8, 8, 8, 8, 8, 8, 8, 8, 8, 8, 8, 8, 8, 8, 8, 8, 8, 8, 8, 8, 8, 8, 8, 8, 8, 8, 8, 8, 8, 8, 8, 8, 8, 8, 8, 8, 8, 8, 8, 8, 8, 8, 8, 8, 8, 8, 8, 8, 8, 8, 8, 8, 8, 8] })) (.int .u8 (IntKind.wrap .u8 ((Int.fdiv ((Int.fdiv x (2 ^ (min (Int.toNat 32) (IntKind.bits .u64))))) (2 ^ (min (Int.toNat 16) (IntKind.bits .u64)))))))) u (fun v4 u5 =>
 ∃ n6 : Int, v4 = .int .u8 n6 ∧
 Q (.int .i64 (IntKind.wrap .i64 ((IntKind.wrap .i64 (32 + 16)) + (IntKind.wrap .i64 n6)))) u5))) ∧
 ((decide ((((Int.fdiv x (2 ^ (min (Int.toNat 32) (IntKind.bits .u64))))) : Int) ≥ 65536)) = false →
 ((decide ((((Int.fdiv x (2 ^ (min (Int.toNat 32) (IntKind.bits .u64))))) : Int) ≥ 256)) = true →
 (0 : Int) ≤ 8 ∧
 SemSpec Try.prog (Instr.index 9 (.string ({ data := #[0, 1, 2, 2, 3, 3, 3, 3, 4, 4, 4, 4, 4, 4, 4, 4, 5, 5, 5, 5, 5, 5, 5, 5, 5, 5, 5, 5, 5, 5, 5, 5, 6, 6, 6, 6, 6, 6, 6, 6, 6, 6, 6, 6, 6, 6, 6, 6, 6, 6, 6, 6, 6, 6, 6, 6, 6, 6, 6, 6, 6, 6, 6, 6, 7, 7, 7, 7, 7, 7, 7, 7, 7, 7, 7, 7, 7, 7, 7, 7, 7, 7, 7, 7, 7, 7, 7, 7, 7, 7, 7, 7, 7, 7, 7, 7, 7, 7, 7, 7, 7, 7, 7, 7, 7, 7, 7, 7, 7, 7, 7, 7, 7, 7, 7, 7, 7, 7, 7, 7, 7, 7, 7, 7, 7, 7, 7, 7, 8, 8, 8, 8, 8, 8, 8, 8, 8, 8, 8, 8, 8, 8, 8, 8, 8, 8, 8, 8, 8, 8, 8, 8, 8, 8, 8, 8, 8, 8, 8, 8, 8, 8, 8, 8, 8, 8, 8, 8, 8, 8, 8, 8, 8, 8, 8, 8, 8, 8, 8, 8, 8, 8, 8, 8, 8, 8, 8, 8, 8, 8, 8, 8, 8, 8, 8, 8, 8, 8, 8, 8, 8, 8, 8, 8, 8, 8, 8, 8, 8, 8, 8, 8, 8, 8, 8, 8, 8, 8, 8, 8, 8, 8, 8, 8, 8, 8, 8, 8, 8, 8, 8, 8, 8, 8, 8, 8, 8, 8, 8, 8, 8, 8, 8, 8, 8, 8, 8, 8, 8, 8, 8, 8, 8, 8, 8, 8] })) (.int .u8 (IntKind.wrap .u8 ((Int.fdiv ((Int.fdiv x (2 ^ (min (Int.toNat 32) (IntKind.bits .u64))))) (2 ^ (min (Int.toNat 8) (IntKind.bits .u64)))))))) u (fun v7 u8 =>
 ∃ n9 : Int, v7 = .int .u8 n9 ∧
 Q (.int .i64 (IntKind.wrap .i64 ((IntKind.wrap .i64 (32 + 8)) + (IntKind.wrap .i64 n9)))) u8)) ∧
 ((decide ((((Int.fdiv x (2 ^ (min (Int.toNat 32) (IntKind.bits .u64))))) : Int) ≥ 256)) = false →
 SemSpec Try.prog (Instr.index 9 (.string ({ data := #[0, 1, 2, 2, 3, 3, 3, 3, 4, 4, 4, 4, 4, 4, 4, 4, 5, 5, 5, 5, 5, 5, 5, 5, 5, 5, 5, 5, 5, 5, 5, 5, 6, 6, 6, 6, 6, 6, 6, 6, 6, 6, 6, 6, 6, 6, 6, 6, 6, 6, 6, 6, 6, 6, 6, 6, 6, 6, 6, 6, 6, 6, 6, 6, 7, 7, 7, 7, 7, 7, 7, 7, 7, 7, 7, 7, 7, 7, 7, 7, 7, 7, 7, 7, 7, 7, 7, 7, 7, 7, 7, 7, 7, 7, 7, 7, 7, 7, 7, 7, 7, 7, 7, 7, 7, 7, 7, 7, 7, 7, 7, 7, 7, 7, 7, 7, 7, 7, 7, 7, 7, 7, 7, 7, 7, 7, 7, 7, 8, 8, 8, 8, 8, 8, 8, 8, 8, 8, 8, 8, 8, 8, 8, 8, 8, 8, 8, 8, 8, 8, 8, 8, 8, 8, 8, 8, 8, 8, 8, 8, 8, 8, 8, 8, 8, 8, 8, 8, 8, 8, 8, 8, 8, 8, 8, 8, 8, 8, 8, 8, 8, 8, 8, 8, 8, 8, 8, 8, 8, 8, 8, 8, 8, 8, 8, 8, 8, 8, 8, 8, 8, 8, 8, 8, 8, 8, 8, 8, 8, 8, 8, 8, 8, 8, 8, 8, 8, 8, 8, 8, 8, 8, 8, 8, 8, 8, 8, 8, 8, 8, 8, 8, 8, 8, 8, 8, 8, 8, 8, 8, 8, 8, 8, 8, 8, 8, 8, 8, 8, 8, 8, 8, 8, 8, 8, 8] })) (.int .u8 (IntKind.wrap .u8 ((Int.fdiv x (2 ^ (min (Int.toNat 32) (IntKind.bits .u64)))))))) u (fun v10 u11 =>
 ∃ n12 : Int, v10 = .int .u8 n12 ∧
 Q (.int .i64 (IntKind.wrap .i64 (32 + (IntKind.wrap .i64 n12)))) u11)))) ∧
 ((decide ((x : Int) ≥ 4294967296)) = false →
 ((decide ((x : Int) ≥ 65536)) = true →
 (0 : Int) ≤ 16 ∧
 ((decide ((((Int.fdiv x (2 ^ (min (Int.toNat 16) (IntKind.bits .u64))))) : Int) ≥ 256)) = true →
 (0 : Int) ≤ 8 ∧
 SemSpec Try.prog (Instr.index 9 (.string ({ data := #[0, 1, 2, 2, 3, 3, 3, 3, 4, 4, 4, 4, 4, 4, 4, 4, 5, 5, 5, 5, 5, 5, 5, 5, 5, 5, 5, 5, 5, 5, 5, 5, 6, 6, 6, 6, 6, 6, 6, 6, 6, 6, 6, 6, 6, 6, 6, 6, 6, 6, 6, 6, 6, 6, 6, 6, 6, 6, 6, 6, 6, 6, 6, 6, 7, 7, 7, 7, 7, 7, 7, 7, 7, 7, 7, 7, 7, 7, 7, 7, 7, 7, 7, 7, 7, 7, 7, 7, 7, 7, 7, 7, 7, 7, 7, 7, 7, 7, 7, 7, 7, 7, 7, 7, 7, 7, 7, 7, 7, 7, 7, 7, 7, 7, 7, 7, 7, 7, 7, 7, 7, 7, 7, 7, 7, 7, 7, 7, 8, 8, 8, 8, 8, 8, 8, 8, 8, 8, 8, 8, 8, 8, 8, 8, 8, 8, 8, 8, 8, 8, 8, 8, 8, 8, 8, 8, 8, 8, 8, 8, 8, 8, 8, 8, 8, 8, 8, 8, 8, 8, 8, 8, 8, 8, 8, 8, 8, 8, 8, 8, 8, 8, 8, 8, 8, 8, 8, 8, 8, 8, 8, 8, 8, 8, 8, 8, 8, 8, 8, 8, 8, 8, 8, 8, 8, 8, 8, 8, 8, 8, 8, 8, 8, 8, 8, 8, 8, 8, 8, 8, 8, 8, 8, 8, 8, 8, 8, 8, 8, 8, 8, 8, 8, 8, 8, 8, 8, 8, 8, 8, 8, 8, 8, 8, 8, 8, 8, 8, 8, 8, 8, 8, 8, 8, 8, 8] })) (.int .u8 (IntKind.wrap .u8 ((Int.fdiv ((Int.fdiv x (2 ^ (min (Int.toNat 16) (IntKind.bits .u64))))) (2 ^ (min (Int.toNat 8) (IntKind.bits .u64)))))))) u (fun v13 u14 =>
 ∃ n15 : Int, v13 = .int .u8 n15 ∧
 Q (.int .i64 (IntKind.wrap .i64 ((IntKind.wrap .i64 ((IntKind.wrap .i64 (0 + 16)) + 8)) + (IntKind.wrap .i64 n15)))) u14)) ∧
 ((decide ((((Int.fdiv x (2 ^ (min (Int.toNat 16) (IntKind.bits .u64))))) : Int) ≥ 256)) = false →
 SemSpec Try.prog (Instr.index 9 (.string ({ data := #[0, 1, 2, 2, 3, 3, 3, 3, 4, 4, 4, 4, 4, 4, 4, 4, 5, 5, 5, 5, 5, 5, 5, 5, 5, 5, 5, 5, 5, 5, 5, 5, 6, 6, 6, 6, 6, 6, 6, 6, 6, 6, 6, 6, 6, 6, 6, 6, 6, 6, 6, 6, 6, 6, 6, 6, 6, 6, 6, 6, 6, 6, 6, 6, 7, 7, 7, 7, 7, 7, 7, 7, 7, 7, 7, 7, 7, 7, 7, 7, 7, 7, 7, 7, 7, 7, 7, 7, 7, 7, 7, 7, 7, 7, 7, 7, 7, 7, 7, 7, 7, 7, 7, 7, 7, 7, 7, 7, 7, 7, 7, 7, 7, 7, 7, 7, 7, 7, 7, 7, 7, 7, 7, 7, 7, 7, 7, 7, 8, 8, 8, 8, 8, 8, 8, 8, 8, 8, 8, 8, 8, 8, 8, 8, 8, 8, 8, 8, 8, 8, 8, 8, 8, 8, 8, 8, 8, 8, 8, 8, 8, 8, 8, 8, 8, 8, 8, 8, 8, 8, 8, 8, 8, 8, 8, 8, 8, 8, 8, 8, 8, 8, 8, 8, 8, 8, 8, 8, 8, 8, 8, 8, 8, 8, 8, 8, 8, 8, 8, 8, 8, 8, 8, 8, 8, 8, 8, 8, 8, 8, 8, 8, 8, 8, 8, 8, 8, 8, 8, 8, 8, 8, 8, 8, 8, 8, 8, 8, 8, 8, 8, 8, 8, 8, 8, 8, 8, 8, 8, 8, 8, 8, 8, 8, 8, 8, 8, 8, 8, 8, 8, 8, 8, 8, 8, 8] })) (.int .u8 (IntKind.wrap .u8 ((Int.fdiv x (2 ^ (min (Int.toNat 16) (IntKind.bits .u64)))))))) u (fun v16 u17 =>
 ∃ n18 : Int, v16 = .int .u8 n18 ∧
 Q (.int .i64 (IntKind.wrap .i64 ((IntKind.wrap .i64 (0 + 16)) + (IntKind.wrap .i64 n18)))) u17))) ∧
 ((decide ((x : Int) ≥ 65536)) = false →
 ((decide ((x : Int) ≥ 256)) = true →
 (0 : Int) ≤ 8 ∧
 SemSpec Try.prog (Instr.index 9 (.string ({ data := #[0, 1, 2, 2, 3, 3, 3, 3, 4, 4, 4, 4, 4, 4, 4, 4, 5, 5, 5, 5, 5, 5, 5, 5, 5, 5, 5, 5, 5, 5, 5, 5, 6, 6, 6, 6, 6, 6, 6, 6, 6, 6, 6, 6, 6, 6, 6, 6, 6, 6, 6, 6, 6, 6, 6, 6, 6, 6, 6, 6, 6, 6, 6, 6, 7, 7, 7, 7, 7, 7, 7, 7, 7, 7, 7, 7, 7, 7, 7, 7, 7, 7, 7, 7, 7, 7, 7, 7, 7, 7, 7, 7, 7, 7, 7, 7, 7, 7, 7, 7, 7, 7, 7, 7, 7, 7, 7, 7, 7, 7, 7, 7, 7, 7, 7, 7, 7, 7, 7, 7, 7, 7, 7, 7, 7, 7, 7, 7, 8, 8, 8, 8, 8, 8, 8, 8, 8, 8, 8, 8, 8, 8, 8, 8, 8, 8, 8, 8, 8, 8, 8, 8, 8, 8, 8, 8, 8, 8, 8, 8, 8, 8, 8, 8, 8, 8, 8, 8, 8, 8, 8, 8, 8, 8, 8, 8, 8, 8, 8, 8, 8, 8, 8, 8, 8, 8, 8, 8, 8, 8, 8, 8, 8, 8, 8, 8, 8, 8, 8, 8, 8, 8, 8, 8, 8, 8, 8, 8, 8, 8, 8, 8, 8, 8, 8, 8, 8, 8, 8, 8, 8, 8, 8, 8, 8, 8, 8, 8, 8, 8, 8, 8, 8, 8, 8, 8, 8, 8, 8, 8, 8, 8, 8, 8, 8, 8, 8, 8, 8, 8, 8, 8, 8, 8, 8, 8] })) (.int .u8 (IntKind.wrap .u8 ((Int.fdiv x (2 ^ (min (Int.toNat 8) (IntKind.bits .u64)))))))) u (fun v19 u20 =>
 ∃ n21 : Int, v19 = .int .u8 n21 ∧
 Q (.int .i64 (IntKind.wrap .i64 ((IntKind.wrap .i64 (0 + 8)) + (IntKind.wrap .i64 n21)))) u20)) ∧
 ((decide ((x : Int) ≥ 256)) = false →
 SemSpec Try.prog (Instr.index 9 (.string ({ data := #[0, 1, 2, 2, 3, 3, 3, 3, 4, 4, 4, 4, 4, 4, 4, 4, 5, 5, 5, 5, 5, 5, 5, 5, 5, 5, 5, 5, 5, 5, 5, 5, 6, 6, 6, 6, 6, 6, 6, 6, 6, 6, 6, 6, 6, 6, 6, 6, 6, 6, 6, 6, 6, 6, 6, 6, 6, 6, 6, 6, 6, 6, 6, 6, 7, 7, 7, 7, 7, 7, 7, 7, 7, 7, 7, 7, 7, 7, 7, 7, 7, 7, 7, 7, 7, 7, 7, 7, 7, 7, 7, 7, 7, 7, 7, 7, 7, 7, 7, 7, 7, 7, 7, 7, 7, 7, 7, 7, 7, 7, 7, 7, 7, 7, 7, 7, 7, 7, 7, 7, 7, 7, 7, 7, 7, 7, 7, 7, 8, 8, 8, 8, 8, 8, 8, 8, 8, 8, 8, 8, 8, 8, 8, 8, 8, 8, 8, 8, 8, 8, 8, 8, 8, 8, 8, 8, 8, 8, 8, 8, 8, 8, 8, 8, 8, 8, 8, 8, 8, 8, 8, 8, 8, 8, 8, 8, 8, 8, 8, 8, 8, 8, 8, 8, 8, 8, 8, 8, 8, 8, 8, 8, 8, 8, 8, 8, 8, 8, 8, 8, 8, 8, 8, 8, 8, 8, 8, 8, 8, 8, 8, 8, 8, 8, 8, 8, 8, 8, 8, 8, 8, 8, 8, 8, 8, 8, 8, 8, 8, 8, 8, 8, 8, 8, 8, 8, 8, 8, 8, 8, 8, 8, 8, 8, 8, 8, 8, 8, 8, 8, 8, 8, 8, 8, 8, 8] })) (.int .u8 (IntKind.wrap .u8 x))) u (fun v22 u23 =>
 ∃ n24 : Int, v22 = .int .u8 n24 ∧
 Q (.int .i64 (IntKind.wrap .i64 (0 + (IntKind.wrap .i64 n24)))) u23)))))
set_option maxRecDepth 100000 in
theorem f102_vc (x : Int) (u : PH) (Q : Value → PH → Prop) : fnVC Try.prog f102_h Try.f102 [.c (.v (.int .u64 x))] u Q = f102_V x u Q := by kernel_rfl
theorem f102_of {x : Int} {u : PH} {Q : Value → PH → Prop} (h : f102_V x u Q) : Spec Try.prog 102 #[.int .u64 x] u Q :=
  spec_of_vc (H := f102_h) (ps := [.c (.v (.int .u64 x))]) Try.func102 rfl (by rw [f102_vc]; exact h)
end Go.Proofs.Ytlmnfhhmgfnbpaa.E

namespace Go.Proofs.Ytlmnfhhmgfnbpaa.E
open Go
/-- cmp.Less[int] -/
def f98_h : Hints := ⟨[], []⟩
set_option maxRecDepth 100000 in
def f98_V (x : Int) (y : Int) (u : PH) (Q : Value → PH → Prop) : Prop :=
 (Spec Try.prog 68 #[.int .i64 x] u (fun v1 u2 =>
 ∃ b3 : Bool, v1 = .bool b3 ∧
 (b3 = true →
 Spec Try.prog 68 #[.int .i64 y] u2 (fun v4 u5 =>
 ∃ b6 : Bool, v4 = .bool b6 ∧
 Q (.bool ((!b6) || (decide ((x : Int) < y)))) u5)) ∧
 (b3 = false →
 Q (.bool (decide ((x : Int) < y))) u2)))
set_option maxRecDepth 100000 in
theorem f98_vc (x : Int) (y : Int) (u : PH) (Q : Value → PH → Prop) : fnVC Try.prog f98_h Try.f98 [.c (.v (.int .i64 x)), .c (.v (.int .i64 y))] u Q = f98_V x y u Q := by kernel_rfl
theorem f98_of {x : Int} {y : Int} {u : PH} {Q : Value → PH → Prop} (h : f98_V x y u Q) : Spec Try.prog 98 #[.int .i64 x, .int .i64 y] u Q :=
  spec_of_vc (H := f98_h) (ps := [.c (.v (.int .i64 x)), .c (.v (.int .i64 y))]) Try.func98 rfl (by rw [f98_vc]; exact h)
/-- math/bits.Len32 -/
def f101_h : Hints := ⟨[], []⟩
set_option maxRecDepth 100000 in
def f101_V (x : Int) (u : PH) (Q : Value → PH → Prop) : Prop :=
 (((decide ((x : Int) ≥ 65536)) = true →
 (0 : Int) ≤ 16 ∧
 ((decide ((((Int.fdiv x (2 ^ (min (Int.toNat 16) (IntKind.bits .u32))))) : Int) ≥ 256)) = true →
 (0 : Int) ≤ 8 ∧
 SemSpec Try.prog (Instr.index 9 (.string ({ data := #[0, 1, 2, 2, 3, 3, 3, 3, 4, 4, 4, 4, 4, 4, 4, 4, 5, 5, 5, 5, 5, 5, 5, 5, 5, 5, 5, 5, 5, 5, 5, 5, 6, 6, 6, 6, 6, 6, 6, 6, 6, 6, 6, 6, 6, 6, 6, 6, 6, 6, 6, 6, 6, 6, 6, 6, 6, 6, 6, 6, 6, 6, 6, 6, 7, 7, 7, 7, 7, 7, 7, 7, 7, 7, 7, 7, 7, 7, 7, 7, 7, 7, 7, 7, 7, 7, 7, 7, 7, 7, 7, 7, 7, 7, 7, 7, 7, 7, 7, 7, 7, 7, 7, 7, 7, 7, 7, 7, 7, 7, 7, 7, 7, 7, 7, 7, 7, 7, 7, 7, 7, 7, 7, 7, 7, 7, 7, 7, 8, 8, 8, 8, 8, 8, 8, 8, 8, 8, 8, 8, 8, 8, 8, 8, 8, 8, 8, 8, 8, 8, 8, 8, 8, 8, 8, 8, 8, 8, 8, 8, 8, 8, 8, 8, 8, 8, 8, 8, 8, 8, 8, 8, 8, 8, 8, 8, 8, 8, 8, 8, 8, 8, 8, 8, 8, 8, 8, 8, 8, 8, 8, 8, 8, 8, 8, 8, 8, 8, 8, 8, 8, 8, 8, 8, 8, 8, 8, 8, 8, 8, 8, 8, 8, 8, 8, 8, 8, 8, 8, 8, 8, 8, 8, 8, 8, 8, 8, 8, 8, 8, 8, 8, 8, 8, 8, 8, 8, 8, 8, 8, 8, 8, 8, 8, 8, 8, 8, 8, 8, 8, 8, 8, 8, 8, 8, 8] })) (.int .u8 (IntKind.wrap .u8 ((Int.fdiv ((Int.fdiv x (2 ^ (min (Int.toNat 16) (IntKind.bits .u32))))) (2 ^ (min (Int.toNat 8) (IntKind.bits .u32)))))))) u (fun v1 u2 =>
 ∃ n3 : Int, v1 = .int .u8 n3 ∧
 Q (.int .i64 (IntKind.wrap .i64 ((IntKind.wrap .i64 (16 + 8)) + (IntKind.wrap .i64 n3)))) u2)) ∧
 ((decide ((((Int.fdiv x (2 ^ (min (Int.toNat 16) (IntKind.bits .u32))))) : Int) ≥ 256)) = false →
 SemSpec Try.prog (Instr.index 9 (.string ({ data := #[0, 1, 2, 2, 3, 3, 3, 3, 4, 4, 4, 4, 4, 4, 4, 4, 5, 5, 5, 5, 5, 5, 5, 5, 5, 5, 5, 5, 5, 5, 5, 5, 6, 6, 6, 6, 6, 6, 6, 6, 6, 6, 6, 6, 6, 6, 6, 6, 6, 6, 6, 6, 6, 6, 6, 6, 6, 6, 6, 6, 6, 6, 6, 6, 7, 7, 7, 7, 7, 7, 7, 7, 7, 7, 7, 7, 7, 7, 7, 7, 7, 7, 7, 7, 7, 7, 7, 7, 7, 7, 7, 7, 7, 7, 7, 7, 7, 7, 7, 7, 7, 7, 7, 7, 7, 7, 7, 7, 7, 7, 7, 7, 7, 7, 7, 7, 7, 7, 7, 7, 7, 7, 7, 7, 7, 7, 7, 7, 8, 8, 8, 8, 8, 8, 8, 8, 8, 8, 8, 8, 8, 8, 8, 8, 8, 8, 8, 8, 8, 8, 8, 8, 8, 8, 8, 8, 8, 8, 8, 8, 8, 8, 8, 8, 8, 8, 8, 8, 8, 8, 8, 8, 8, 8, 8, 8, 8, 8, 8, 8, 8, 8, 8, 8, 8, 8, 8, 8, 8, 8, 8, 8, 8, 8, 8, 8, 8, 8, 8, 8, 8, 8, 8, 8, 8, 8, 8, 8, 8, 8, 8, 8, 8, 8, 8, 8, 8, 8, 8, 8, 8, 8, 8, 8, 8, 8, 8, 8, 8, 8, 8, 8, 8, 8, 8, 8, 8, 8, 8, 8, 8, 8, 8, 8, 8, 8, 8, 8, 8, 8, 8, 8, 8, 8, 8, 8] })) (.int .u8 (IntKind.wrap .u8 ((Int.fdiv x (2 ^ (min (Int.toNat 16) (IntKind.bits .u32)))))))) u (fun v4 u5 =>
 ∃ n6 : Int, v4 = .int .u8 n6 ∧
 Q (.int .i64 (IntKind.wrap .i64 (16 + (IntKind.wrap .i64 n6)))) u5))) ∧
 ((decide ((x : Int) ≥ 65536)) = false →
 ((decide ((x : Int) ≥ 256)) = true →
 (0 : Int) ≤ 8 ∧
 SemSpec Try.prog (Instr.index 9 (.string ({ data := #[0, 1, 2, 2, 3, 3, 3, 3, 4, 4, 4, 4, 4, 4, 4, 4, 5, 5, 5, 5, 5, 5, 5, 5, 5, 5, 5, 5, 5, 5, 5, 5, 6, 6, 6, 6, 6, 6, 6, 6, 6, 6, 6, 6, 6, 6, 6, 6, 6, 6, 6, 6, 6, 6, 6, 6, 6, 6, 6, 6, 6, 6, 6, 6, 7, 7, 7, 7, 7, 7, 7, 7, 7, 7, 7, 7, 7, 7, 7, 7, 7, 7, 7, 7, 7, 7, 7, 7, 7, 7, 7, 7, 7, 7, 7, 7, 7, 7, 7, 7, 7, 7, 7, 7, 7, 7, 7, 7, 7, 7, 7, 7, 7, 7, 7, 7, 7, 7, 7, 7, 7, 7, 7, 7, 7, 7, 7, 7, 8, 8, 8, 8, 8, 8, 8, 8, 8, 8, 8, 8, 8, 8, 8, 8, 8, 8, 8, 8, 8, 8, 8, 8, 8, 8, 8, 8, 8, 8, 8, 8, 8, 8, 8, 8, 8, 8, 8, 8, 8, 8, 8, 8, 8, 8, 8, 8, 8, 8, 8, 8, 8, 8, 8, 8, 8, 8, 8, 8, 8, 8, 8, 8, 8, 8, 8, 8, 8, 8, 8, 8, 8, 8, 8, 8, 8, 8, 8, 8, 8, 8, 8, 8, 8, 8, 8, 8, 8, 8, 8, 8, 8, 8, 8, 8, 8, 8, 8, 8, 8, 8, 8, 8, 8, 8, 8, 8, 8, 8, 8, 8, 8, 8, 8, 8, 8, 8, 8, 8, 8, 8, 8, 8, 8, 8, 8, 8] })) (.int .u8 (IntKind.wrap .u8 ((Int.fdiv x (2 ^ (min (Int.toNat 8) (IntKind.bits .u32)))))))) u (fun v7 u8 =>
 ∃ n9 : Int, v7 = .int .u8 n9 ∧
 Q (.int .i64 (IntKind.wrap .i64 ((IntKind.wrap .i64 (0 + 8)) + (IntKind.wrap .i64 n9)))) u8)) ∧
 ((decide ((x : Int) ≥ 256)) = false →
 SemSpec Try.prog (Instr.index 9 (.string ({ data := #[0, 1, 2, 2, 3, 3, 3, 3, 4, 4, 4, 4, 4, 4, 4, 4, 5, 5, 5, 5, 5, 5, 5, 5, 5, 5, 5, 5, 5, 5, 5, 5, 6, 6, 6, 6, 6, 6, 6, 6, 6, 6, 6, 6, 6, 6, 6, 6, 6, 6, 6, 6, 6, 6, 6, 6, 6, 6, 6, 6, 6, 6, 6, 6, 7, 7, 7, 7, 7, 7, 7, 7, 7, 7, 7, 7, 7, 7, 7, 7, 7, 7, 7, 7, 7, 7, 7, 7, 7, 7, 7, 7, 7, 7, 7, 7, 7, 7, 7, 7, 7, 7, 7, 7, 7, 7, 7, 7, 7, 7, 7, 7, 7, 7, 7, 7, 7, 7, 7, 7, 7, 7, 7, 7, 7, 7, 7, 7, 8, 8, 8, 8, 8, 8, 8, 8, 8, 8, 8, 8, 8, 8, 8, 8, 8, 8, 8, 8, 8, 8, 8, 8, 8, 8, 8, 8, 8, 8, 8, 8, 8, 8, 8, 8, 8, 8, 8, 8, 8, 8, 8, 8, 8, 8, 8, 8, 8, 8, 8, 8, 8, 8, 8, 8, 8, 8, 8, 8, 8, 8, 8, 8, 8, 8, 8, 8, 8, 8, 8, 8, 8, 8, 8, 8, 8, 8, 8, 8, 8, 8, 8, 8, 8, 8, 8, 8, 8, 8, 8, 8, 8, 8, 8, 8, 8, 8, 8, 8, 8, 8, 8, 8, 8, 8, 8, 8, 8, 8, 8, 8, 8, 8, 8, 8, 8, 8, 8, 8, 8, 8, 8, 8, 8, 8, 8, 8] })) (.int .u8 (IntKind.wrap .u8 x))) u (fun v10 u11 =>
 ∃ n12 : Int, v10 = .int .u8 n12 ∧
 Q (.int .i64 (IntKind.wrap .i64 (0 + (IntKind.wrap .i64 n12)))) u11))))
set_option maxRecDepth 100000 in
theorem f101_vc (x : Int) (u : PH) (Q : Value → PH → Prop) : fnVC Try.prog f101_h Try.f101 [.c (.v (.int .u32 x))] u Q = f101_V x u Q := by kernel_rfl
theorem f101_of {x : Int} {u : PH} {Q : Value → PH → Prop} (h : f101_V x u Q) : Spec Try.prog 101 #[.int .u32 x] u Q :=
  spec_of_vc (H := f101_h) (ps := [.c (.v (.int .u32 x))]) Try.func101 rfl (by rw [f101_vc]; exact h)
end Go.Proofs.Ytlmnfhhmgfnbpaa.E

/- CONTRACTS: rows of whole numbers in place; the next order of places. -/
namespace Go.Proofs.Ytlmnfhhmgfnbpaa.E
open Go
section
variable {β : Type} {enc : β → List Value} {k : Nat} {e : TypeId}
theorem list_of_rowG (hk : ∀ x, (enc x).length = k) {f : Nat → β} {n : Nat} {cs : Array Value} (h : ∀ i, i < n → ∀ j y, (enc (f i))[j]? = some y → cs[i * k + j]? = some y) :
    cs.toList.take (n * k) = ((List.range n).map f).flatMap enc := by
  induction n with
  | zero => simp
  | succ n ih =>
    rw [List.range_succ, List.map_append, List.flatMap_append, ← ih fun i hi => h i (by omega), Nat.add_mul, Nat.one_mul, List.take_add]
    congr 1
    apply List.ext_getElem?
    intro j
    simp only [List.map_cons, List.map_nil, List.flatMap_cons, List.flatMap_nil, List.append_nil]
    by_cases hj : j < k
    · rw [List.getElem?_take_of_lt hj, List.getElem?_drop, Array.getElem?_toList]
      have hl : j < (enc (f n)).length := by rw [hk]; exact hj
      rw [List.getElem?_eq_getElem hl]
      exact h n (by omega) j _ (List.getElem?_eq_getElem hl)
    · rw [List.getElem?_eq_none (by simp; omega), List.getElem?_eq_none (by rw [hk]; omega)]
theorem RowF.ownG (hk : ∀ x, (enc x).length = k) {u0 u : PH} {b n c : Nat} {f : Nat → β} (R : RowF enc k e u b c n f) (h0 : u0 b = none) (hc : c ≤ maxLen) : Own enc k e u0 u (some ⟨b, 0, none⟩) n c ((List.range n).map f) := by
  obtain ⟨cs, h1, h2, h3, h4⟩ := R.ex
  exact ⟨by simp, h3, hc, .inr ⟨b, cs, rfl, h0, h1, h2, list_of_rowG hk h4⟩⟩
theorem Own.rowG (hk : ∀ x, (enc x).length = k) {u0 u : PH} {b n c : Nat} {l : List β} (h : Own enc k e u0 u (some ⟨b, 0, none⟩) n c l) {f : Nat → β} (hf : ∀ i x, l[i]? = some x → f i = x) : u0 b = none ∧ RowF enc k e u b c n f := by
  have hs := h.sl hk
  rcases h.row with ⟨h0, _⟩ | ⟨b', cs, h1, h2, h3, h4, h5⟩
  · cases h0
  · cases h1
    refine ⟨h2, cs, h3, h4, h.le, fun i hi j y hj => ?_⟩
    have hlt : i < l.length := by have := h.len; omega
    obtain ⟨b2, o2, g1, g2⟩ := hs.get i _ (List.getElem?_eq_getElem hlt)
    cases g1
    rw [hf i _ (List.getElem?_eq_getElem hlt)] at hj
    have := g2 j y hj
    rw [PH.cell_eq h3, Nat.zero_add] at this
    exact this
end
section
variable {β : Type} {val : β → Int} {e : TypeId} {u : PH} {b c n : Nat} {f : Nat → β}
abbrev encV (val : β → Int) : β → List Value := fun x => [.int .i64 (val x)]
theorem encV_len (val : β → Int) (x : β) : (encV val x).length = 1 := rfl
theorem RowF.int (R : RowF (encV val) 1 e u b c n f) {i : Int} {p : Nat} (hi : i = p) (hp : p < n) {K : Nat → Nat → Int → Prop} (hk : K b 0 (val (f p))) :
    ∃ b' o : Nat, (some ⟨b, 0, none⟩ : Option Addr) = some ⟨b', o, none⟩ ∧ (0 ≤ i ∧ i < (n : Int)) ∧ ∃ n1 : Int, PH.cell u b' (o + i.toNat * 1) = some (.int .i64 n1) ∧ K b' o n1 := by
  subst hi
  exact ⟨b, 0, rfl, ⟨by omega, by omega⟩, _, by have := R.cells hp 0 _ rfl; simpa using this, hk⟩
theorem RowF.putI (R : RowF (encV val) 1 e u b c n f) {i : Int} {p : Nat} (hi : i = p) (hp : p < n) {K : Nat → Nat → Prop} (hk : K b 0) :
    ∃ b' o : Nat, (some ⟨b, 0, none⟩ : Option Addr) = some ⟨b', o, none⟩ ∧ (0 ≤ i ∧ i < (n : Int)) ∧ PH.free u b' (o + i.toNat * 1) 1 ∧ K b' o := by
  subst hi
  exact ⟨b, 0, rfl, ⟨by omega, by omega⟩, R.free hp, hk⟩
theorem RowF.swapI (R : RowF (encV val) 1 e u b c n f) {i j : Nat} (hi : i < n) (hj : j < n) :
    RowF (encV val) 1 e (PH.write (PH.write u b (0 + i * 1) [.int .i64 (val (f j))]) b (0 + j * 1) [.int .i64 (val (f i))]) b c n (Srt.swp f i j) := by
  have := (R.write hi (encV_len val) (f j)).write hj (encV_len val) (f i)
  rwa [swp_upd] at this
end
/-! the next order -/
def downI (f : Nat → Int) : Nat → Option Nat
  | 0 => none
  | j + 1 => if f j > f (j + 1) then downI f j else some j
def downK (f : Nat → Int) (x : Int) : Nat → Nat
  | 0 => 0
  | k + 1 => if f k < x then downK f x k else k
def revF : Nat → (Nat → Int) → Nat → Nat → Nat → Int
  | 0, f, _, _ => f
  | s + 1, f, a, b => if a < b then revF s (Srt.swp f a b) (a + 1) (b - 1) else f
theorem revF_done {f : Nat → Int} {a b : Nat} (h : ¬ a < b) : ∀ s, revF s f a b = f
  | 0 => rfl
  | s + 1 => by simp [revF, h]
def nextF (n : Nat) (f : Nat → Int) : (Nat → Int) × Bool :=
  match downI f (n - 1) with
  | none => (f, false)
  | some i => (revF n (Srt.swp f i (downK f (f i) n)) (i + 1) (n - 1), true)
def funOf (l : List Int) : Nat → Int := fun i => (l[i]?).getD 0
def nextP (l : List Int) : List Int × Bool := ((List.range l.length).map (nextF l.length (funOf l)).1, (nextF l.length (funOf l)).2)
theorem funOf_eq (l : List Int) : ∀ i x, l[i]? = some x → funOf l i = x := fun i x h => by simp [funOf, h]
theorem map_funOf (l : List Int) : (List.range l.length).map (funOf l) = l := by
  apply List.ext_getElem?
  intro i
  rw [List.getElem?_map]
  by_cases hi : i < l.length
  · rw [List.getElem?_range hi]
    simp [funOf, List.getElem?_eq_getElem hi]
  · rw [List.getElem?_eq_none (by simpa using hi), List.getElem?_eq_none (by omega)]; rfl
theorem f46_spec {u : PH} {a : Option Addr} {n c : Nat} {L : List Int} (hL : Sl encI 1 u a n L) (hn : n ≤ 1000000) : Spec Try.prog 46 #[.slice a n c] u fun v u' => ∃ a' c', v = .tuple #[.slice a' n c', .bool (nextP L).2] ∧ Own encI 1 3 u u' a' n c' (nextP L).1 ∧ Ext u u' := by
  have hlen := hL.len
  refine f46_of ?_
  unfold f46_V
  intro B hB
  refine (app_ints (Own.fresh (u := u) hB 3 ([] : List Int) encI_len (by unfold maxLen; simp)) (hL.ext (Ext.add hB _)) (by simp; omega) (Ext.add hB _)).use ?_
  rintro v u3 ⟨a4, c6, rfl, hO, hE, _⟩
  simp only [List.length_nil, Nat.zero_add, List.nil_append] at hO ⊢
  refine ⟨_, _, _, rfl, ?_⟩
  -- nothing greater
  have fin0 : downI (funOf L) (n - 1) = none → (∃ a' c', Value.tuple #[.slice a4 n c6, .bool false] = .tuple #[.slice a' n c', .bool (nextP L).2] ∧ Own encI 1 3 u u3 a' n c' (nextP L).1 ∧ Ext u u3) := fun h => by
    have e : nextF L.length (funOf L) = (funOf L, false) := by unfold nextF; rw [hlen, h]
    refine ⟨a4, c6, by simp [nextP, e], ?_, hE⟩
    simp only [nextP, e, map_funOf]; exact hO
  rw [wrap_i64 (x := (n : Int) - 2) (by omega) (by omega), wrap_i64 (x := (n : Int) - 1) (by omega) (by omega)]
  refine ⟨fun i u' => u' = u3 ∧ ((n = 0 ∧ i = -2) ∨ ∃ j : Nat, i = (j : Int) - 1 ∧ 1 ≤ n ∧ j ≤ n - 1 ∧ downI (funOf L) j = downI (funOf L) (n - 1)), fun i _ => (i + 1).toNat, ⟨rfl, ?_⟩, ?_⟩
  · by_cases h0 : n = 0
    · exact .inl ⟨h0, by omega⟩
    · exact .inr ⟨n - 1, by omega, by omega, Nat.le_refl _, rfl⟩
  rintro i u4 ⟨rfl, hi⟩
  refine ⟨fun hge => ?_, fun hlt => ?_⟩
  rotate_left
  · have hlt := of_decide_eq_false hlt
    refine ⟨fun _ => fin0 ?_, fun h => by have := of_decide_eq_false h; omega⟩
    rcases hi with ⟨h0, _⟩ | ⟨j, h1, h2, h3, h4⟩
    · subst h0; rfl
    · have : j = 0 := by omega
      subst this; rw [← h4]; rfl
  have hge := of_decide_eq_true hge
  rcases hi with ⟨_, h⟩ | ⟨j, rfl, hn1, hj, hdn⟩
  · omega
  obtain ⟨j, rfl⟩ : ∃ m, j = m + 1 := ⟨j - 1, by omega⟩
  obtain ⟨rb, rfl, hrb, R⟩ : ∃ rb, a4 = some ⟨rb, 0, none⟩ ∧ u rb = none ∧ RowF (encV fun x => x) 1 3 u4 rb c6 n (funOf L) := by
    rcases hO.row with ⟨_, h⟩ | ⟨rb, cs, h1, h2, _⟩
    · have := hO.le; omega
    · subst h1
      exact ⟨rb, rfl, h2, (hO.rowG encI_len (funOf_eq L)).2⟩
  have hmax := hO.max
  have ei : (((j + 1 : Nat) : Int) - 1) = (j : Int) := by omega
  rw [ei]
  simp only [downI] at hdn
  refine R.int (p := j) rfl (by omega) ?_
  rw [wrap_i64 (x := (j : Int) + 1) (by omega) (by omega)]
  refine R.int (p := j + 1) (by omega) (by omega) ⟨fun hgt => ?_, fun hle => ⟨fun h => by have := of_decide_eq_true h; omega, fun _ => ?_⟩⟩
  · have hgt : funOf L j > funOf L (j + 1) := of_decide_eq_true hgt
    rw [if_pos hgt] at hdn
    rw [wrap_i64 (x := (j : Int) - 1) (by omega) (by omega)]
    exact ⟨⟨rfl, .inr ⟨j, rfl, hn1, by omega, hdn⟩⟩, by show Int.toNat _ < Int.toNat _; omega⟩
  have hle : ¬ funOf L j > funOf L (j + 1) := of_decide_eq_false hle
  rw [if_neg hle] at hdn
  refine ⟨fun q u' => u' = u4 ∧ ∃ m : Nat, q = (m : Int) - 1 ∧ j + 1 < m ∧ m ≤ n ∧ downK (funOf L) (funOf L j) m = downK (funOf L) (funOf L j) n, fun q _ => (q + 1).toNat, ⟨rfl, n, rfl, by omega, Nat.le_refl _, rfl⟩, ?_⟩
  rintro q u5 ⟨rfl, m, rfl, hm1, hm2, hdk⟩
  obtain ⟨m, rfl⟩ : ∃ t, m = t + 1 := ⟨m - 1, by omega⟩
  have em : (((m + 1 : Nat) : Int) - 1) = (m : Int) := by omega
  rw [em]
  simp only [downK] at hdk
  refine R.int (p := m) rfl (by omega) ?_
  refine R.int (p := j) rfl (by omega) ⟨fun hlt => ?_, fun hge2 => ?_⟩
  · have hlt : funOf L m < funOf L j := of_decide_eq_true hlt
    rw [if_pos hlt] at hdk
    rw [wrap_i64 (x := (m : Int) - 1) (by omega) (by omega)]
    have : m ≠ j + 1 := fun e => by subst e; omega
    exact ⟨⟨rfl, m, rfl, by omega, by omega, hdk⟩, by show Int.toNat _ < Int.toNat _; omega⟩
  have hge2 : ¬ funOf L m < funOf L j := of_decide_eq_false hge2
  rw [if_neg hge2] at hdk
  refine R.int (p := j) rfl (by omega) ?_
  refine R.int (p := m) rfl (by omega) ?_
  refine R.putI (p := j) rfl (by omega) ?_
  refine ⟨rb, 0, rfl, by omega, ?_⟩
  have enj : ((j : Int)).toNat = j := rfl
  have enm : ((m : Int)).toNat = m := rfl
  rw [enj, enm]
  refine ⟨(R.write (i := j) (by omega) (encV_len _) (funOf L m)).free (by omega), ?_⟩
  have R2 := R.swapI (i := j) (j := m) (by omega) (by omega)
  obtain ⟨u6, hu6⟩ : ∃ u6, u6 = PH.write (PH.write u5 rb (0 + j * 1) [.int .i64 (funOf L m)]) rb (0 + m * 1) [.int .i64 (funOf L j)] := ⟨_, rfl⟩
  rw [← hu6] at R2 ⊢
  have hs6 : SameBut u5 u6 rb := fun k hk => by rw [hu6, PH.write_ne hk, PH.write_ne hk]
  clear hu6
  refine ⟨fun x y u' => ∃ (a b s : Nat) (g : Nat → Int), x = a ∧ y = b ∧ j + 1 ≤ a ∧ b ≤ n - 1 ∧ b - a ≤ s ∧ SameBut u5 u' rb ∧ RowF (encV fun x => x) 1 3 u' rb c6 n g ∧ revF s g a b = revF n (Srt.swp (funOf L) j m) (j + 1) (n - 1), fun x y _ => (y - x).toNat,
    ⟨j + 1, n - 1, n, _, by omega, by omega, Nat.le_refl _, Nat.le_refl _, by omega, hs6, R2, rfl⟩, ?_⟩
  rintro x y u7 ⟨p, q, s, g, rfl, rfl, hp, hq, hs, hs7, R7, hrev⟩
  refine ⟨fun hlt => ?_, fun hge3 => ?_⟩
  · have hlt := of_decide_eq_true hlt
    obtain ⟨s, rfl⟩ : ∃ t, s = t + 1 := ⟨s - 1, by omega⟩
    simp only [revF] at hrev
    rw [if_pos (by omega)] at hrev
    rw [wrap_i64 (x := (p : Int) + 1) (by omega) (by omega), wrap_i64 (x := (q : Int) - 1) (by omega) (by omega)]
    refine R7.int (p := p) rfl (by omega) ?_
    refine R7.int (p := q) rfl (by omega) ?_
    refine R7.putI (p := p) rfl (by omega) ?_
    refine ⟨rb, 0, rfl, by omega, ?_⟩
    have enp : ((p : Int)).toNat = p := rfl
    have enq : ((q : Int)).toNat = q := rfl
    rw [enp, enq]
    exact ⟨(R7.write (i := p) (by omega) (encV_len _) (g q)).free (by omega), ⟨p + 1, q - 1, s, _, by omega, by omega, by omega, by omega, by omega, hs7.write.write, R7.swapI (by omega) (by omega), hrev⟩, by show Int.toNat _ < Int.toNat _; omega⟩
  · have hge3 := of_decide_eq_false hge3
    rw [revF_done (by omega)] at hrev
    have e : nextF L.length (funOf L) = (g, true) := by
      unfold nextF; rw [hlen, ← hdn]; simp only []; rw [← hdk, hrev]
    refine ⟨some ⟨rb, 0, none⟩, c6, by simp [nextP, e], ?_, fun k o hk => ?_⟩
    · have := R7.ownG (encV_len _) hrb hmax
      simp only [nextP, e]; rw [hlen]; exact this
    · rw [hs7 k (fun e => by subst e; rw [hrb] at hk; cases hk)]; exact hE _ _ hk
end Go.Proofs.Ytlmnfhhmgfnbpaa.E

/- PLAIN LAWS: all orders, the least one first, and the lines among them. -/
namespace Go.Proofs.Ytlmnfhhmgfnbpaa.E
open Go
open Classical in
noncomputable def isLineB (L : List Call) (q : List Int) : Bool := decide (IsLine L q)
theorem isLineB_iff {L : List Call} {q : List Int} : isLineB L q = true ↔ IsLine L q := by simp [isLineB]
def dfs (n : Nat) : Nat → List Int → List (List Int)
  | 0, P => [P]
  | f + 1, P => (List.range n).flatMap fun (i : Nat) => if P.contains (i : Int) then [] else dfs n f (P ++ [(i : Int)])
theorem dfs_pre {n : Nat} : ∀ (f : Nat) (P q : List Int), q ∈ dfs n f P → ∃ R, q = P ++ R ∧ R.length = f := by
  intro f
  induction f with
  | zero => intro P q h; simp [dfs] at h; exact ⟨[], by simp [h], rfl⟩
  | succ f ih =>
    intro P q h
    simp only [dfs, List.mem_flatMap, List.mem_range] at h
    obtain ⟨i, _, h⟩ := h
    split at h
    · cases h
    · obtain ⟨R, rfl, hR⟩ := ih _ _ h
      exact ⟨(i : Int) :: R, by simp, by simp [hR]⟩
theorem line_may {L : List Call} {O P R : List Int} {i : Int} (h : IsLine L O) (hO : O = P ++ i :: R) : ∃ x, L[i.toNat]? = some x ∧ 0 ≤ i ∧ mayB L P i.toNat = true ∧ (Em.run (pick L P)).may x = true := by
  obtain ⟨hl, hidx, hsw, hok⟩ := h
  have hall : ∀ i ∈ O, ∃ x, L[i.toNat]? = some x := fun i hi => by
    obtain ⟨k, hk⟩ := List.getElem?_of_mem hi
    have := hidx k i hk
    exact ⟨_, List.getElem?_eq_getElem (by omega)⟩
  have hi : O[P.length]? = some i := by rw [hO]; simp
  obtain ⟨h1, h2, h3⟩ := hidx _ _ hi
  have hP : O.take P.length = P := by rw [hO]; simp
  rw [hP] at h3
  have hx : L[i.toNat]? = some (L[i.toNat]'(by omega)) := List.getElem?_eq_getElem (by omega)
  have hii : ((i.toNat : Nat) : Int) = i := by omega
  have hpi := pick_get hall hi
  rw [hx] at hpi
  refine ⟨_, hx, h1, ?_, ?_⟩
  · simp only [mayB, Bool.and_eq_true, Bool.not_eq_true', List.all_eq_true, List.mem_range, Bool.or_eq_true, List.contains_eq_mem, decide_eq_true_eq, decide_eq_false_iff_not]
    refine ⟨by rw [hii]; exact h3, fun k hk => ?_⟩
    by_cases hki : k = i.toNat
    · exact .inl (.inl (by simpa using hki))
    · by_cases hkP : (k : Int) ∈ P
      · exact .inl (.inr hkP)
      · right
        have hkO := idx_all hidx hl hk
        obtain ⟨b, hb⟩ := List.getElem?_of_mem hkO
        have hbP : P.length < b := by
          rcases Nat.lt_trichotomy b P.length with h | h | h
          · exact (hkP (by rw [← hP]; exact List.mem_of_getElem? (i := b) (by rw [List.getElem?_take_of_lt h]; exact hb))).elim
          · rw [h, hi] at hb; cases hb; exact (hki (by simp)).elim
          · exact h
        have hpb := pick_get hall hb
        have hxk : L[k]? = some (L[k]'hk) := List.getElem?_eq_getElem hk
        rw [Int.toNat_natCast, hxk] at hpb
        rw [hxk, hx]
        simpa using swA_at hsw hbP hpi hpb
  · have := (okAll_iff Em _).1 hok P.length _ hpi
    have hpl : (pick L P).length = P.length := pick_len fun i hi => hall i (by rw [hO]; simp [hi])
    rw [hO, pick_append, List.take_append_of_le_length (by omega), List.take_of_length_le (by omega)] at this
    exact this
theorem goL_filter {L : List Call} : ∀ (f : Nat) (P : List Int), P.length + f = L.length → GoodP L P → goL L f P (Em.run (pick L P)) = (dfs L.length f P).filter (isLineB L) := by
  intro f
  induction f with
  | zero =>
    intro P hf hg
    have : isLineB L P = true := isLineB_iff.2 ⟨by omega, hg.idx, hg.sw, hg.ok⟩
    simp [goL, dfs, this]
  | succ f ih =>
    intro P hf hg
    simp only [goL, dfs, List.filter_flatMap]
    congr 1
    funext i
    -- no line goes on so
    have none1 : ¬ (mayB L P i = true ∧ ∃ x, L[i]? = some x ∧ (Em.run (pick L P)).may x = true) → (dfs L.length f (P ++ [(i : Int)])).filter (isLineB L) = [] := fun h => by
      rw [List.filter_eq_nil_iff]
      intro q hq hl
      obtain ⟨R, rfl, _⟩ := dfs_pre f _ _ hq
      obtain ⟨x, h1, h2, h3, h4⟩ := line_may (isLineB_iff.1 hl) (P := P) (i := (i : Int)) (R := R) (by simp)
      rw [Int.toNat_natCast] at h1 h3
      exact h ⟨h3, x, h1, h4⟩
    by_cases hc : P.contains (i : Int) = true
    · rw [if_pos hc]
      have : mayB L P i = false := by simp only [mayB, hc]; rfl
      rw [this]; rfl
    · rw [if_neg hc]
      by_cases hm : mayB L P i = true
      · rw [if_pos hm]
        cases hx : L[i]? with
        | none => simp only []; rw [none1 fun h => by obtain ⟨_, x, h, _⟩ := h; rw [hx] at h; cases h]
        | some x =>
          simp only []
          by_cases hk : (Em.run (pick L P)).may x = true
          · rw [if_pos hk]
            have hp := pick_snoc (P := P) (i := (i : Int)) (L := L) (x := x) (by simpa using hx)
            have : (Em.run (pick L P)).next x = Em.run (pick L (P ++ [(i : Int)])) := by rw [hp, LM.run_snoc]
            rw [this]
            exact ih _ (by rw [List.length_append]; simp; omega) (hg.snoc hx hm hk)
          · rw [if_neg hk, none1 fun h => by obtain ⟨_, y, h, h'⟩ := h; rw [hx] at h; cases h; exact hk h']
      · rw [if_neg hm, none1 fun h => hm h.1]
def allP (n : Nat) : List (List Int) := dfs n n []
theorem lines_eq (L : List Call) : goL L L.length [] M0 = (allP L.length).filter (isLineB L) := goL_filter L.length [] (by simp) (good_nil L)
def numL (q : List Int) : Nat := q.foldl (fun a d => 10 * a + d.toNat) 0
def chainB : List (List Int) → Bool
  | [] => true
  | [x] => !(nextP x).2
  | x :: y :: r => (((nextP x).1 == y && (nextP x).2) && decide (numL x < numL y)) && chainB (y :: r)
theorem chain_at : ∀ {l : List (List Int)}, chainB l = true → ∀ {j : Nat} {x : List Int}, l[j]? = some x → (∀ y, l[j + 1]? = some y → nextP x = (y, true) ∧ numL x < numL y) ∧ (l[j + 1]? = none → (nextP x).2 = false)
  | [], _, j, x, h => by simp at h
  | [z], hc, j, x, h => by
    cases j with
    | zero => simp at h; subst h; exact ⟨fun y hy => by simp at hy, fun _ => by simpa [chainB] using hc⟩
    | succ j => simp at h
  | z :: w :: r, hc, j, x, h => by
    simp only [chainB, Bool.and_eq_true, beq_iff_eq, decide_eq_true_eq] at hc
    cases j with
    | zero =>
      simp at h; subst h
      refine ⟨fun y hy => ?_, fun hn => by simp at hn⟩
      simp at hy; subst hy
      exact ⟨Prod.ext hc.1.1.1 hc.1.1.2, hc.1.2⟩
    | succ j => exact chain_at hc.2 (j := j) (by simpa using h)
theorem all_ok : ∀ n, n ≤ 5 → (allP n)[0]? = some ((List.range n).map Int.ofNat) ∧ chainB (allP n) = true ∧ (allP n).length ≤ 120 ∧ (allP n).all (fun q => q.length == n && decide (numL q < 1000000)) = true
  | 0, _ => by decide +kernel
  | 1, _ => by decide +kernel
  | 2, _ => by decide +kernel
  | 3, _ => by decide +kernel
  | 4, _ => by decide +kernel
  | 5, _ => by decide +kernel
  | n + 6, h => by omega
end Go.Proofs.Ytlmnfhhmgfnbpaa.E

/- CONTRACTS: the document's lines. -/
namespace Go.Proofs.Ytlmnfhhmgfnbpaa.E
open Go
abbrev Rw : Type := Option Addr × Nat × Nat
abbrev encR : Rw → List Value := fun x => [.slice x.1 x.2.1 x.2.2]
theorem encR_len (x : Rw) : (encR x).length = 1 := rfl
theorem ht40 : Try.prog.underlying 40 = some (.slice 35) := by kernel_rfl
noncomputable def i35 : TypeInfo := (Try.prog.info? 35).getD default
theorem hi35 : Try.prog.info? 35 = some i35 := by kernel_rfl
theorem app_rows {u0 u : PH} {a a2 : Option Addr} {n c m c2 : Nat} {l l2 : List Rw} (h : Own encR 1 35 u0 u a n c l) (hx : Sl encR 1 u a2 m l2) (hb : n + m ≤ 1000000000) (he : Ext u0 u) :
    SemSpec Try.prog (Builtin.append_ #[40, 40] 40 #[.slice a n c, .slice a2 m c2]) u fun v u' => ∃ a' c', v = .slice a' (n + m) c' ∧ Own encR 1 35 u0 u' a' (n + m) c' (l ++ l2) ∧ Ext u0 u' ∧ Stays u u' a :=
  sem_append ht40 hi35 (z := .slice none 0 0) (by kernel_rfl) (size := 1) (by kernel_rfl) (bytes := 24) (by kernel_rfl) rfl (by omega) encR_len (by intro x v hv; simp at hv; subst hv; rfl) h hx (by unfold maxLen; omega) (by omega) he
theorem Sl.oneR (u : PH) (b : Nat) (x : Rw) (e : TypeId) : Sl encR 1 (PH.add u b (.cells #[.slice x.1 x.2.1 x.2.2] e)) (some ⟨b, 0, none⟩) 1 [x] :=
  ⟨rfl, fun i y hy => by
    cases i with
    | zero =>
      simp at hy; subst hy
      exact ⟨b, 0, rfl, PH.cells_of (PH.add_eq _ _ _) rfl⟩
    | succ i => simp at hy⟩
/-- rows that read as lists of whole numbers, in blocks of which u0 knows nothing -/
def Rows2 (u0 u : PH) (S : List Rw) (Ls : List (List Int)) : Prop := S.length = Ls.length ∧ ∀ (i : Nat) (x : Rw) (q : List Int), S[i]? = some x → Ls[i]? = some q → Sl encI 1 u x.1 x.2.1 q ∧ ∀ y, x.1 = some y → u0 y.block = none
theorem Rows2.ext {u0 u u' : PH} {S : List Rw} {Ls : List (List Int)} (h : Rows2 u0 u S Ls) (he : Ext u u') : Rows2 u0 u' S Ls := ⟨h.1, fun i x q h1 h2 => ⟨(h.2 i x q h1 h2).1.ext he, (h.2 i x q h1 h2).2⟩⟩
theorem Rows2.snoc {u0 u : PH} {S : List Rw} {Ls : List (List Int)} (h : Rows2 u0 u S Ls) {x : Rw} {q : List Int} (hx : Sl encI 1 u x.1 x.2.1 q) (hf : ∀ y, x.1 = some y → u0 y.block = none) : Rows2 u0 u (S ++ [x]) (Ls ++ [q]) := by
  refine ⟨by simp [h.1], fun i y r h1 h2 => ?_⟩
  by_cases hi : i < S.length
  · rw [List.getElem?_append_left hi] at h1
    rw [List.getElem?_append_left (by rw [← h.1]; exact hi)] at h2
    exact h.2 i y r h1 h2
  · have : i = S.length := by
      have := (List.getElem?_eq_some_iff.1 h1).1
      simp at this; omega
    subst this
    simp at h1
    rw [h.1] at h2
    simp at h2
    subst h1; subst h2; exact ⟨hx, hf⟩
theorem Own.new {α : Type} {enc : α → List Value} {k : Nat} {e : TypeId} {u0 u : PH} {a : Option Addr} {n c : Nat} {l : List α} (h : Own enc k e u0 u a n c l) : ∀ y, a = some y → u0 y.block = none := by
  intro y hy
  rcases h.row with ⟨h, _⟩ | ⟨b, cs, h1, h2, _⟩
  · rw [h] at hy; cases hy
  · rw [h1] at hy; cases hy; exact h2
theorem none_of_ext {u v : PH} {b : Nat} (he : Ext u v) (h : v b = none) : u b = none := by
  cases hu : u b with
  | none => rfl
  | some o => rw [he _ _ hu] at h; cases h
def readI (u : PH) (a : Option Addr) (l : Nat) : List Int := (List.range l).map fun i => match a with
  | some x => (match PH.cell u x.block (x.off + i) with
    | some (.int _ v) => v
    | _ => 0)
  | none => 0
theorem readI_eq {u : PH} {a : Option Addr} {l : Nat} {q : List Int} (h : Sl encI 1 u a l q) : readI u a l = q := by
  apply List.ext_getElem?
  intro i
  rw [readI, List.getElem?_map]
  by_cases hi : i < l
  · have hl := h.len
    have hq : q[i]? = some (q[i]'(by omega)) := List.getElem?_eq_getElem (by omega)
    obtain ⟨b, o, h1, h2⟩ := h.get i _ hq
    have h3 := h2 0 _ rfl
    rw [Nat.mul_one, Nat.add_zero] at h3
    rw [List.getElem?_range hi, hq, h1]
    simp only [Option.map_some, h3]
  · rw [List.getElem?_eq_none (by simpa using hi), List.getElem?_eq_none (by rw [h.len]; omega)]; rfl
theorem Own.over {α : Type} {enc : α → List Value} {k : Nat} {e : TypeId} {v0 v1 u u' : PH} {a : Option Addr} {n c : Nat} {l : List α} (h : Own enc k e v0 u a n c l)
    (out : ∀ k o, v0 k = none → u k = some o → u' k = some o ∧ v1 k = none) : Own enc k e v1 u' a n c l := by
  refine ⟨h.len, h.le, h.max, ?_⟩
  rcases h.row with h | ⟨b, cs, h1, h2, h3, h4, h5⟩
  · exact .inl h
  · have := out b _ h2 h3
    exact .inr ⟨b, cs, h1, this.2, this.1, h4, h5⟩
theorem f26_spec {u : PH} {a : Option Addr} {n c : Nat} {L : List Call} {most : Int} (hL : Sl Call.cells 13 u a n L) (hn : n ≤ 5) (hm0 : 0 ≤ most) (hm1 : most ≤ 1000) : Spec Try.prog 26 #[.slice a n c, .int .i64 most] u fun v u' => ∃ a' m c' S, v = .slice a' m c' ∧ Own encR 1 35 u u' a' m c' S ∧ Rows2 u u' S ((goL L n [] M0).take most.toNat) ∧ Ext u u' := by
  have hlen := hL.len
  obtain ⟨hA0, hA1, hA2, hA3⟩ := all_ok n hn
  have hlines : goL L n [] M0 = (allP n).filter (isLineB L) := by rw [← hlen]; exact lines_eq L
  rw [hlines]
  refine f26_of ?_
  unfold f26_V
  refine ⟨fun a' l' c' i u' => ∃ k : Nat, i = k ∧ k ≤ n ∧ l' = k ∧ Own encI 1 3 u u' a' l' c' ((List.range k).map Int.ofNat) ∧ Ext u u', fun _ _ _ i _ => n - i.toNat, ⟨0, rfl, by omega, rfl, Own.nil _ _, Ext.refl _⟩, ?_⟩
  rintro a3 l4 c5 i u1 ⟨k, rfl, hk, rfl, hO, hE⟩
  refine ⟨fun hlt B hB => ?_, fun hge => ?_⟩
  · have hlt := of_decide_eq_true hlt
    rw [wrap_i64 (x := (l4 : Int) + 1) (by omega) (by omega)]
    refine (app_ints (hO.ext (Ext.add hB _)) (Sl.oneI u1 B l4 3) (by omega) (hE.trans (Ext.add hB _))).use ?_
    rintro v u2 ⟨a', c', rfl, hO2, hE2, _⟩
    refine ⟨_, _, _, rfl, ⟨l4 + 1, by omega, by omega, rfl, ?_, hE2⟩, by show n - Int.toNat _ < n - Int.toNat _; omega⟩
    rw [List.range_succ, List.map_append]; exact hO2
  have hge := of_decide_eq_false hge
  have : l4 = n := by omega
  subst this
  have hnum : ∀ q, q ∈ allP l4 → q.length = l4 ∧ numL q < 1000000 := fun q hq => by
    have := List.all_eq_true.1 hA3 q hq
    simpa using this
  refine ⟨fun a1 l1 c1 a2 l2 c2 more u' => ∃ (j : Nat) (S : List Rw) (v0 : PH), j ≤ (allP l4).length ∧ Ext u v0 ∧ Ext v0 u' ∧ Own encR 1 35 v0 u' a1 l1 c1 S ∧ Rows2 u v0 S (((allP l4).take j).filter (isLineB L)) ∧ (l1 : Int) ≤ most ∧
      (more = true → ∃ q, (allP l4)[j]? = some q ∧ Sl encI 1 v0 a2 l2 q ∧ ∀ y, a2 = some y → u y.block = none) ∧ (more = false → j = (allP l4).length),
    fun _ _ _ a2 l2 _ more u' => if more then 1000000 - numL (readI u' a2 l2) else 0, ?_, ?_⟩
  · exact ⟨0, [], u1, by omega, hE, Ext.refl _, Own.nil _ _, ⟨by simp, fun i x q h => by simp at h⟩, by omega, fun _ => ⟨_, hA0, hO.sl encI_len, hO.new⟩, fun h => by cases h⟩
  rintro a1 l1 c1 a2 l2 c2 more u2 ⟨j, S, v0, hj, hE2, hE2', hS, hR, hl1, hmt, hmf⟩
  have hSl := hS.len
  have hSR := hR.1
  have hfl := List.length_filter_le (isLineB L) ((allP l4).take j)
  rw [List.length_take] at hfl
  refine ⟨fun hgo => ?_, fun hstop => ?_⟩
  · simp only [Bool.and_eq_true, decide_eq_true_eq] at hgo
    obtain ⟨hmore, hlt⟩ := hgo
    subst hmore
    obtain ⟨q, hq, hqs, hqf⟩ := hmt rfl
    have hqm := hnum q (List.mem_of_getElem? hq)
    have hql := hqs.len
    have htake : (allP l4).take (j + 1) = (allP l4).take j ++ [q] := by rw [List.take_add_one, hq]; rfl
    obtain ⟨hch1, hch2⟩ := chain_at hA1 hq
    have hjl : j < (allP l4).length := (List.getElem?_eq_some_iff.1 hq).1
    refine ((f24_spec (hL.ext hE2) hqs (by omega)).over hE2').use ?_
    rintro v u3 ⟨v1, ⟨b, rfl, hb, hE3⟩, hE3', out3⟩
    have hb' : b = isLineB L q := by rw [Bool.eq_iff_iff, hb, isLineB_iff]
    have hS3 : Own encR 1 35 v1 u3 a1 l1 c1 S := hS.over out3
    -- behind the next order
    have nxt : ∀ {a1 : Option Addr} {l1 c1 : Nat} {S : List Rw} {u4 : PH}, Ext v1 u4 → Own encR 1 35 v1 u4 a1 l1 c1 S → Rows2 u v1 S (((allP l4).take (j + 1)).filter (isLineB L)) → (l1 : Int) ≤ most →
        Spec Try.prog 46 #[.slice a2 l2 c2] u4 fun v33 u34 => ∃ (a35 : Option Addr) (l36 c37 : Nat), ∃ b38 : Bool, v33 = .tuple #[.slice a35 l36 c37, .bool b38] ∧
          (∃ (j : Nat) (S : List Rw) (v0 : PH), j ≤ (allP l4).length ∧ Ext u v0 ∧ Ext v0 u34 ∧ Own encR 1 35 v0 u34 a1 l1 c1 S ∧ Rows2 u v0 S (((allP l4).take j).filter (isLineB L)) ∧ (l1 : Int) ≤ most ∧
            (b38 = true → ∃ q, (allP l4)[j]? = some q ∧ Sl encI 1 v0 a35 l36 q ∧ ∀ y, a35 = some y → u y.block = none) ∧ (b38 = false → j = (allP l4).length)) ∧
          (if b38 then 1000000 - numL (readI u34 a35 l36) else 0) < (if true = true then 1000000 - numL (readI u2 a2 l2) else 0) := by
      intro a1 l1 c1 S u4 e4 o4 r4 hm4
      refine ((f46_spec (hqs.ext hE3) (by omega)).over e4).use ?_
      rintro v u5 ⟨v2, ⟨a5, c5, rfl, hO5, hE5⟩, hE5', out5⟩
      refine ⟨_, _, _, _, rfl, ⟨j + 1, S, v2, by omega, hE2.trans (hE3.trans hE5), hE5', o4.over out5, r4.ext hE5, hm4, fun h => ?_, fun h => ?_⟩, ?_⟩
      · cases hy : (allP l4)[j + 1]? with
        | none => rw [hch2 hy] at h; cases h
        | some y =>
          have := (hch1 y hy).1
          rw [this] at hO5
          exact ⟨y, rfl, hO5.sl encI_len, fun z hz => none_of_ext (hE2.trans hE3) (hO5.new z hz)⟩
      · cases hy : (allP l4)[j + 1]? with
        | none => rw [List.getElem?_eq_none_iff] at hy; omega
        | some y => rw [(hch1 y hy).1] at h; cases h
      · rw [readI_eq (hqs.ext hE2'), if_pos rfl]
        cases hy : (allP l4)[j + 1]? with
        | none => rw [hch2 hy]; simp; omega
        | some y =>
          obtain ⟨g1, g2⟩ := hch1 y hy
          rw [g1] at hO5 ⊢
          have := hnum y (List.mem_of_getElem? hy)
          rw [readI_eq ((hO5.sl encI_len).ext hE5')]
          simp only [if_true]; omega
    refine ⟨_, rfl, fun hy B hB => ?_, fun hn => ?_⟩
    · rw [hb'] at hy
      refine (app_rows (hS3.ext (Ext.add hB _)) (Sl.oneR u3 B (a2, l2, c2) 35) (by omega) (hE3'.trans (Ext.add hB _))).use ?_
      rintro v u4 ⟨a4, c4, rfl, hO4, hE4, hst4⟩
      refine ⟨_, _, _, rfl, ?_⟩
      refine (nxt (S := S ++ [(a2, l2, c2)]) hE4 hO4 ?_ (by omega)).use fun v u h => h
      rw [htake, List.filter_append]
      have e1 : [q].filter (isLineB L) = [q] := by simp [hy]
      rw [e1]
      exact (hR.ext hE3).snoc (hqs.ext hE3) hqf
    · rw [hb'] at hn
      refine (nxt hE3' hS3 ?_ hl1).use fun v u h => h
      rw [htake, List.filter_append]
      have e1 : [q].filter (isLineB L) = [] := by simp [hn]
      rw [e1, List.append_nil]
      exact hR.ext hE3
  · refine ⟨_, _, _, S, rfl, hS.base hE2, ?_, hE2.trans hE2'⟩
    have key : ((allP l4).filter (isLineB L)).take most.toNat = ((allP l4).take j).filter (isLineB L) := by
      have e1 : (allP l4).filter (isLineB L) = ((allP l4).take j).filter (isLineB L) ++ ((allP l4).drop j).filter (isLineB L) := by
        rw [← List.filter_append, List.take_append_drop]
      rw [e1]
      cases more with
      | true =>
        simp only [Bool.true_and, decide_eq_false_iff_not] at hstop
        rw [List.take_left' (by omega)]
      | false =>
        rw [hmf rfl, List.drop_length]
        simp only [List.filter_nil, List.append_nil]
        rw [List.take_of_length_le]
        rw [← hmf rfl]; omega
    rw [key]; exact hR.ext hE2'
end Go.Proofs.Ytlmnfhhmgfnbpaa.E

/- CONTRACTS: sorting of a short row of whole numbers; the orders that are whole. -/
namespace Go.Proofs.Ytlmnfhhmgfnbpaa.E
open Go
theorem f98_spec (x y : Int) (u : PH) : Spec Try.prog 98 #[.int .i64 x, .int .i64 y] u fun v u' => v = .bool (decide (x < y)) ∧ u' = u := by
  refine f98_of ?_
  unfold f98_V
  refine (f68_spec x u).use ?_
  rintro v u' ⟨rfl, rfl⟩
  exact ⟨_, rfl, fun h => (by cases h), fun _ => ⟨rfl, rfl⟩⟩
abbrev IT := Int × Nat
abbrev keyI : IT → Int := fun x => x.1
abbrev tagI : IT → Nat := fun x => x.2
theorem f92_spec {u0 u : PH} {b0 c n : Nat} {f : Nat → IT} {a : Nat} {x1 x2 : Int} (hx1 : x1 = (a : Int)) (hx2 : x2 = (n : Int)) (R : RowF (encV keyI) 1 3 u b0 c n f) (hs : SameBut u0 u b0) (hn : n ≤ 1000000) (hab : a ≤ n)
    (ht : ∀ p q, a ≤ p → p < q → q < n → tagI (f p) < tagI (f q)) :
    Spec Try.prog 92 #[.slice (some ⟨b0, 0, none⟩) n c, .int .i64 x1, .int .i64 x2] u fun v u' => v = .tuple #[] ∧ SameBut u0 u' b0 ∧ ∃ f', RowF (encV keyI) 1 3 u' b0 c n f' ∧ Srt.Done keyI tagI f f' a n := by
  subst hx1 hx2
  refine f92_of ?_
  unfold f92_V
  rw [wrap_i64 (x := (a : Int) + 1) (by omega) (by omega)]
  refine ⟨fun i u' => ∃ (k : Nat) (g : Nat → IT), i = k ∧ a + 1 ≤ k ∧ (k ≤ n → Srt.Done keyI tagI f g a k) ∧ (n < k → k = a + 1 ∧ g = f) ∧ SameBut u0 u' b0 ∧ RowF (encV keyI) 1 3 u' b0 c n g, fun i _ => n - i.toNat,
    ⟨a + 1, f, by omega, by omega, fun _ => ⟨fun i j h1 h2 h3 => by omega, Srt.Rearr.refl _ _ _⟩, fun _ => ⟨rfl, rfl⟩, hs, R⟩, ?_⟩
  rintro i u' ⟨k, g, rfl, hk, hd, hd', hs', R'⟩
  refine ⟨fun hlt => ?_, fun hge => ?_⟩
  · have hlt := of_decide_eq_true hlt
    have hD := hd (by omega)
    refine ⟨fun j u' => ∃ (q : Nat) (h : Nat → IT), j = q ∧ a ≤ q ∧ q ≤ k ∧ Srt.Ins keyI tagI f h a k q ∧ SameBut u0 u' b0 ∧ RowF (encV keyI) 1 3 u' b0 c n h, fun j _ => j.toNat,
      ⟨k, g, rfl, by omega, Nat.le_refl _, Srt.Ins.start hD.1 hD.2 fun p q h1 h2 h3 => ht p q h1 h2 (by omega), hs', R'⟩, ?_⟩
    rintro j u2 ⟨q, h, rfl, hq1, hq2, HI, hs2, R2⟩
    have out : ∀ {u3 : PH} {h : Nat → IT}, Srt.Sorted keyI tagI h a (k + 1) → Srt.Rearr a (k + 1) f h → SameBut u0 u3 b0 → RowF (encV keyI) 1 3 u3 b0 c n h →
        (∃ (k' : Nat) (g : Nat → IT), IntKind.wrap .i64 ((k : Int) + 1) = k' ∧ a + 1 ≤ k' ∧ (k' ≤ n → Srt.Done keyI tagI f g a k') ∧ (n < k' → k' = a + 1 ∧ g = f) ∧ SameBut u0 u3 b0 ∧ RowF (encV keyI) 1 3 u3 b0 c n g) ∧ n - (IntKind.wrap .i64 ((k : Int) + 1)).toNat < n - (k : Int).toNat := by
      intro u3 h h1 h2 h3 h4
      rw [wrap_i64 (by omega) (by omega)]
      exact ⟨⟨k + 1, h, by omega, by omega, fun _ => ⟨h1, h2⟩, fun hh => by omega, h3, h4⟩, by omega⟩
    refine ⟨fun hgt => ?_, fun hle => ?_⟩
    · have hgt := of_decide_eq_true hgt
      rw [wrap_i64 (x := (q : Int) - 1) (by omega) (by omega)]
      refine R2.int (p := q) rfl (by omega) ?_
      refine R2.int (p := q - 1) (by omega) (by omega) ?_
      refine (f98_spec _ _ _).use ?_
      rintro v u3 ⟨rfl, rfl⟩
      refine ⟨_, rfl, fun hneg => ?_, fun hpos => ?_⟩
      · have hneg : keyI (h q) < keyI (h (q - 1)) := of_decide_eq_true hneg
        refine R2.int (p := q - 1) (by omega) (by omega) ?_
        refine R2.int (p := q) rfl (by omega) ?_
        refine R2.putI (p := q) rfl (by omega) ?_
        refine ⟨b0, 0, rfl, by omega, ?_⟩
        have e1 : ((q : Int) - 1).toNat = q - 1 := by omega
        rw [e1, Int.toNat_natCast]
        exact ⟨(R2.write (i := q) (by omega) (encV_len _) (h (q - 1))).free (by omega), ⟨q - 1, _, by omega, by omega, by omega, HI.step (by omega) hq2 hneg, hs2.write.write, R2.swapI (by omega) (by omega)⟩, by show ((q : Int) - 1).toNat < (q : Int).toNat; omega⟩
      · have hpos : ¬ keyI (h q) < keyI (h (q - 1)) := of_decide_eq_false hpos
        exact out (HI.done hq1 hq2 (.inr hpos)) HI.ra hs2 R2
    · have hle := of_decide_eq_false hle
      exact out (HI.done hq1 hq2 (.inl (by omega))) HI.ra hs2 R2
  · have hge := of_decide_eq_false hge
    refine ⟨rfl, hs', g, R', ?_⟩
    by_cases hkb : k ≤ n
    · have : k = n := by omega
      subst this; exact hd hkb
    · obtain ⟨h1, rfl⟩ := hd' (by omega)
      exact ⟨fun i j h1 h2 h3 => by omega, Srt.Rearr.refl _ _ _⟩
/-- nothing to sort -/
theorem f92_nil {u : PH} {a : Option Addr} {c : Nat} : Spec Try.prog 92 #[.slice a 0 c, .int .i64 0, .int .i64 0] u fun v u' => v = .tuple #[] ∧ u' = u := by
  refine f92_of ?_
  unfold f92_V
  rw [wrap_i64 (x := (0 : Int) + 1) (by omega) (by omega)]
  refine ⟨fun i u' => i = 1 ∧ u' = u, fun _ _ => 0, ⟨by omega, rfl⟩, ?_⟩
  rintro i u' ⟨rfl, rfl⟩
  exact ⟨fun h => by have := of_decide_eq_true h; omega, fun _ => ⟨rfl, rfl⟩⟩
theorem f78_short {u : PH} {a : Option Addr} {n c : Nat} {x3 : Int} (hn : n ≤ 12) {Q : Value → PH → Prop} (h : Spec Try.prog 92 #[.slice a n c, .int .i64 0, .int .i64 n] u fun v u' => v = .tuple #[] ∧ Q (.tuple #[]) u') :
    Spec Try.prog 78 #[.slice a n c, .int .i64 0, .int .i64 n, .int .i64 x3] u Q := by
  refine f78_of ?_
  unfold f78_V
  refine ⟨fun i j _ _ _ u' => i = 0 ∧ j = n ∧ u' = u, fun _ _ _ _ _ _ => 0, ⟨rfl, rfl, rfl⟩, ?_⟩
  rintro i j k p q u' ⟨rfl, rfl, rfl⟩
  rw [wrap_i64 (x := (n : Int) - 0) (by omega) (by omega)]
  refine ⟨fun _ => h, fun h => ?_⟩
  have := of_decide_eq_false h
  omega
theorem hu9 : Try.prog.underlying 9 = some .string := by kernel_rfl
theorem sem_index {s : ByteArray} {k : IntKind} {i : Int} (h0 : 0 ≤ i) (h1 : i.toNat < s.size) (u : PH) : SemSpec Try.prog (Instr.index 9 (.string s) (.int k i)) u fun v u' => (∃ n : Int, v = .int .u8 n) ∧ u' = u := by
  have hb : s[i.toNat]? = some (s[i.toNat]'h1) := getElem?_pos s i.toNat h1
  refine (SemSpec.run (v := .int .u8 (s[i.toNat]'h1).toNat) (fun w => ?_) u).use ?_
  · unfold Instr.index
    simp [Sem.run_bind, asIntOf, underlying, hu9, h0, hb]
    done
  · rintro v u' ⟨rfl, rfl⟩
    exact ⟨⟨_, rfl⟩, rfl⟩
set_option maxRecDepth 100000 in
theorem f102_spec {x : Int} (h0 : 0 ≤ x) (h1 : x < 256) (u : PH) : Spec Try.prog 102 #[.int .u64 x] u fun v u' => (∃ n : Int, v = .int .i64 n) ∧ u' = u := by
  refine f102_of ?_
  unfold f102_V
  refine ⟨fun h => ?_, fun _ => ⟨fun h => ?_, fun _ => ⟨fun h => ?_, fun _ => ?_⟩⟩⟩
  · have := of_decide_eq_true h; omega
  · have := of_decide_eq_true h; omega
  · have := of_decide_eq_true h; omega
  · have hw : IntKind.wrap .u8 x = x := by
      simp only [IntKind.wrap, IntKind.bits, IntKind.signed]; simp; omega
    rw [hw]
    refine (sem_index h0 ?_ u).use ?_
    · exact Nat.lt_of_lt_of_eq (m := 256) (by omega) (by kernel_rfl)
    rintro v u' ⟨⟨n, rfl⟩, rfl⟩
    exact ⟨_, rfl, ⟨_, rfl⟩, rfl⟩
theorem wrap_u64 {x : Int} (h1 : 0 ≤ x) (h2 : x ≤ 18446744073709551615) : IntKind.wrap .u64 x = x := by
  simp only [IntKind.wrap, IntKind.bits, IntKind.signed]
  simp
  omega
theorem f65_short {u : PH} {a : Option Addr} {n c : Nat} (hn : n ≤ 12) {Q : Value → PH → Prop} (h : Spec Try.prog 92 #[.slice a n c, .int .i64 0, .int .i64 n] u fun v u' => v = .tuple #[] ∧ Q (.tuple #[]) u') :
    Spec Try.prog 65 #[.slice a n c] u Q := by
  refine f65_of ?_
  unfold f65_V
  rw [wrap_u64 (by omega) (by omega)]
  have h79 : Spec Try.prog 79 #[.int .u64 (n : Int)] u fun v u' => (∃ n : Int, v = .int .i64 n) ∧ u' = u := by
    refine f79_of ?_
    unfold f79_V
    refine (f102_spec (by omega) (by omega) u).use ?_
    rintro v u' ⟨⟨n, rfl⟩, rfl⟩
    exact ⟨_, rfl, ⟨_, rfl⟩, rfl⟩
  refine h79.use ?_
  rintro v u' ⟨⟨x, rfl⟩, rfl⟩
  refine ⟨_, rfl, f78_short hn (h.use ?_)⟩
  rintro v u' ⟨rfl, h⟩
  exact ⟨rfl, rfl, h⟩
/-! which orders are whole -/
theorem idx_perm {n : Nat} {O : List Int} (hl : O.length = n) (h : IdxOk n O) : O.Perm ((List.range n).map Int.ofNat) := by
  refine (List.perm_ext_iff_of_nodup (idx_nodup h) ?_).2 fun i => ⟨fun hi => ?_, fun hi => ?_⟩
  · rw [List.Nodup, List.pairwise_map]
    exact List.nodup_range.imp fun {x y} h e => h (Int.ofNat.inj e)
  · obtain ⟨k, hk⟩ := List.getElem?_of_mem hi
    have := h k i hk
    exact List.mem_map.2 ⟨i.toNat, List.mem_range.2 (by omega), by show ((i.toNat : Nat) : Int) = i; omega⟩
  · obtain ⟨k, hk, rfl⟩ := List.mem_map.1 hi
    exact idx_all h hl (List.mem_range.1 hk)
theorem perm_idx {n : Nat} {O : List Int} (h : O.Perm ((List.range n).map Int.ofNat)) : IdxOk n O := by
  intro k i hk
  have hi := h.mem_iff.1 (List.mem_of_getElem? hk)
  obtain ⟨j, hj, rfl⟩ := List.mem_map.1 hi
  have hj := List.mem_range.1 hj
  refine ⟨by show 0 ≤ ((j : Nat) : Int); omega, by show ((j : Nat) : Int) < n; omega, fun hm => ?_⟩
  have hnd : O.Nodup := h.nodup_iff.2 (by
    rw [List.Nodup, List.pairwise_map]
    exact List.nodup_range.imp fun {x y} h e => h (Int.ofNat.inj e))
  obtain ⟨q, hq⟩ := List.getElem?_of_mem hm
  rw [List.getElem?_take] at hq
  split at hq
  · rename_i hqk
    have h1 := (List.getElem?_eq_some_iff.1 hk)
    have h2 := (List.getElem?_eq_some_iff.1 hq)
    have := List.pairwise_iff_getElem.1 hnd q k h2.1 h1.1 hqk
    rw [h2.2, h1.2] at this
    exact this rfl
  · cases hq
theorem RowF.conv {β γ : Type} {v1 : β → Int} {v2 : γ → Int} {e : TypeId} {u : PH} {b c n : Nat} {f : Nat → β} {g : Nat → γ} (R : RowF (encV v1) 1 e u b c n f) (h : ∀ i, i < n → v2 (g i) = v1 (f i)) : RowF (encV v2) 1 e u b c n g := by
  obtain ⟨cs, h1, h2, h3, h4⟩ := R.ex
  refine ⟨cs, h1, h2, h3, fun i hi j y hj => h4 i hi j y ?_⟩
  simp only [encV] at hj ⊢
  rw [← h i hi]; exact hj
theorem f50_spec {u : PH} {a : Option Addr} {m c : Nat} {O : List Int} (hO : Sl encI 1 u a m O) (hm : m ≤ 12) (h0 : a = none → m = 0) {n : Nat} : Spec Try.prog 50 #[.slice a m c, .int .i64 n] u fun v u' => ∃ b, v = .bool b ∧ (b = true ↔ O.length = n ∧ IdxOk n O) ∧ Ext u u' := by
  have hlen := hO.len
  refine f50_of ?_
  unfold f50_V
  refine ⟨fun h => ⟨_, rfl, ⟨fun h => (by cases h), fun h' => ?_⟩, Ext.refl _⟩, fun h => ?_⟩
  · have h : ¬ ((m : Int) = n) := by simpa using h
    have := h'.1
    omega
  have h : (m : Int) = n := by simpa using h
  obtain rfl : m = n := by omega
  refine (f60_spec hO (by omega) h0).use ?_
  rintro v u2 ⟨a3, c5, rfl, hW, hE⟩
  refine ⟨_, _, _, rfl, ?_⟩
  by_cases hm0 : m = 0
  · subst hm0
    refine f65_short (by omega) (f92_nil.use ?_)
    rintro v u7 ⟨rfl, rfl⟩
    refine ⟨rfl, rfl, fun _ i u' => i = 0 ∧ u' = u7, fun _ _ _ => 0, ⟨rfl, rfl⟩, ?_⟩
    rintro z i u' ⟨rfl, rfl⟩
    refine ⟨fun h => by have := of_decide_eq_true h; omega, fun _ => ⟨_, rfl, ⟨fun _ => ⟨hlen, fun k i hk => ?_⟩, fun _ => rfl⟩, hE⟩⟩
    have := List.length_eq_zero_iff.1 hlen
    subst this
    simp at hk
  obtain ⟨rb, rfl, hrb, R0⟩ : ∃ rb, a3 = some ⟨rb, 0, none⟩ ∧ u rb = none ∧ RowF (encV fun x => x) 1 3 u2 rb c5 m (funOf O) := by
    rcases hW.row with ⟨_, h⟩ | ⟨rb, cs, h1, h2, _⟩
    · have := hW.le; omega
    · subst h1
      exact ⟨rb, rfl, h2, (hW.rowG encI_len (funOf_eq O)).2⟩
  have R : RowF (encV keyI) 1 3 u2 rb c5 m fun i => (funOf O i, i) := R0.conv fun i _ => rfl
  refine f65_short hm ((f92_spec (a := 0) rfl rfl R (SameBut.refl u2 rb) (by omega) (by omega) fun p q _ h _ => h).use ?_)
  rintro v u7 ⟨rfl, hs7, f', R7, hD⟩
  have hE7 : Ext u u7 := fun k o hk => by
    rw [hs7 k (fun e => by subst e; rw [hrb] at hk; cases hk)]; exact hE _ _ hk
  have hperm : ((List.range m).map fun i => (f' i).1).Perm O := by
    have := (Srt.perm_of_rearr hD.2).map Prod.fst
    rw [List.map_map, List.map_map] at this
    refine this.trans (List.Perm.of_eq ?_)
    rw [← hlen]; exact map_funOf O
  have hle : ((List.range m).map fun i => (f' i).1).Pairwise (· ≤ ·) := by
    rw [List.pairwise_map]
    exact List.pairwise_lt_range.imp_of_mem fun h1 h2 h => (hD.1 _ _ (by omega) h (by simpa using h2)).1
  have hle2 : ((List.range m).map Int.ofNat).Pairwise (· ≤ ·) := by
    rw [List.pairwise_map]
    exact List.pairwise_lt_range.imp fun {x y} h => by show (x : Int) ≤ y; omega
  refine ⟨rfl, rfl, fun _ i u' => ∃ k : Nat, i = k ∧ k ≤ m ∧ u' = u7 ∧ ∀ j, j < k → (f' j).1 = j, fun _ i _ => m - i.toNat, ⟨0, rfl, by omega, rfl, fun j h => by omega⟩, ?_⟩
  rintro z i u' ⟨k, rfl, hk, rfl, hall⟩
  refine ⟨fun hlt => ?_, fun hge => ⟨_, rfl, ⟨fun _ => ⟨hlen, perm_idx (hperm.symm.trans (List.Perm.of_eq ?_))⟩, fun _ => rfl⟩, hE7⟩⟩
  · have hlt := of_decide_eq_true hlt
    refine R7.int (p := k) rfl (by omega) ⟨fun hne => ⟨_, rfl, ⟨fun h => (by cases h), fun h' => ?_⟩, hE7⟩, fun he => ?_⟩
    · have hne : ¬ (k : Int) = (f' k).1 := by simpa using hne
      have hp2 := hperm.trans (idx_perm hlen h'.2)
      have := hp2.eq_of_pairwise (le := (· ≤ ·)) (fun a b _ _ h1 h2 => by omega) hle hle2
      have h3 := congrArg (fun l => l[k]?) this
      simp only [List.getElem?_map] at h3
      rw [List.getElem?_range (by omega)] at h3
      simp at h3
      exact (hne h3.symm).elim
    · have he : (k : Int) = (f' k).1 := by simpa using he
      rw [wrap_i64 (x := (k : Int) + 1) (by omega) (by omega)]
      refine ⟨⟨k + 1, by omega, by omega, rfl, fun j hj => ?_⟩, by show m - Int.toNat _ < m - Int.toNat _; omega⟩
      by_cases e : j = k
      · subst e; exact he.symm
      · exact hall j (by omega)
  · have hge := of_decide_eq_false hge
    refine List.map_congr_left fun i hi => ?_
    have := List.mem_range.1 hi
    exact hall i (by omega)
end Go.Proofs.Ytlmnfhhmgfnbpaa.E

/- CONTRACTS: the map's replay and its lines. -/
namespace Go.Proofs.Ytlmnfhhmgfnbpaa.E
open Go
theorem f28_all {u : PH} {a b : Option Addr} {n m c c' : Nat} {L M : List Int} (hL : Sl encI 1 u a n L) (hM : Sl encI 1 u b m M) (hn : m ≤ 1000000) : Spec Try.prog 28 #[.slice a n c, .slice b m c'] u fun v u' => v = .bool (decide (L = M)) ∧ u' = u := by
  have hlen := hL.len
  have hmen := hM.len
  refine f28_of ?_
  unfold f28_V
  refine ⟨fun h => ⟨?_, rfl⟩, fun h => ?_⟩
  · have h : ¬ ((n : Int) = m) := by simpa using h
    have : ¬ L = M := fun e => h (by rw [← hlen, ← hmen, e])
    rw [decide_eq_false this]
  have h : (n : Int) = m := by simpa using h
  obtain rfl : n = m := by omega
  refine ⟨fun _ i u' => ∃ k : Nat, i = k ∧ k ≤ n ∧ u' = u ∧ L.take k = M.take k, fun _ i _ => n - i.toNat, ⟨0, rfl, by omega, rfl, by simp⟩, ?_⟩
  rintro z i u1 ⟨k, rfl, hk, rfl, heq⟩
  refine ⟨fun hlt => ?_, fun hge => ⟨?_, rfl⟩⟩
  · have hlt := of_decide_eq_true hlt
    obtain ⟨x, hx⟩ := hL.idx (i := (k : Int)) (by omega) hlt
    obtain ⟨y, hy⟩ := hM.idx (i := (k : Int)) (by omega) hlt
    have hx' : L[k]? = some x := by simpa using hx
    have hy' : M[k]? = some y := by simpa using hy
    rw [wrap_i64 (x := (k : Int) + 1) (by omega) (by omega)]
    refine hL.int (by omega) hx fun _ _ _ => hM.int (by omega) hy fun _ _ _ => ⟨fun h => ⟨?_, rfl⟩, fun h => ⟨⟨k + 1, by omega, by omega, rfl, ?_⟩, by show n - Int.toNat _ < n - Int.toNat _; omega⟩⟩
    · have h : ¬ x = y := by simpa using h
      have : ¬ L = M := fun e => h (by rw [e, hy'] at hx'; cases hx'; rfl)
      rw [decide_eq_false this]
    · have h : x = y := by simpa using h
      rw [List.take_add_one, List.take_add_one, hx', hy', heq, h]
  · have hge := of_decide_eq_false hge
    have : k = n := by omega
    subst this
    rw [List.take_of_length_le (by omega), List.take_of_length_le (by omega)] at heq
    rw [decide_eq_true heq]
theorem len_runM : ∀ (l : List Call) (M : LM), (M.run l).L.length ≤ M.L.length + l.length
  | [], M => by simp [LM.run]
  | x :: r, M => by
    have h1 := len_runM r (M.next x)
    have h2 := len_next M x
    have e : M.run (x :: r) = (M.next x).run r := rfl
    rw [e]
    simp only [List.length_cons]; omega
theorem len_run (l : List Call) : (Em.run l).L.length ≤ l.length := by simpa [Em] using len_runM l Em
theorem f51_spec {u : PH} {a : Option Addr} {n c : Nat} {L : List Call} (hL : Sl Call.cells 13 u a n L) (hn : n ≤ 100000) : Spec Try.prog 51 #[.slice a n c] u fun v u' => ∃ r : Int, v = .int .i64 r ∧ (r = n ↔ okAll Em L = true) ∧ Ext u u' := by
  have hlen := hL.len
  refine f51_of ?_
  unfold f51_V
  refine ((f49_spec fun _ => none).over (u := u) (fun _ _ h => by cases h)).use ?_
  rintro v u1 ⟨v0, ⟨m, rfl, hM, _⟩, hE, out⟩
  refine ⟨_, rfl, fun _ i u' => ∃ (k : Nat) (v0 : PH), i = k ∧ k ≤ n ∧ MapAt v0 m (Em.run (L.take k)) ∧ Ext v0 u' ∧ (∀ b o, u b = some o → u' b = some o ∧ v0 b = none) ∧ ∀ j x, j < k → L[j]? = some x → (Em.run (L.take j)).may x = true, fun _ i _ => n - i.toNat,
    ⟨0, v0, rfl, by omega, by simpa [LM.run, Em] using hM, hE, fun b o h => out b o rfl h, fun j x h => by omega⟩, ?_⟩
  rintro z i u2 ⟨k, v1, rfl, hk, hM1, hE1, hout, hall⟩
  have hEu : Ext u u2 := fun b o h => (hout b o h).1
  refine ⟨fun hlt => ?_, fun hge => ?_⟩
  · have hlt := of_decide_eq_true hlt
    obtain ⟨x, hx⟩ := hL.idx (i := (k : Int)) (by omega) hlt
    have hx' : L[k]? = some x := by simpa using hx
    have htake : L.take (k + 1) = L.take k ++ [x] := by rw [List.take_add_one, hx']; rfl
    have hln := len_run (L.take k)
    rw [List.length_take] at hln
    rw [wrap_i64 (x := (k : Int) + 1) (by omega) (by omega)]
    refine (hL.ext hEu).call (by omega) hx fun b o _ => ?_
    refine ((f63_spec hM1 x (by omega)).over hE1).use ?_
    rintro v u3 ⟨v2, ⟨rfl, _, hyes, _⟩, hE3, out3⟩
    have hout3 : ∀ b o, u b = some o → u3 b = some o ∧ v2 b = none := fun b o h => out3 b o (hout b o h).2 (hout b o h).1
    refine ⟨_, rfl, fun h => ⟨_, rfl, ⟨fun h' => by omega, fun h' => ?_⟩, fun b o h => (hout3 b o h).1⟩, fun h => ?_⟩
    · have := (okAll_iff Em L).1 h' k x hx'
      rw [this] at h; cases h
    · have h : (Em.run (L.take k)).may x = true := by simpa using h
      refine ⟨⟨k + 1, v2, by omega, by omega, by rw [htake, LM.run_snoc]; exact hyes h, hE3, hout3, fun j y hj hy => ?_⟩, by show n - Int.toNat _ < n - Int.toNat _; omega⟩
      by_cases e : j = k
      · subst e
        rw [hx'] at hy; cases hy; exact h
      · exact hall j y (by omega) hy
  · have hge := of_decide_eq_false hge
    exact ⟨_, rfl, ⟨fun _ => (okAll_iff Em L).2 fun j x hx => hall j x (by have := (List.getElem?_eq_some_iff.1 hx).1; omega) hx, fun _ => rfl⟩, hEu⟩
theorem f30_spec {u : PH} {a ao : Option Addr} {n c m co : Nat} {L : List Call} {O : List Int} (hL : Sl Call.cells 13 u a n L) (hO : Sl encI 1 u ao m O) (hm : m ≤ 12) : Spec Try.prog 30 #[.slice a n c, .slice ao m co] u fun v u' => ∃ b, v = .bool b ∧ (b = true ↔ IsLine L O) ∧ Ext u u' := by
  have hlen := hL.len
  have holen := hO.len
  have h0 : ao = none → m = 0 := fun h => by
    cases O with
    | nil => simpa using holen.symm
    | cons x r => obtain ⟨b, o, h1, _⟩ := hO.get 0 x rfl; rw [h] at h1; cases h1
  refine f30_of ?_
  unfold f30_V
  refine (f50_spec hO hm h0).use ?_
  rintro v u2 ⟨b, rfl, hb, hE⟩
  refine ⟨_, rfl, fun h => ⟨_, rfl, ⟨fun h => (by cases h), fun h' => ?_⟩, hE⟩, fun h => ?_⟩
  · have h : ¬ b = true := by simpa using h
    rw [← hlen] at hb
    exact (h (hb.2 ⟨h'.1, h'.2.1⟩)).elim
  have h : b = true := by simpa using h
  obtain ⟨hmn, hidx⟩ := hb.1 h
  obtain rfl : m = n := by omega
  refine ⟨fun a' l' c' i u' => ∃ k : Nat, i = k ∧ k ≤ m ∧ Own Call.cells 13 28 u u' a' l' c' (pick L (O.take k)) ∧ Ext u u' ∧ l' = k, fun _ _ _ i _ => m - i.toNat, ⟨0, rfl, by omega, Own.nil _ _, hE, rfl⟩, ?_⟩
  rintro a' l' c' i u1 ⟨k, rfl, hk, hW, hE1, rfl⟩
  refine ⟨fun hlt => ?_, fun hge => ?_⟩
  · have hlt := of_decide_eq_true hlt
    obtain ⟨x, hx⟩ := (hO.ext hE1).idx (i := (l' : Int)) (by omega) hlt
    have hx' : O[l']? = some x := by simpa using hx
    have hxr := hidx l' x hx'
    obtain ⟨w, hw⟩ := (hL.ext hE1).idx (i := x) (by omega) (by omega)
    have htake : O.take (l' + 1) = O.take l' ++ [x] := by rw [List.take_add_one, hx']; rfl
    have hpick : pick L (O.take (l' + 1)) = pick L (O.take l') ++ [w] := by rw [htake, pick, List.filterMap_append]; simp [pick, hw]
    rw [wrap_i64 (x := (l' : Int) + 1) (by omega) (by omega)]
    refine (hO.ext hE1).int (by omega) hx fun b o _ => (hL.ext hE1).call (by omega) hw fun b o _ B hB => ?_
    refine (app_calls (hW.ext (Ext.add hB _)) (Sl.one u1 B w 28) (by omega) (hE1.trans (Ext.add hB _))).use ?_
    rintro v u3 ⟨a3, c3, rfl, hO3, hE3, _⟩
    exact ⟨_, _, _, rfl, ⟨l' + 1, by omega, by omega, by rw [hpick]; exact hO3, hE3, rfl⟩, by show m - Int.toNat _ < m - Int.toNat _; omega⟩
  · have hge := of_decide_eq_false hge
    have : l' = m := by omega
    subst this
    rw [List.take_of_length_le (by omega)] at hW
    refine (f20_spec (hW.sl Call.cells_len) (by omega) hW.le).use ?_
    rintro v u3 ⟨rfl, rfl⟩
    have hidx' : IdxOk L.length O := by rw [hlen]; exact hidx
    refine ⟨_, rfl, fun hsw => ?_, fun hsw => ⟨_, rfl, ⟨fun h => (by cases h), fun h' => ?_⟩, hE1⟩⟩
    · have hsw : ((swA (pick L O) : Nat) : Int) = 0 := by simpa using hsw
      refine (f51_spec (hW.sl Call.cells_len) (by omega)).use ?_
      rintro v u4 ⟨r, rfl, hr, hE4⟩
      refine ⟨r, rfl, _, rfl, ?_, hE1.trans hE4⟩
      rw [beq_iff_eq, hr]
      exact ⟨fun h => ⟨by omega, hidx', by omega, h⟩, fun h => h.2.2.2⟩
    · have hsw : ¬ ((swA (pick L O) : Nat) : Int) = 0 := by simpa using hsw
      have := h'.2.2.1
      omega
theorem f29_spec {u : PH} {a : Option Addr} {n c : Nat} {L : List Call} (hL : Sl Call.cells 13 u a n L) : Spec Try.prog 29 #[.slice a n c] u fun v u' => v = .bool (found L).isSome ∧ Ext u u' := by
  refine f29_of ?_
  unfold f29_V
  refine (f23_spec hL).use ?_
  rintro v u' ⟨hE, hf⟩
  cases hfd : found L with
  | none => rw [hfd] at hf; cases hf; exact ⟨_, _, _, _, rfl, rfl, hE⟩
  | some q => rw [hfd] at hf; obtain ⟨a, m, c, rfl, _⟩ := hf; exact ⟨_, _, _, _, rfl, rfl, hE⟩
end Go.Proofs.Ytlmnfhhmgfnbpaa.E

/- CONTRACTS: the law SearchLines. -/
namespace Go.Proofs.Ytlmnfhhmgfnbpaa.E
open Go
theorem Sl.part {α : Type} {enc : α → List Value} {k : Nat} {u u5 F : PH} {a : Option Addr} {n : Nat} {l : List α} (h : Sl enc k u5 a n l) (hf : ∀ y, a = some y → u y.block = none) (K : ∀ b o, u b = none → u5 b = some o → F b = some o) : Sl enc k F a n l := by
  refine ⟨h.len, fun i x hx => ?_⟩
  obtain ⟨b, o, h1, h2⟩ := h.get i x hx
  refine ⟨b, o, h1, fun j y hj => ?_⟩
  obtain ⟨c, t, fr, g1, g2⟩ := PH.cell_some (h2 j y hj)
  rw [PH.cell_eq (K _ _ (hf _ h1) g1)]; exact g2
theorem Ext.add2 {u v : PH} (h : Ext u v) (b : Nat) (o : Obj) : Ext (PH.add u b o) (PH.add v b o) := fun k x hk => by
  by_cases e : k = b
  · subst e; rw [PH.add_eq] at hk ⊢; exact hk
  · rw [PH.add_ne e] at hk ⊢; exact h _ _ hk
theorem Sl.ext2 {α : Type} {enc : α → List Value} {k : Nat} {u : PH} {a : Option Addr} {n b : Nat} {o o' : Obj} {l : List α} (h : Sl enc k u a n l) (_ : u b = some o') (hf : ∀ x, a = some x → x.block = b → False) : Sl enc k (PH.add u b o) a n l := by
  refine ⟨h.len, fun i x hx => ?_⟩
  obtain ⟨b', o', h1, h2⟩ := h.get i x hx
  refine ⟨b', o', h1, fun j y hj => ?_⟩
  rw [PH.cell_of_eq (PH.add_ne fun e => hf _ h1 e)]; exact h2 j y hj
theorem f5_spec {u : PH} {a ao : Option Addr} {n c m co : Nat} {L : List Call} {O : List Int} {x2 : Int} (hL : Sl Call.cells 13 u a n L) (hO : Sl encI 1 u ao m O) (hx2 : 0 ≤ x2) :
    Spec Try.prog 5 #[.slice a n c, .slice ao m co, .int .u64 x2] u fun v u' => v = .bool true ∧ Ext u u' := by
  have hlen := hL.len
  refine f5_of ?_
  unfold f5_V
  refine ⟨fun _ => (f22_spec u).use ?_, fun h => ⟨by decide, ?_⟩⟩
  · rintro v u' ⟨rfl, h⟩
    exact ⟨_, rfl, rfl, h⟩
  have hn5 : n ≤ 5 ∧ m ≤ 6 := by
    simp only [Bool.or_eq_false_iff, decide_eq_false_iff_not] at h
    omega
  obtain ⟨most, hm1, hmost⟩ : ∃ most : Nat, most < 20 ∧ IntKind.wrap .i64 (Int.tmod x2 20) = (most : Int) := by
    rw [Int.tmod_eq_emod_of_nonneg hx2]
    refine ⟨(x2 % 20).toNat, by omega, ?_⟩
    rw [wrap_i64 (by omega) (by omega)]; omega
  rw [hmost]
  refine (f26_spec hL hn5.1 (by omega) (by omega)).use ?_
  rintro v u5 ⟨a6, l7, c8, S, rfl, hS, hR, hE5⟩
  rw [Int.toNat_natCast] at hR
  obtain ⟨W, hW⟩ : ∃ W, W = (goL L n [] M0).take most := ⟨_, rfl⟩
  rw [← hW] at hR
  have hSl := hS.len
  have hSW := hR.1
  have hW20 : W.length < 20 := by rw [hW, List.length_take]; omega
  have hWl : ∀ q, q ∈ W → q.length = n := fun q hq => by
    rw [hW] at hq
    have h1 := List.mem_of_mem_take hq
    rw [← hlen, lines_eq, List.mem_filter, hlen] at h1
    have := List.all_eq_true.1 (all_ok n hn5.1).2.2.2 q h1.1
    simp only [Bool.and_eq_true, beq_iff_eq] at this
    exact this.1
  refine ⟨_, _, _, rfl, ((f27_spec u).over hE5).use ?_⟩
  rintro v u10 ⟨v0, ⟨C1, C2, hc1, hc2, rfl, e2, hq1, hq2⟩, e10, out⟩
  have e510 : Ext u5 u10 := fun k o hk => by
    cases hu : u k with
    | none => exact (out k o hu hk).1
    | some o' =>
      have := hE5 _ _ hu
      rw [hk] at this; cases this
      exact e10 _ _ (e2 _ _ hu)
  refine ⟨_, rfl, rfl, (SemSpec.run (v := .bool false) (fun w => by kernel_rfl) u10).use ?_⟩
  rintro v u14 ⟨rfl, rfl⟩
  refine ⟨_, rfl, fun h => (by cases h), fun _ B16 h16 B17 h17 B18 h18 => ⟨trivial, fun L19 O20 O21 O22 O23 hL19 hyd => ?_⟩⟩
  obtain ⟨n76, h17'⟩ := add_none h17
  obtain ⟨n87, h18a⟩ := add_none h18
  obtain ⟨n86, h18'⟩ := add_none h18a
  obtain ⟨n98, hLa⟩ := add_none hL19
  obtain ⟨n97, hLb⟩ := add_none hLa
  obtain ⟨n96, hL'⟩ := add_none hLb
  obtain ⟨G, hG⟩ : ∃ G : PH, G = fun k => if v0 k = none then u5 k else none := ⟨_, rfl⟩
  have Gof : ∀ k o, u k = none → u5 k = some o → G k = some o := fun k o h1 h2 => by
    rw [hG]; simp only [(out k o h1 h2).2, if_true]; exact h2
  have hGu : Ext G u14 := fun k o hk => by
    rw [hG] at hk
    simp only at hk
    split at hk
    · exact e510 _ _ hk
    · cases hk
  have Gap : ∀ k, v0 k = none ∨ G k = none := fun k => by
    cases h : v0 k with
    | none => exact .inl rfl
    | some o => exact .inr (by rw [hG]; simp [h])
  clear hG
  obtain ⟨FJ, hFJ⟩ : ∃ FJ : Nat → PH, FJ = fun (i : Nat) => PH.add (PH.add (PH.add (PH.add G B16 (.cells #[.int .i64 (i : Int)] 3)) B17 (.cells #[.slice a6 l7 c8] 40)) B18 (.cells #[.bool false] 4)) L19 O20 := ⟨_, rfl⟩
  have g19 : ∀ i, FJ i L19 = some O20 := fun i => by rw [hFJ]; exact PH.add_eq _ _ _
  have g18 : ∀ i, FJ i B18 = some (.cells #[.bool false] 4) := fun i => by rw [hFJ]; simp only [PH.add_ne n98.symm, PH.add_eq]
  have g17 : ∀ i, FJ i B17 = some (.cells #[.slice a6 l7 c8] 40) := fun i => by rw [hFJ]; simp only [PH.add_ne n97.symm, PH.add_ne n87.symm, PH.add_eq]
  have g16 : ∀ i, FJ i B16 = some (.cells #[.int .i64 (i : Int)] 3) := fun i => by rw [hFJ]; simp only [PH.add_ne n96.symm, PH.add_ne n86.symm, PH.add_ne n76.symm, PH.add_eq]
  have gk : ∀ i k, k ≠ L19 → k ≠ B18 → k ≠ B17 → k ≠ B16 → FJ i k = G k := fun i k h1 h2 h3 h4 => by rw [hFJ]; simp only [PH.add_ne h1, PH.add_ne h2, PH.add_ne h3, PH.add_ne h4]
  have hE0 : Ext (FJ 0) (PH.add (PH.add (PH.add (PH.add u14 B16 (.cells #[.int .i64 0] 3)) B17 (.cells #[.slice a6 l7 c8] 40)) B18 (.cells #[.bool false] 4)) L19 O20) := by
    rw [hFJ]
    exact (((hGu.add2 _ _).add2 _ _).add2 _ _).add2 _ _
  clear hFJ
  have FJof : ∀ i k o, u k = none → u5 k = some o → FJ i k = some o ∧ k ≠ L19 := fun i k o h1 h2 => by
    have h3 := e510 _ _ h2
    have ne : ∀ B, u14 B = none → k ≠ B := fun B hB e => by subst e; rw [hB] at h3; cases h3
    rw [gk i k (ne _ hL') (ne _ h18') (ne _ h17') (ne _ h16)]
    exact ⟨Gof _ _ h1 h2, ne _ hL'⟩
  have nnone : ∀ i j k, FJ i k ≠ none → FJ j k ≠ none := fun i j k h => by
    by_cases e1 : k = L19
    · subst e1; rw [g19]; simp
    by_cases e2 : k = B18
    · subst e2; rw [g18]; simp
    by_cases e3 : k = B17
    · subst e3; rw [g17]; simp
    by_cases e4 : k = B16
    · subst e4; rw [g16]; simp
    rw [gk _ _ e1 e2 e3 e4] at h ⊢; exact h
  have hap : Apart v0 (FJ 0) := fun k => by
    by_cases e1 : k = L19
    · subst e1; exact .inl (none_of_ext e10 hL')
    by_cases e2 : k = B18
    · subst e2; exact .inl (none_of_ext e10 h18')
    by_cases e3 : k = B17
    · subst e3; exact .inl (none_of_ext e10 h17')
    by_cases e4 : k = B16
    · subst e4; exact .inl (none_of_ext e10 h16)
    rw [gk _ _ e1 e2 e3 e4]; exact Gap k
  have hY : YieldOk (.func (.yield L19) #[] #[]) (fun d F => d.length ≤ W.length ∧ d = W.take d.length ∧ F = FJ d.length) (fun d _ => ∃ d' q, d = d' ++ [q] ∧ W[d'.length]? ≠ some q) := ⟨by
    rintro d F u24 q aq nq cq ⟨hdl, hd, rfl⟩ hE hSq hfr
    have k19 := hE _ _ (g19 d.length)
    have k18 : (PH.add u24 L19 O21) B18 = some (.cells #[.bool false] 4) := by rw [PH.add_ne n98.symm]; exact hE _ _ (g18 _)
    have k17 : (PH.add u24 L19 O21) B17 = some (.cells #[.slice a6 l7 c8] 40) := by rw [PH.add_ne n97.symm]; exact hE _ _ (g17 _)
    have k16 : (PH.add u24 L19 O21) B16 = some (.cells #[.int .i64 (d.length : Int)] 3) := by rw [PH.add_ne n96.symm]; exact hE _ _ (g16 _)
    have c17 : PH.cell (PH.add u24 L19 O21) B17 0 = some (.slice a6 l7 c8) := by rw [PH.cell_eq k17]; rfl
    have c16 : PH.cell (PH.add u24 L19 O21) B16 0 = some (.int .i64 (d.length : Int)) := by rw [PH.cell_eq k16]; rfl
    have kF : ∀ b o, u b = none → u5 b = some o → (PH.add u24 L19 O21) b = some o := fun b o h1 h2 => by
      obtain ⟨h3, h4⟩ := FJof d.length b o h1 h2
      rw [PH.add_ne h4]; exact hE _ _ h3
    -- the yield says no
    have no : W[d.length]? ≠ some q → PH.free (PH.add u24 L19 O21) B18 0 1 ∧ (PH.write (PH.add u24 L19 O21) B18 0 [.bool false]) L19 = some O21 ∧
        ∃ t F', Value.bool false = .bool t ∧ (∀ k o, FJ d.length k = none → u24 k = some o → (PH.add (PH.write (PH.add u24 L19 O21) B18 0 [.bool false]) L19 O22) k = some o) ∧ Ext F' (PH.add (PH.write (PH.add u24 L19 O21) B18 0 [.bool false]) L19 O22) ∧
          (∀ k, F' k ≠ none → FJ d.length k ≠ none ∨ u24 k = none ∨ ∃ x, aq = some x ∧ k = x.block) ∧
          (t = true → (d ++ [q]).length ≤ W.length ∧ d ++ [q] = W.take (d ++ [q]).length ∧ F' = FJ (d ++ [q]).length) ∧ (t = false → ∃ d' q', d ++ [q] = d' ++ [q'] ∧ W[d'.length]? ≠ some q') := fun hne => by
      refine ⟨⟨_, _, 0, 0, k18, by simp, fun j _ => by omega⟩, by rw [PH.write_ne n98, PH.add_eq], false, fun _ => none, rfl, fun k o h1 h2 => ?_, fun _ _ h => (by cases h), fun k hk => (hk rfl).elim, fun h => (by cases h), fun _ => ⟨d, q, rfl, hne⟩⟩
      have m1 : k ≠ L19 := fun e => by subst e; rw [g19] at h1; cases h1
      have m2 : k ≠ B18 := fun e => by subst e; rw [g18] at h1; cases h1
      rw [PH.add_ne m1, PH.write_ne m2, PH.add_ne m1]; exact h2
    refine hyd _ u24 _ ⟨k19, aq, nq, cq, rfl, k19, _, c16, a6, l7, c8, c17, fun hge => no ?_, fun hlt => ⟨a6, l7, c8, c17, _, c16, ?_⟩⟩
    · have hge := of_decide_eq_true hge
      rw [List.getElem?_eq_none (by omega)]; simp
    have hlt := of_decide_eq_false hlt
    have hSF : Sl encR 1 (PH.add u24 L19 O21) a6 l7 S := (hS.sl encR_len).part hS.new kF
    have hx : S[((d.length : Int)).toNat]? = some (S[d.length]'(by omega)) := List.getElem?_eq_getElem (by omega)
    have hw : W[d.length]? = some (W[d.length]'(by omega)) := List.getElem?_eq_getElem (by omega)
    obtain ⟨r1, r2⟩ := hR.2 d.length _ _ hx hw
    refine hSF.at (by omega) hx fun b o hc => ⟨_, _, _, by simpa using hc 0 _ rfl, ?_⟩
    have hwl := hWl _ (List.mem_of_getElem? hw)
    have hwl2 := r1.len
    refine (f28_all (L := q) (M := W[d.length]'(by omega)) (hSq.ext2 k19 fun x hx e => ?_) (r1.part r2 kF) (by omega)).use ?_
    · have := hfr x hx
      rw [e, g19] at this; cases this
    rintro v u44 ⟨rfl, rfl⟩
    refine ⟨_, rfl, fun hne => no ?_, fun heq => ?_⟩
    · have hne : ¬ q = W[d.length]'(by omega) := by simpa using hne
      rw [hw]; exact fun e => hne (by cases e; rfl)
    · have heq : q = W[d.length]'(by omega) := by simpa using heq
      have hq : W[d.length]? = some q := by rw [hw, ← heq]
      refine ⟨_, c16, ⟨_, _, 0, 0, k16, by simp, fun j _ => by omega⟩, by rw [PH.write_ne n96, PH.add_eq], true, FJ (d.length + 1), rfl, fun k o h1 h2 => ?_, fun k o hk => ?_, fun k hk => .inl (nnone _ _ _ hk), fun _ => ⟨?_, ?_, ?_⟩, fun h => (by cases h)⟩
      · have m1 : k ≠ L19 := fun e => by subst e; rw [g19] at h1; cases h1
        have m2 : k ≠ B16 := fun e => by subst e; rw [g16] at h1; cases h1
        rw [PH.add_ne m1, PH.write_ne m2, PH.add_ne m1]; exact h2
      · by_cases m1 : k = L19
        · subst m1; rw [PH.add_eq]; rw [g19] at hk; exact hk
        · rw [PH.add_ne m1]
          by_cases m2 : k = B16
          · subst m2
            rw [PH.write_one k16, wrap_i64 (by omega) (by omega)]
            rw [g16] at hk; exact hk
          · rw [PH.write_ne m2, PH.add_ne m1]
            refine hE _ _ ?_
            by_cases m3 : k = B18
            · subst m3; rw [g18] at hk ⊢; exact hk
            by_cases m4 : k = B17
            · subst m4; rw [g17] at hk ⊢; exact hk
            rw [gk _ _ m1 m3 m4 m2] at hk ⊢; exact hk
      · simp; omega
      · rw [List.length_append, List.length_singleton, List.take_add_one, hq, ← hd]; rfl
      · rw [List.length_append, List.length_singleton]⟩
  refine ⟨47, _, rfl, e47, (f47_spec rfl hY hq1 hq2 (hL.ext e2) (e10.trans ((Ext.add h16 _).trans ((Ext.add h17 _).trans ((Ext.add h18 _).trans (Ext.add hL19 _))))) hap hE0 ⟨by simp, by simp, rfl⟩ (by omega)).use ?_⟩
  rintro _ u47 ⟨F', e0, eF, ap', hend⟩
  have hF' : F' = FJ W.length := by
    rcases hend with ⟨h7, hpos, t, left', ⟨rfl, ⟨h1, h2, h3⟩, h4, h5⟩ | ⟨rfl, ⟨pre, q, post, hls, hpl, d', q', hd1, hd2⟩ | ⟨hle, h1, h2, h3⟩⟩⟩ | ⟨hno, h1, h2, h3⟩
    · simp only [List.nil_append] at h3
      rw [h3]; congr 1
      rw [hW, List.length_take]; omega
    · exfalso
      simp only [List.nil_append] at hd1
      obtain ⟨rfl, e⟩ := List.append_inj' hd1 rfl
      cases e
      refine hd2 ?_
      rw [hW, List.getElem?_take_of_lt (by omega), hls]; simp
    · simp only [List.nil_append, Int.toNat_natCast] at h3
      rw [h3, hW]
    · have : most = 0 := by omega
      rw [h3]; congr 1
      rw [hW, this]; simp
  subst hF'
  left
  refine ⟨eF _ _ (g19 _), ?_⟩
  have hE1 : Ext u (PH.del u47 L19) := fun k o hk => by
    have h1 := e10 _ _ (e2 _ _ hk)
    rw [PH.del_ne (fun e => by subst e; rw [hL'] at h1; cases h1)]
    exact e0 _ _ (e2 _ _ hk)
  have hu18 : u B18 = none := none_of_ext (e2.trans e10) h18'
  have k18 : (PH.del u47 L19) B18 = some (.cells #[.bool false] 4) := by rw [PH.del_ne n98.symm]; exact eF _ _ (g18 _)
  have c17 : PH.cell (PH.del u47 L19) B17 0 = some (.slice a6 l7 c8) := by rw [PH.cell_of_eq (PH.del_ne n97.symm), PH.cell_eq (eF _ _ (g17 _))]; rfl
  have c16 : PH.cell (PH.del u47 L19) B16 0 = some (.int .i64 (W.length : Int)) := by rw [PH.cell_of_eq (PH.del_ne n96.symm), PH.cell_eq (eF _ _ (g16 _))]; rfl
  obtain ⟨u1, hu1⟩ : ∃ u1, u1 = PH.del u47 L19 := ⟨_, rfl⟩
  rw [← hu1] at hE1 k18 c17 c16 ⊢
  clear hu1 eF e0 ap' hend hY hyd
  have fin : ∀ {u' : PH}, Ext u1 u' → PH.free u' B18 0 1 ∧ ∃ b : Bool, PH.cell (PH.write u' B18 0 [.bool true]) B18 0 = some (.bool b) ∧ (Value.bool b = .bool true ∧ Ext u (PH.write u' B18 0 [.bool true])) := fun h => by
    have k := h _ _ k18
    refine ⟨⟨_, _, 0, 0, k, by simp, fun j _ => by omega⟩, true, by rw [PH.cell_eq (PH.write_one k)]; rfl, rfl, fun b o hb => ?_⟩
    rw [PH.write_ne (fun e => by subst e; rw [hu18] at hb; cases hb)]
    exact h _ _ (hE1 _ _ hb)
  have last : ∀ {u' : PH}, Ext u1 u' → Spec Try.prog 30 #[.slice a n c, .slice ao m co] u' fun v66 u67 => ∃ b68 : Bool, v66 = .bool b68 ∧ Spec Try.prog 24 #[.slice a n c, .slice ao m co] u67 fun v69 u70 => ∃ b71 : Bool, v69 = .bool b71 ∧
      ((b68 == b71) = true → Spec Try.prog 22 #[] u70 fun v72 u73 => ∃ b74 : Bool, v72 = .bool b74 ∧ PH.free u73 B18 0 1 ∧ ∃ b75 : Bool, PH.cell (PH.write u73 B18 0 [.bool b74]) B18 0 = some (.bool b75) ∧ (Value.bool b75 = .bool true ∧ Ext u (PH.write u73 B18 0 [.bool b74]))) ∧
      ((b68 == b71) = false → PH.free u70 B18 0 1 ∧ ∃ b76 : Bool, PH.cell (PH.write u70 B18 0 [.bool false]) B18 0 = some (.bool b76) ∧ (Value.bool b76 = .bool true ∧ Ext u (PH.write u70 B18 0 [.bool false]))) := fun h => by
    refine (f30_spec (hL.ext (hE1.trans h)) (hO.ext (hE1.trans h)) (by omega)).use ?_
    rintro v u2 ⟨b, rfl, hb, h2⟩
    refine ⟨_, rfl, (f24_spec (hL.ext (hE1.trans (h.trans h2))) (hO.ext (hE1.trans (h.trans h2))) (by omega)).use ?_⟩
    rintro v u3 ⟨b', rfl, hb', h3⟩
    have hbb : b = b' := by rw [Bool.eq_iff_iff, hb, hb']
    subst hbb
    refine ⟨_, rfl, fun _ => (f22_spec _).use ?_, fun h => by simp at h⟩
    rintro v u4 ⟨rfl, h4⟩
    exact ⟨_, rfl, fin (h.trans (h2.trans (h3.trans h4)))⟩
  have hfound : found L = (goL L n [] M0).head? := by rw [found, if_pos (by omega), hlen]
  refine (f23_spec (hL.ext hE1)).use ?_
  rintro v u49 ⟨hE2, hf⟩
  cases hg : goL L n [] M0 with
  | nil =>
    rw [hg] at hfound
    have hfd : found L = none := hfound
    rw [hfd] at hf
    have hf : v = .tuple #[.slice none 0 0, .bool false] := hf
    subst hf
    refine ⟨_, _, _, _, rfl, (f26_spec (hL.ext (hE1.trans hE2)) hn5.1 (by omega) (by omega)).use ?_⟩
    rintro v u55 ⟨a56, l57, c58, S1, rfl, hS1, hR1, hE3⟩
    have h13 := hE2.trans hE3
    have hl0 : l57 = 0 := by
      have e1 := hR1.1
      have e2 := hS1.len
      rw [hg] at e1; simp at e1
      rw [← e2, e1]; rfl
    subst hl0
    refine ⟨_, _, _, rfl, _, h13.cell c16, _, _, _, h13.cell c17, fun _ => ⟨fun _ => ?_, fun h => by simp at h⟩, fun h => ?_⟩
    · refine (f29_spec (hL.ext (hE1.trans h13))).use ?_
      rintro v u64 ⟨rfl, hE4⟩
      rw [hfd]
      exact ⟨_, rfl, fun _ => last (h13.trans hE4), fun h => by simp at h⟩
    · exfalso
      have : W.length = l7 := by omega
      rw [this] at h
      simp at h
  | cons q r =>
    rw [hg] at hfound
    have hfd : found L = some q := hfound
    rw [hfd] at hf
    obtain ⟨a50, m50, c50, rfl, hq⟩ := hf
    have hLine := found_sound hfd
    have hql : m50 = n := by rw [← hq.len, hLine.1, hlen]
    refine ⟨_, _, _, _, rfl, (f26_spec (hL.ext (hE1.trans hE2)) hn5.1 (by omega) (by omega)).use ?_⟩
    rintro v u55 ⟨a56, l57, c58, S1, rfl, hS1, hR1, hE3⟩
    have h13 := hE2.trans hE3
    have e1 := hR1.1
    have e2 := hS1.len
    rw [hg] at e1
    have hl1 : l57 = 1 := by rw [← e2, e1]; simp
    subst hl1
    refine ⟨_, _, _, rfl, _, h13.cell c16, _, _, _, h13.cell c17, fun _ => ⟨fun h => by simp at h, fun _ => ?_⟩, fun h => ?_⟩
    · have hx : S1[((0 : Int)).toNat]? = some (S1[0]'(by omega)) := List.getElem?_eq_getElem (by omega)
      have hw : ((goL L n [] M0).take (1 : Int).toNat)[0]? = some q := by rw [hg]; rfl
      obtain ⟨r1, _⟩ := hR1.2 0 _ _ hx hw
      refine (hS1.sl encR_len).at (by omega) hx fun b o hc => ⟨_, _, _, by simpa using hc 0 _ rfl, ?_⟩
      have hr1 := r1.len
      have hq1' := hq.len
      refine (f28_all (hq.ext hE3) r1 (by omega)).use ?_
      rintro v u84 ⟨rfl, rfl⟩
      refine ⟨_, rfl, fun _ => (f29_spec (hL.ext (hE1.trans h13))).use ?_, fun h => by simp at h⟩
      rintro v u87 ⟨rfl, hE4⟩
      rw [hfd]
      exact ⟨_, rfl, fun _ => last (h13.trans hE4), fun h => by simp at h⟩
    · exfalso
      have : W.length = l7 := by omega
      rw [this] at h
      simp at h
end Go.Proofs.Ytlmnfhhmgfnbpaa.E

/- SearchLines: what Lines yields is what the document's Lines keeps; Linear and Line agree with it. No conditions. -/
namespace Go.Proofs.Ytlmnfhhmgfnbpaa.E
open Go Go.ChangeShapes Go.WideShapes Go.ChangeAt Go.RowKit
theorem flat3 : flat Try.prog 8 3 = some [.int .i64] := by kernel_rfl
theorem cells3 : Try.prog.cellsOf 3 = 1 := by kernel_rfl
theorem dec3 : ∀ vs, fitsL [.int .i64] vs → ∃ y : Int, vs = encI y ∧ True := by
  intro vs h
  have hl := fitsL_len h
  match vs, hl with
  | [v0], _ =>
    simp only [fitsL] at h
    obtain ⟨⟨n0, rfl, _⟩, _⟩ := h
    exact ⟨n0, rfl, trivial⟩
end Go.Proofs.Ytlmnfhhmgfnbpaa.E
namespace Go.Proofs.Ytlmnfhhmgfnbpaa.searchLines
open Go Go.ChangeShapes Go.WideShapes Go.ChangeAt Go.RowKit Go.Proofs.Ytlmnfhhmgfnbpaa.E
set_option maxRecDepth 100000 in
theorem lifted (os : Os) (started : os.Started) (H : Type) (enc : TypeId × Value → H) :
    ReturnsInHanded {} Try.checked os 5 .any (Rows.searchLinesSpec.pre6 enc Try.prog Try.f5 Rows.searchLinesRow.domain false) (Rows.searchLinesSpec.post enc Try.prog Try.f5 false true false false) := by
  refine returnsInHanded_of_change_sized (C := Try.checked) own started (by kernel_rfl) Try.func5
    (ChangeSpec.witness6 (enc := enc) (C := Try.checked) false ⟨#[], #[.slice none 0 0, .slice none 0 0, .int .u64 0], []⟩ 8 (by kernel_rfl) (by kernel_rfl) (by kernel_rfl) (by kernel_rfl)) ?_
  intro W base args ds gs before hval0 hW hcnd hsz0 _
  have hval : ∀ (j : Nat) t v, Try.f5.params[j]? = some t → args[j]? = some v → Value.okWide Try.prog W .any base t v := hval0
  have hW' := hW
  obtain ⟨p, q, hA0, hV, rfl, hfz, hnd⟩ := hW
  have hA : DataW.TrodAll enc Try.prog W 0 (fun _ => true) true Try.f5.params.toList args.toList ds p := hA0
  rw [Try.params5] at hA hval
  obtain ⟨v0, vs0, d0, ds0, p0, q0, hargs, rfl, rfl, h0, r0⟩ := trodAll_cons hA
  obtain ⟨v1, vs1, d1, ds1, p1, q1, rfl, rfl, rfl, h1, r1⟩ := trodAll_cons r0
  obtain ⟨v2, vs2, d2, ds2, p2, q2, rfl, rfl, rfl, h2, r2⟩ := trodAll_cons r1
  obtain ⟨rfl, rfl, rfl⟩ := trodAll_nil r2
  obtain rfl : args = #[v0, v1, v2] := by cases args; simp_all
  obtain ⟨rfl, rfl⟩ := trodVars_none hV
  obtain ⟨a2, rfl, rfl, rfl, w2⟩ := open_int Try.underlying39 (hval 2 39 v2 rfl rfl) h2
  obtain ⟨a0, len0, cap0, rfl⟩ := okWide_slice Try.underlying22 (hval 0 22 v0 rfl rfl)
  obtain ⟨a1, len1, cap1, rfl⟩ := okWide_slice Try.underlying35 (hval 1 35 v1 rfl rfl)
  have k0 := h0
  have k1 := h1
  have lt0 : ∀ x ∈ p0, x.block < W.heap.size := by obtain ⟨m, hm⟩ := k0; exact DataW.trod_lt m _ _ _ hm
  have lt1 : ∀ x ∈ p1, x.block < W.heap.size := by obtain ⟨m, hm⟩ := k1; exact DataW.trod_lt m _ _ _ hm
  obtain ⟨fuel, hf⟩ := h0
  obtain ⟨a, len, cap, L, hcs, hlc, hcm, hS, _⟩ := open_flat ht22 flat28 cells28 (by omega) dec28 Call.cells_len hf
  simp only [Value.cells, List.cons.injEq, Value.slice.injEq, and_true] at hcs
  obtain ⟨rfl, rfl, rfl⟩ := hcs
  obtain ⟨fuel1, hf1⟩ := h1
  obtain ⟨b, len1', cap1', O, hcs1, hlc1, hcm1, hS1, _⟩ := open_flat Try.underlying35 flat3 cells3 (by omega) dec3 encI_len hf1
  simp only [Value.cells, List.cons.injEq, Value.slice.injEq, and_true] at hcs1
  obtain ⟨rfl, rfl, rfl⟩ := hcs1
  clear hA0 hval0
  have h20 : 0 ≤ a2 := by
    have := w2
    simp only [Lit.wf, Bool.and_eq_true, decide_eq_true_eq] at this
    exact this.1
  refine (below_of_spec (f5_spec hS hS1 h20)).mono fun e W' ⟨he, bel⟩ => ?_
  subst he
  exact ⟨_, rfl, _, _, _, [], _, [], hW', trodAll_mk1 (shut_bool Try.underlying4 _), (trodAll_cons_mk (Below.trod laidOut (by kernel_rfl) (of_decide_eq_true (by kernel_rfl)) k0 bel lt0) (trodAll_cons_mk (Below.trod laidOut (by kernel_rfl) (of_decide_eq_true (by kernel_rfl)) k1 bel lt1) (trodAll_cons_mk (shut_int Try.underlying39 w2) trodAll_mk0))), rfl, bel.frame _, fun h => by cases h⟩
theorem over : Rows.searchLinesRow.holds Try.pinned (OpenSpec.ofChange Rows.searchLinesSpec) :=
  OpenClaim.holds_of_wide 5 Try.f5 rfl rfl rfl rfl rfl rfl rfl ⟨rfl, rfl, rfl, rfl, rfl⟩ rfl rfl rfl rfl rfl (by kernel_rfl) Try.func5 (by kernel_rfl)
    (of_decide_eq_true (by kernel_rfl)) (by unfold Func.isWrapper; first | (rw [if_pos (by decide +kernel)]; kernel_rfl) | (rw [if_neg (by decide +kernel)]; exact ⟨rfl, rfl⟩))
    (fun os started H enc _ => lifted os started H enc)
theorem proved : Rows.SearchLinesSaid := over
#print axioms proved
end Go.Proofs.Ytlmnfhhmgfnbpaa.searchLines
namespace Go.Proofs.Ytlmnfhhmgfnbpaa
theorem searchLines_holds : Rows.SearchLinesSaid := searchLines.proved
end Go.Proofs.Ytlmnfhhmgfnbpaa
