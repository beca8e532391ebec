import Derived.Test.YtlmnfhhmgfnbpaaE13
import Derived.Test.YtlmnfhhmgfnbpaaB0
namespace Go.Proofs.Ytlmnfhhmgfnbpaa.E
open Go
/-- cortado/cortadolaw39.SearchFinds -/
def f4_h : Hints := ⟨[], []⟩
set_option maxRecDepth 100000 in
def f4_V (l : Option Addr) (l_l l_c : Nat) (u : PH) (Q : Value → PH → Prop) : Prop :=
 (((decide (((((l_l : Nat) : Int)) : Int) > 12)) = true →
 Spec Try.prog 22 #[] u (fun v1 u2 =>
 ∃ b3 : Bool, v1 = .bool b3 ∧
 Q (.bool b3) u2)) ∧
 ((decide (((((l_l : Nat) : Int)) : Int) > 12)) = false →
 Spec Try.prog 23 #[.slice l l_l l_c] u (fun v4 u5 =>
 ∃ (a6 : Option Addr) (l7 c8 : Nat), ∃ b9 : Bool, v4 = .tuple #[.slice a6 l7 c8, .bool b9] ∧
 ((decide (((((l_l : Nat) : Int)) : Int) > 7)) = true →
 (((!b9) && (((((l7 : Nat) : Int)) : Int) == 0)) = true →
 Spec Try.prog 22 #[] u5 (fun v10 u11 =>
 ∃ b12 : Bool, v10 = .bool b12 ∧
 Q (.bool b12) u11)) ∧
 (((!b9) && (((((l7 : Nat) : Int)) : Int) == 0)) = false →
 Q (.bool false) u5)) ∧
 ((decide (((((l_l : Nat) : Int)) : Int) > 7)) = false →
 (b9 = true →
 Spec Try.prog 24 #[.slice l l_l l_c, .slice a6 l7 c8] u5 (fun v13 u14 =>
 ∃ b15 : Bool, v13 = .bool b15 ∧
 (((!b15) || ((!b9) && (((((l7 : Nat) : Int)) : Int) != 0))) = true →
 Q (.bool false) u14) ∧
 (((!b15) || ((!b9) && (((((l7 : Nat) : Int)) : Int) != 0))) = false →
 Spec Try.prog 15 #[.slice l l_l l_c] u14 (fun v16 u17 =>
 ∃ (a18 : Option Addr) (l19 c20 : Nat), v16 = .slice a18 l19 c20 ∧
 Spec Try.prog 25 #[.slice l l_l l_c] u17 (fun v21 u22 =>
 ∃ b23 : Bool, v21 = .bool b23 ∧
 (((b23 && (((((l19 : Nat) : Int)) : Int) == (((l_l : Nat) : Int)))) && (!b9)) = true →
 Q (.bool false) u22) ∧
 (((b23 && (((((l19 : Nat) : Int)) : Int) == (((l_l : Nat) : Int)))) && (!b9)) = false →
 Spec Try.prog 22 #[] u22 (fun v24 u25 =>
 ∃ b26 : Bool, v24 = .bool b26 ∧
 Q (.bool b26) u25))))))) ∧
 (b9 = false →
 (((!b9) && (((((l7 : Nat) : Int)) : Int) != 0)) = true →
 Q (.bool false) u5) ∧
 (((!b9) && (((((l7 : Nat) : Int)) : Int) != 0)) = false →
 Spec Try.prog 15 #[.slice l l_l l_c] u5 (fun v27 u28 =>
 ∃ (a29 : Option Addr) (l30 c31 : Nat), v27 = .slice a29 l30 c31 ∧
 Spec Try.prog 25 #[.slice l l_l l_c] u28 (fun v32 u33 =>
 ∃ b34 : Bool, v32 = .bool b34 ∧
 (((b34 && (((((l30 : Nat) : Int)) : Int) == (((l_l : Nat) : Int)))) && (!b9)) = true →
 Q (.bool false) u33) ∧
 (((b34 && (((((l30 : Nat) : Int)) : Int) == (((l_l : Nat) : Int)))) && (!b9)) = false →
 Spec Try.prog 22 #[] u33 (fun v35 u36 =>
 ∃ b37 : Bool, v35 = .bool b37 ∧
 Q (.bool b37) u36))))))))))
set_option maxRecDepth 100000 in
theorem f4_vc (l : Option Addr) (l_l l_c : Nat) (u : PH) (Q : Value → PH → Prop) : fnVC Try.prog f4_h Try.f4 [.c (.v (.slice l l_l l_c))] u Q = f4_V l l_l l_c u Q := by kernel_rfl
theorem f4_of {l : Option Addr} {l_l l_c : Nat} {u : PH} {Q : Value → PH → Prop} (h : f4_V l l_l l_c u Q) : Spec Try.prog 4 #[.slice l l_l l_c] u Q :=
  spec_of_vc (H := f4_h) (ps := [.c (.v (.slice l l_l l_c))]) Try.func4 rfl (by rw [f4_vc]; exact h)
/-- cortado/cortadolaw39.awake -/
def f22_h : Hints := ⟨[], []⟩
set_option maxRecDepth 100000 in
def f22_V  (u : PH) (Q : Value → PH → Prop) : Prop :=
 (∀ B1 : Nat, u B1 = none →
 Spec Try.prog 23 #[.slice ((some ⟨B1, 0, none⟩)) 2 2] (PH.add u B1 (.cells #[.int .i64 0, .int .i64 0, .int .i64 1, .int .i64 1, .int .i64 0, .int .i64 0, .int .i64 0, .int .i64 0, .int .i64 5, .int .i64 9, .int .i64 0, .bool true, .int .i64 5, .int .i64 0, .int .i64 0, .int .i64 2, .int .i64 1, .int .i64 5, .int .i64 0, .int .i64 0, .int .i64 1, .int .i64 2, .int .i64 3, .int .i64 0, .bool true, .int .i64 0] 28)) (fun v2 u3 =>
 ∃ (a4 : Option Addr) (l5 c6 : Nat), ∃ b7 : Bool, v2 = .tuple #[.slice a4 l5 c6, .bool b7] ∧
 (b7 = true →
 ∀ B8 : Nat, u3 B8 = none →
 Spec Try.prog 28 #[.slice a4 l5 c6, .slice ((some ⟨B8, 0, none⟩)) 2 2] (PH.add u3 B8 (.cells #[.int .i64 1, .int .i64 0] 3)) (fun v9 u10 =>
 ∃ b11 : Bool, v9 = .bool b11 ∧
 Q (.bool (b11 || false)) u10)) ∧
 (b7 = false →
 Q (.bool false) u3)))
set_option maxRecDepth 100000 in
theorem f22_vc  (u : PH) (Q : Value → PH → Prop) : fnVC Try.prog f22_h Try.f22 [] u Q = f22_V  u Q := by kernel_rfl
theorem f22_of  {u : PH} {Q : Value → PH → Prop} (h : f22_V  u Q) : Spec Try.prog 22 #[] u Q :=
  spec_of_vc (H := f22_h) (ps := []) Try.func22 rfl (by rw [f22_vc]; exact h)
/-- cortado/search.Find -/
def f23_h : Hints := ⟨[], []⟩
set_option maxRecDepth 100000 in
def f23_V (l : Option Addr) (l_l l_c : Nat) (u : PH) (Q : Value → PH → Prop) : Prop :=
 (Spec Try.prog 27 #[.slice l l_l l_c, .int .i64 1] u (fun v1 u2 =>
 ∃ (v3 : Value) (h4 : notAgg v3 = true), v1 = v3 ∧
 ∀ B5 : Nat, u2 B5 = none →
 ∀ B6 : Nat, (PH.add u2 B5 (.cells #[.bool false] 4)) B6 = none →
 True ∧
 ∀ (L7 : Nat) (O8 O9 O10 : Obj) (O11 : Nat → Obj), (PH.add (PH.add u2 B5 (.cells #[.bool false] 4)) B6 (.cells #[.slice none 0 0] 35)) L7 = none →
 (∀ x14 : Value, ∀ (u12 : PH) (R13 : Value → PH → Prop),
 (u12 L7 = some O8 ∧
 ∃ (a15 : Option Addr) (l16 c17 : Nat), x14 = .slice a15 l16 c17 ∧
 u12 L7 = some O8 ∧
 PH.free (PH.add u12 L7 O9) B6 0 1 ∧
 PH.free (PH.write (PH.add u12 L7 O9) B6 0 [.slice a15 l16 c17]) B5 0 1 ∧
 (PH.write (PH.write (PH.add u12 L7 O9) B6 0 [.slice a15 l16 c17]) B5 0 [.bool true]) L7 = some O9 ∧
 R13 (.bool false) (PH.add (PH.write (PH.write (PH.add u12 L7 O9) B6 0 [.slice a15 l16 c17]) B5 0 [.bool true]) L7 O10)) →
 CallV Try.prog (.func (.yield L7) #[] #[]) [x14] u12 R13) →
 CallF Try.prog v3 [.func (.yield L7) #[] #[]] (PH.add (PH.add (PH.add u2 B5 (.cells #[.bool false] 4)) B6 (.cells #[.slice none 0 0] 35)) L7 O8) (fun _ u18 =>
 (u18 L7 = some O8 ∧
 PH.free (PH.del u18 L7) B6 0 1 ∧
 PH.free (PH.write (PH.del u18 L7) B6 0 [.slice none 0 0]) B5 0 1 ∧
 ∃ (a19 : Option Addr) (l20 c21 : Nat), PH.cell (PH.write (PH.write (PH.del u18 L7) B6 0 [.slice none 0 0]) B5 0 [.bool false]) B6 0 = some (.slice a19 l20 c21) ∧
 ∃ b22 : Bool, PH.cell (PH.write (PH.write (PH.del u18 L7) B6 0 [.slice none 0 0]) B5 0 [.bool false]) B5 0 = some (.bool b22) ∧
 Q (.tuple #[.slice a19 l20 c21, .bool b22]) (PH.write (PH.write (PH.del u18 L7) B6 0 [.slice none 0 0]) B5 0 [.bool false])) ∨
 (u18 L7 = some O10 ∧
 ∃ (a23 : Option Addr) (l24 c25 : Nat), PH.cell (PH.del u18 L7) B6 0 = some (.slice a23 l24 c25) ∧
 ∃ b26 : Bool, PH.cell (PH.del u18 L7) B5 0 = some (.bool b26) ∧
 Q (.tuple #[.slice a23 l24 c25, .bool b26]) (PH.del u18 L7)))))
set_option maxRecDepth 100000 in
theorem f23_vc (l : Option Addr) (l_l l_c : Nat) (u : PH) (Q : Value → PH → Prop) : fnVC Try.prog f23_h Try.f23 [.c (.v (.slice l l_l l_c))] u Q = f23_V l l_l l_c u Q := by kernel_rfl
theorem f23_of {l : Option Addr} {l_l l_c : Nat} {u : PH} {Q : Value → PH → Prop} (h : f23_V l l_l l_c u Q) : Spec Try.prog 23 #[.slice l l_l l_c] u Q :=
  spec_of_vc (H := f23_h) (ps := [.c (.v (.slice l l_l l_c))]) Try.func23 rfl (by rw [f23_vc]; exact h)
/-- cortado/cortadoref39.Line -/
def f24_h : Hints := ⟨[(5, ⟨[(4, .bool), (5, .slice), (6, .int .i64)], [], []⟩), (10, ⟨[(4, .bool), (7, .int .i64)], [], []⟩)], []⟩
set_option maxRecDepth 100000 in
def f24_V (x0 : Option Addr) (x0_l x0_c : Nat) (x1 : Option Addr) (x1_l x1_c : Nat) (u : PH) (Q : Value → PH → Prop) : Prop :=
 (((((((x1_l : Nat) : Int)) : Int) != (((x0_l : Nat) : Int))) = true →
 Q (.bool false) u) ∧
 ((((((x1_l : Nat) : Int)) : Int) != (((x0_l : Nat) : Int))) = false →
 ∃ (I1 : Bool → Option Addr → Nat → Nat → Int → PH → Prop) (M2 : Bool → Option Addr → Nat → Nat → Int → PH → Nat), I1 false none 0 0 0 u ∧
 ∀ b3 : Bool, ∀ (a4 : Option Addr) (l5 c6 : Nat), ∀ n7 : Int, ∀ u8 : PH, I1 b3 a4 l5 c6 n7 u8 →
 ((decide ((n7 : Int) < (((x1_l : Nat) : Int)))) = true →
 ∃ b9 o10 : Nat, (x1 : Option Addr) = some ⟨b9, o10, none⟩ ∧ ((0 : Int) ≤ n7 ∧ (n7 : Int) < ((x1_l : Nat) : Int)) ∧
 ∃ n11 : Int, PH.cell u8 b9 (o10 + (n7 : Int).toNat * 1) = some (.int .i64 n11) ∧
 ((decide ((n11 : Int) < 0)) = true →
 Q (.bool false) u8) ∧
 ((decide ((n11 : Int) < 0)) = false →
 ∃ b12 o13 : Nat, (x1 : Option Addr) = some ⟨b12, o13, none⟩ ∧ ((0 : Int) ≤ n7 ∧ (n7 : Int) < ((x1_l : Nat) : Int)) ∧
 ∃ n14 : Int, PH.cell u8 b12 (o13 + (n7 : Int).toNat * 1) = some (.int .i64 n14) ∧
 ((decide ((n14 : Int) ≥ (((x0_l : Nat) : Int)))) = true →
 Q (.bool false) u8) ∧
 ((decide ((n14 : Int) ≥ (((x0_l : Nat) : Int)))) = false →
 ∃ (I15 : Bool → Int → PH → Prop) (M16 : Bool → Int → PH → Nat), I15 b3 0 u8 ∧
 ∀ b17 : Bool, ∀ n18 : Int, ∀ u19 : PH, I15 b17 n18 u19 →
 ((decide ((n18 : Int) < n7)) = true →
 ∃ b20 o21 : Nat, (x1 : Option Addr) = some ⟨b20, o21, none⟩ ∧ ((0 : Int) ≤ n18 ∧ (n18 : Int) < ((x1_l : Nat) : Int)) ∧
 ∃ n22 : Int, PH.cell u19 b20 (o21 + (n18 : Int).toNat * 1) = some (.int .i64 n22) ∧
 ∃ b23 o24 : Nat, (x1 : Option Addr) = some ⟨b23, o24, none⟩ ∧ ((0 : Int) ≤ n7 ∧ (n7 : Int) < ((x1_l : Nat) : Int)) ∧
 ∃ n25 : Int, PH.cell u19 b23 (o24 + (n7 : Int).toNat * 1) = some (.int .i64 n25) ∧
 (((n22 : Int) == n25) = true →
 Q (.bool false) u19) ∧
 (((n22 : Int) == n25) = false →
 I15 b17 (IntKind.wrap .i64 (n18 + 1)) u19 ∧ M16 b17 (IntKind.wrap .i64 (n18 + 1)) u19 < M16 b17 n18 u19)) ∧
 ((decide ((n18 : Int) < n7)) = false →
 ∃ b26 o27 : Nat, (x1 : Option Addr) = some ⟨b26, o27, none⟩ ∧ ((0 : Int) ≤ n7 ∧ (n7 : Int) < ((x1_l : Nat) : Int)) ∧
 ∃ n28 : Int, PH.cell u19 b26 (o27 + (n7 : Int).toNat * 1) = some (.int .i64 n28) ∧
 ∃ b29 o30 : Nat, (x0 : Option Addr) = some ⟨b29, o30, none⟩ ∧ ((0 : Int) ≤ n28 ∧ (n28 : Int) < ((x0_l : Nat) : Int)) ∧
 ∃ n31 : Int, ∃ n32 : Int, ∃ n33 : Int, ∃ n34 : Int, ∃ n35 : Int, ∃ n36 : Int, ∃ n37 : Int, ∃ n38 : Int, ∃ n39 : Int, ∃ n40 : Int, ∃ n41 : Int, ∃ b42 : Bool, ∃ n43 : Int, PH.cells u19 b29 (o30 + (n28 : Int).toNat * 13) [.int .i64 n31, .int .i64 n32, .int .i64 n33, .int .i64 n34, .int .i64 n35, .int .i64 n36, .int .i64 n37, .int .i64 n38, .int .i64 n39, .int .i64 n40, .int .i64 n41, .bool b42, .int .i64 n43] ∧
 ∀ B44 : Nat, u19 B44 = none →
 SemSpec Try.prog (Builtin.append_ #[22, 22] 22 #[.slice a4 l5 c6, .slice ((some ⟨B44, 0, none⟩)) 1 1]) (PH.add u19 B44 (.cells #[.int .i64 n31, .int .i64 n32, .int .i64 n33, .int .i64 n34, .int .i64 n35, .int .i64 n36, .int .i64 n37, .int .i64 n38, .int .i64 n39, .int .i64 n40, .int .i64 n41, .bool b42, .int .i64 n43] 28)) (fun v45 u46 =>
 ∃ (a47 : Option Addr) (l48 c49 : Nat), v45 = .slice a47 l48 c49 ∧
 I1 b17 a47 l48 c49 (IntKind.wrap .i64 (n7 + 1)) u46 ∧ M2 b17 a47 l48 c49 (IntKind.wrap .i64 (n7 + 1)) u46 < M2 b3 a4 l5 c6 n7 u8))))) ∧
 ((decide ((n7 : Int) < (((x1_l : Nat) : Int)))) = false →
 Spec Try.prog 21 #[.slice a4 l5 c6] u8 (fun v50 u51 =>
 ∃ n52 : Int, v50 = .int .i64 n52 ∧
 (((n52 : Int) == 0) = true →
 Spec Try.prog 45 #[.slice a4 l5 c6] u51 (fun v53 u54 =>
 ∃ n55 : Int, v53 = .int .i64 n55 ∧
 Q (.bool ((n55 : Int) == (((l5 : Nat) : Int)))) u54)) ∧
 (((n52 : Int) == 0) = false →
 Q (.bool false) u51)))))
set_option maxRecDepth 100000 in
theorem f24_vc (x0 : Option Addr) (x0_l x0_c : Nat) (x1 : Option Addr) (x1_l x1_c : Nat) (u : PH) (Q : Value → PH → Prop) : fnVC Try.prog f24_h Try.f24 [.c (.v (.slice x0 x0_l x0_c)), .c (.v (.slice x1 x1_l x1_c))] u Q = f24_V x0 x0_l x0_c x1 x1_l x1_c u Q := by kernel_rfl
theorem f24_of {x0 : Option Addr} {x0_l x0_c : Nat} {x1 : Option Addr} {x1_l x1_c : Nat} {u : PH} {Q : Value → PH → Prop} (h : f24_V x0 x0_l x0_c x1 x1_l x1_c u Q) : Spec Try.prog 24 #[.slice x0 x0_l x0_c, .slice x1 x1_l x1_c] u Q :=
  spec_of_vc (H := f24_h) (ps := [.c (.v (.slice x0 x0_l x0_c)), .c (.v (.slice x1 x1_l x1_c))]) Try.func24 rfl (by rw [f24_vc]; exact h)
/-- cortado/cortadoref38.Holds -/
def f25_h : Hints := ⟨[], []⟩
set_option maxRecDepth 100000 in
def f25_V (l : Option Addr) (l_l l_c : Nat) (u : PH) (Q : Value → PH → Prop) : Prop :=
 (Spec Try.prog 15 #[.slice l l_l l_c] u (fun v1 u2 =>
 ∃ (a3 : Option Addr) (l4 c5 : Nat), v1 = .slice a3 l4 c5 ∧
 Spec Try.prog 10 #[.slice l l_l l_c] u2 (fun v6 u7 =>
 ∃ b8 : Bool, v6 = .bool b8 ∧
 (b8 = true →
 Spec Try.prog 45 #[.slice a3 l4 c5] u7 (fun v9 u10 =>
 ∃ n11 : Int, v9 = .int .i64 n11 ∧
 Q (.bool ((n11 : Int) == (((l4 : Nat) : Int)))) u10)) ∧
 (b8 = false →
 Q (.bool false) u7))))
set_option maxRecDepth 100000 in
theorem f25_vc (l : Option Addr) (l_l l_c : Nat) (u : PH) (Q : Value → PH → Prop) : fnVC Try.prog f25_h Try.f25 [.c (.v (.slice l l_l l_c))] u Q = f25_V l l_l l_c u Q := by kernel_rfl
theorem f25_of {l : Option Addr} {l_l l_c : Nat} {u : PH} {Q : Value → PH → Prop} (h : f25_V l l_l l_c u Q) : Spec Try.prog 25 #[.slice l l_l l_c] u Q :=
  spec_of_vc (H := f25_h) (ps := [.c (.v (.slice l l_l l_c))]) Try.func25 rfl (by rw [f25_vc]; exact h)
/-- cortado/search.Lines -/
def f27_h : Hints := ⟨[], []⟩
set_option maxRecDepth 100000 in
def f27_V (l : Option Addr) (l_l l_c : Nat) (most : Int) (u : PH) (Q : Value → PH → Prop) : Prop :=
 (∀ B1 : Nat, u B1 = none →
 ∀ B2 : Nat, (PH.add u B1 (.cells #[.slice l l_l l_c] 22)) B2 = none →
 Q (.func (.func 47) #[] #[.pointer (some ⟨B1, 0, none⟩), .pointer (some ⟨B2, 0, none⟩)]) (PH.add (PH.add u B1 (.cells #[.slice l l_l l_c] 22)) B2 (.cells #[.int .i64 most] 3)))
set_option maxRecDepth 100000 in
theorem f27_vc (l : Option Addr) (l_l l_c : Nat) (most : Int) (u : PH) (Q : Value → PH → Prop) : fnVC Try.prog f27_h Try.f27 [.c (.v (.slice l l_l l_c)), .c (.v (.int .i64 most))] u Q = f27_V l l_l l_c most u Q := by kernel_rfl
theorem f27_of {l : Option Addr} {l_l l_c : Nat} {most : Int} {u : PH} {Q : Value → PH → Prop} (h : f27_V l l_l l_c most u Q) : Spec Try.prog 27 #[.slice l l_l l_c, .int .i64 most] u Q :=
  spec_of_vc (H := f27_h) (ps := [.c (.v (.slice l l_l l_c)), .c (.v (.int .i64 most))]) Try.func27 rfl (by rw [f27_vc]; exact h)
/-- cortado/cortadoref38.Replay -/
def f45_h : Hints := ⟨[(2, ⟨[(2, .int .i64), (3, .int .i64)], [], []⟩)], []⟩
set_option maxRecDepth 100000 in
def f45_V (l : Option Addr) (l_l l_c : Nat) (u : PH) (Q : Value → PH → Prop) : Prop :=
 (∃ (I1 : Int → Int → PH → Prop) (M2 : Int → Int → PH → Nat), I1 0 0 u ∧
 ∀ n3 : Int, ∀ n4 : Int, ∀ u5 : PH, I1 n3 n4 u5 →
 ((decide ((n4 : Int) < (((l_l : Nat) : Int)))) = true →
 ((0 : Int) ≤ 0 ∧ (0 : Int) ≤ n4 ∧ n4 ≤ ((l_c : Nat) : Int)) ∧
 ∃ b6 o7 : Nat, (l : Option Addr) = some ⟨b6, o7, none⟩ ∧ ((0 : Int) ≤ n4 ∧ (n4 : Int) < ((l_l : Nat) : Int)) ∧
 ∃ n8 : Int, ∃ n9 : Int, ∃ n10 : Int, ∃ n11 : Int, ∃ n12 : Int, ∃ n13 : Int, ∃ n14 : Int, ∃ n15 : Int, ∃ n16 : Int, ∃ n17 : Int, ∃ n18 : Int, ∃ b19 : Bool, ∃ n20 : Int, PH.cells u5 b6 (o7 + (n4 : Int).toNat * 13) [.int .i64 n8, .int .i64 n9, .int .i64 n10, .int .i64 n11, .int .i64 n12, .int .i64 n13, .int .i64 n14, .int .i64 n15, .int .i64 n16, .int .i64 n17, .int .i64 n18, .bool b19, .int .i64 n20] ∧
 Spec Try.prog 59 #[.slice ((subA l (0 : Int).toNat l_c 13)) (((n4 : Int).toNat - (0 : Int).toNat)) ((l_c - (0 : Int).toNat)), .agg #[.int .i64 n8, .int .i64 n9, .int .i64 n10, .int .i64 n11, .int .i64 n12, .int .i64 n13, .int .i64 n14, .int .i64 n15, .int .i64 n16, .int .i64 n17, .int .i64 n18, .bool b19, .int .i64 n20]] u5 (fun v21 u22 =>
 ∃ b23 : Bool, v21 = .bool b23 ∧
 ((!b23) = true →
 Q (.int .i64 n4) u22) ∧
 ((!b23) = false →
 I1 n3 (IntKind.wrap .i64 (n4 + 1)) u22 ∧ M2 n3 (IntKind.wrap .i64 (n4 + 1)) u22 < M2 n3 n4 u5))) ∧
 ((decide ((n4 : Int) < (((l_l : Nat) : Int)))) = false →
 Q (.int .i64 (((l_l : Nat) : Int))) u5))
set_option maxRecDepth 100000 in
theorem f45_vc (l : Option Addr) (l_l l_c : Nat) (u : PH) (Q : Value → PH → Prop) : fnVC Try.prog f45_h Try.f45 [.c (.v (.slice l l_l l_c))] u Q = f45_V l l_l l_c u Q := by kernel_rfl
theorem f45_of {l : Option Addr} {l_l l_c : Nat} {u : PH} {Q : Value → PH → Prop} (h : f45_V l l_l l_c u Q) : Spec Try.prog 45 #[.slice l l_l l_c] u Q :=
  spec_of_vc (H := f45_h) (ps := [.c (.v (.slice l l_l l_c))]) Try.func45 rfl (by rw [f45_vc]; exact h)
/-- cortado/search.Lines$1 -/
def f47_h : Hints := ⟨[], []⟩
set_option maxRecDepth 100000 in
def f47_V (yield : Value) (hyield : notAgg yield = true) (B0 : Nat) (B1 : Nat) (u : PH) (Q : Value → PH → Prop) : Prop :=
 (∃ (a1 : Option Addr) (l2 c3 : Nat), PH.cell u B0 0 = some (.slice a1 l2 c3) ∧
 ((decide (((((l2 : Nat) : Int)) : Int) ≤ 7)) = true →
 ∃ n4 : Int, PH.cell u B1 0 = some (.int .i64 n4) ∧
 ((decide ((n4 : Int) > 0)) = true →
 ∃ w5 : PH, Ext w5 u ∧
 (∃ (a6 : Option Addr) (l7 c8 : Nat), PH.cell w5 B0 0 = some (.slice a6 l7 c8) ∧
 ∃ n9 : Int, PH.cell w5 B1 0 = some (.int .i64 n9) ∧
 (Ext w5 u ∧
 Spec Try.prog 49 #[] u (fun v10 u11 =>
 ∃ p12 : Option Addr, v10 = .pointer p12 ∧
 Ext w5 u11 ∧
 ∀ B13 : Nat, u11 B13 = none →
 Spec Try.prog 48 #[.pointer (some ⟨B13, 0, none⟩), .pointer p12, yield] (PH.add u11 B13 (.cells #[.slice a6 l7 c8, .slice none 0 0, .int .i64 n9] 56)) (fun v14 u15 =>
 ∃ b16 : Bool, v14 = .bool b16 ∧
 Ext w5 u15 ∧
 Q (.tuple #[]) u15)))
 ∧ (Spec Try.prog 49 #[] u (fun v17 u18 =>
 ∃ p19 : Option Addr, v17 = .pointer p19 ∧
 Ext w5 u18 ∧
 Ext w5 u18 ∧
 ∀ B20 : Nat, u18 B20 = none →
 Spec Try.prog 48 #[.pointer (some ⟨B20, 0, none⟩), .pointer p19, yield] (PH.add u18 B20 (.cells #[.slice a6 l7 c8, .slice none 0 0, .int .i64 n9] 56)) (fun v21 u22 =>
 ∃ b23 : Bool, v21 = .bool b23 ∧
 Ext w5 u22 ∧
 Q (.tuple #[]) u22))))) ∧
 ((decide ((n4 : Int) > 0)) = false →
 Q (.tuple #[]) u)) ∧
 ((decide (((((l2 : Nat) : Int)) : Int) ≤ 7)) = false →
 Q (.tuple #[]) u))
set_option maxRecDepth 100000 in
theorem f47_vc (yield : Value) (hyield : notAgg yield = true) (B0 : Nat) (B1 : Nat) (u : PH) (Q : Value → PH → Prop) : fnVC Try.prog f47_h Try.f47 [.c (.vv ⟨yield, hyield⟩), .c (.ptr B0 0), .c (.ptr B1 0)] u Q = f47_V yield hyield B0 B1 u Q := by kernel_rfl
theorem f47_of {yield : Value} {hyield : notAgg yield = true} {B0 : Nat} {B1 : Nat} {u : PH} {Q : Value → PH → Prop} (h : f47_V yield hyield B0 B1 u Q) : Spec Try.prog 47 #[yield, .pointer (some ⟨B0, 0, none⟩), .pointer (some ⟨B1, 0, none⟩)] u Q :=
  spec_of_vc (H := f47_h) (ps := [.c (.vv ⟨yield, hyield⟩), .c (.ptr B0 0), .c (.ptr B1 0)]) Try.func47 rfl (by rw [f47_vc]; exact h)
/-- (*cortado/search.seek).go1 -/
def f48_h : Hints := ⟨[(5, ⟨[(6, .bool), (48, .int .i64)], [], []⟩)], []⟩
set_option maxRecDepth 100000 in
def f48_V (x0 : Option Addr) (x1 : Option Addr) (x2 : Value) (hx2 : notAgg x2 = true) (u : PH) (Q : Value → PH → Prop) : Prop :=
 (∃ b1 o2 : Nat, (x0 : Option Addr) = some ⟨b1, o2, none⟩ ∧
 ∃ (a3 : Option Addr) (l4 c5 : Nat), PH.cell u b1 (o2 + 1) = some (.slice a3 l4 c5) ∧
 ∃ b6 o7 : Nat, (x0 : Option Addr) = some ⟨b6, o7, none⟩ ∧
 ∃ (a8 : Option Addr) (l9 c10 : Nat), PH.cell u b6 (o7 + 0) = some (.slice a8 l9 c10) ∧
 ((((((l4 : Nat) : Int)) : Int) == (((l9 : Nat) : Int))) = true →
 ∃ b11 o12 : Nat, (x0 : Option Addr) = some ⟨b11, o12, none⟩ ∧
 ∃ n13 : Int, PH.cell u b11 (o12 + 2) = some (.int .i64 n13) ∧
 ∃ b14 o15 : Nat, (x0 : Option Addr) = some ⟨b14, o15, none⟩ ∧
 PH.free u b14 (o15 + 2) 1 ∧
 ∃ b16 o17 : Nat, (x0 : Option Addr) = some ⟨b16, o17, none⟩ ∧
 ∃ (a18 : Option Addr) (l19 c20 : Nat), PH.cell (PH.write u b14 (o15 + 2) [.int .i64 (IntKind.wrap .i64 (n13 - 1))]) b16 (o17 + 1) = some (.slice a18 l19 c20) ∧
 Spec Try.prog 60 #[.slice a18 l19 c20] (PH.write u b14 (o15 + 2) [.int .i64 (IntKind.wrap .i64 (n13 - 1))]) (fun v21 u22 =>
 ∃ (a23 : Option Addr) (l24 c25 : Nat), v21 = .slice a23 l24 c25 ∧
 CallV Try.prog x2 [.slice a23 l24 c25] u22 (fun v26 u27 =>
 ∃ b28 : Bool, v26 = .bool b28 ∧
 (b28 = true →
 ∃ b29 o30 : Nat, (x0 : Option Addr) = some ⟨b29, o30, none⟩ ∧
 ∃ n31 : Int, PH.cell u27 b29 (o30 + 2) = some (.int .i64 n31) ∧
 Q (.bool (decide ((n31 : Int) > 0))) u27) ∧
 (b28 = false →
 Q (.bool false) u27)))) ∧
 ((((((l4 : Nat) : Int)) : Int) == (((l9 : Nat) : Int))) = false →
 ∃ b32 o33 : Nat, (x0 : Option Addr) = some ⟨b32, o33, none⟩ ∧
 ∃ (a34 : Option Addr) (l35 c36 : Nat), PH.cell u b32 (o33 + 0) = some (.slice a34 l35 c36) ∧
 ∃ (I37 : Bool → Int → PH → Prop) (M38 : Bool → Int → PH → Nat), I37 false 0 u ∧
 ∀ b39 : Bool, ∀ n40 : Int, ∀ u41 : PH, I37 b39 n40 u41 →
 ((decide ((n40 : Int) < (((l35 : Nat) : Int)))) = true →
 ∃ b42 o43 : Nat, (a34 : Option Addr) = some ⟨b42, o43, none⟩ ∧ ((0 : Int) ≤ n40 ∧ (n40 : Int) < ((l35 : Nat) : Int)) ∧
 ∃ n44 : Int, ∃ n45 : Int, ∃ n46 : Int, ∃ n47 : Int, ∃ n48 : Int, ∃ n49 : Int, ∃ n50 : Int, ∃ n51 : Int, ∃ n52 : Int, ∃ n53 : Int, ∃ n54 : Int, ∃ b55 : Bool, ∃ n56 : Int, PH.cells u41 b42 (o43 + (n40 : Int).toNat * 13) [.int .i64 n44, .int .i64 n45, .int .i64 n46, .int .i64 n47, .int .i64 n48, .int .i64 n49, .int .i64 n50, .int .i64 n51, .int .i64 n52, .int .i64 n53, .int .i64 n54, .bool b55, .int .i64 n56] ∧
 Spec Try.prog 61 #[.pointer x1] u41 (fun v57 u58 =>
 ∃ p59 : Option Addr, v57 = .pointer p59 ∧
 Spec Try.prog 62 #[.pointer x0, .int .i64 n40] u58 (fun v60 u61 =>
 ∃ b62 : Bool, v60 = .bool b62 ∧
 ((!b62) = true →
 I37 b39 (IntKind.wrap .i64 (n40 + 1)) u61 ∧ M38 b39 (IntKind.wrap .i64 (n40 + 1)) u61 < M38 b39 n40 u41) ∧
 ((!b62) = false →
 Spec Try.prog 63 #[.pointer p59, .agg #[.int .i64 n44, .int .i64 n45, .int .i64 n46, .int .i64 n47, .int .i64 n48, .int .i64 n49, .int .i64 n50, .int .i64 n51, .int .i64 n52, .int .i64 n53, .int .i64 n54, .bool b55, .int .i64 n56]] u61 (fun v63 u64 =>
 ∃ b65 : Bool, v63 = .bool b65 ∧
 ((!b65) = true →
 I37 b39 (IntKind.wrap .i64 (n40 + 1)) u64 ∧ M38 b39 (IntKind.wrap .i64 (n40 + 1)) u64 < M38 b39 n40 u41) ∧
 ((!b65) = false →
 ∃ b66 o67 : Nat, (x0 : Option Addr) = some ⟨b66, o67, none⟩ ∧
 ∃ (a68 : Option Addr) (l69 c70 : Nat), PH.cell u64 b66 (o67 + 1) = some (.slice a68 l69 c70) ∧
 ∀ B71 : Nat, u64 B71 = none →
 SemSpec Try.prog (Builtin.append_ #[35, 35] 35 #[.slice a68 l69 c70, .slice ((some ⟨B71, 0, none⟩)) 1 1]) (PH.add u64 B71 (.cells #[.int .i64 n40] 3)) (fun v72 u73 =>
 ∃ (a74 : Option Addr) (l75 c76 : Nat), v72 = .slice a74 l75 c76 ∧
 ∃ b77 o78 : Nat, (x0 : Option Addr) = some ⟨b77, o78, none⟩ ∧
 PH.free u73 b77 (o78 + 1) 1 ∧
 Spec Try.prog 48 #[.pointer x0, .pointer p59, x2] (PH.write u73 b77 (o78 + 1) [.slice a74 l75 c76]) (fun v79 u80 =>
 ∃ b81 : Bool, v79 = .bool b81 ∧
 ∃ b82 o83 : Nat, (x0 : Option Addr) = some ⟨b82, o83, none⟩ ∧
 ∃ (a84 : Option Addr) (l85 c86 : Nat), PH.cell u80 b82 (o83 + 1) = some (.slice a84 l85 c86) ∧
 ∃ b87 o88 : Nat, (x0 : Option Addr) = some ⟨b87, o88, none⟩ ∧
 ∃ (a89 : Option Addr) (l90 c91 : Nat), PH.cell u80 b87 (o88 + 1) = some (.slice a89 l90 c91) ∧
 ((0 : Int) ≤ 0 ∧ (0 : Int) ≤ (IntKind.wrap .i64 ((((l90 : Nat) : Int)) - 1)) ∧ (IntKind.wrap .i64 ((((l90 : Nat) : Int)) - 1)) ≤ ((c86 : Nat) : Int)) ∧
 ∃ b92 o93 : Nat, (x0 : Option Addr) = some ⟨b92, o93, none⟩ ∧
 PH.free u80 b92 (o93 + 1) 1 ∧
 ((!b81) = true →
 Q (.bool false) (PH.write u80 b92 (o93 + 1) [.slice ((subA a84 (0 : Int).toNat c86 1)) ((((IntKind.wrap .i64 ((((l90 : Nat) : Int)) - 1)) : Int).toNat - (0 : Int).toNat)) ((c86 - (0 : Int).toNat))])) ∧
 ((!b81) = false →
 I37 b39 (IntKind.wrap .i64 (n40 + 1)) (PH.write u80 b92 (o93 + 1) [.slice ((subA a84 (0 : Int).toNat c86 1)) ((((IntKind.wrap .i64 ((((l90 : Nat) : Int)) - 1)) : Int).toNat - (0 : Int).toNat)) ((c86 - (0 : Int).toNat))]) ∧ M38 b39 (IntKind.wrap .i64 (n40 + 1)) (PH.write u80 b92 (o93 + 1) [.slice ((subA a84 (0 : Int).toNat c86 1)) ((((IntKind.wrap .i64 ((((l90 : Nat) : Int)) - 1)) : Int).toNat - (0 : Int).toNat)) ((c86 - (0 : Int).toNat))]) < M38 b39 n40 u41))))))))) ∧
 ((decide ((n40 : Int) < (((l35 : Nat) : Int)))) = false →
 Q (.bool true) u41)))
set_option maxRecDepth 100000 in
theorem f48_vc (x0 : Option Addr) (x1 : Option Addr) (x2 : Value) (hx2 : notAgg x2 = true) (u : PH) (Q : Value → PH → Prop) : fnVC Try.prog f48_h Try.f48 [.c (.v (.pointer x0)), .c (.v (.pointer x1)), .c (.vv ⟨x2, hx2⟩)] u Q = f48_V x0 x1 x2 hx2 u Q := by kernel_rfl
theorem f48_of {x0 : Option Addr} {x1 : Option Addr} {x2 : Value} {hx2 : notAgg x2 = true} {u : PH} {Q : Value → PH → Prop} (h : f48_V x0 x1 x2 hx2 u Q) : Spec Try.prog 48 #[.pointer x0, .pointer x1, x2] u Q :=
  spec_of_vc (H := f48_h) (ps := [.c (.v (.pointer x0)), .c (.v (.pointer x1)), .c (.vv ⟨x2, hx2⟩)]) Try.func48 rfl (by rw [f48_vc]; exact h)
/-- cortado/lossy.New -/
def f49_h : Hints := ⟨[], []⟩
set_option maxRecDepth 100000 in
def f49_V  (u : PH) (Q : Value → PH → Prop) : Prop :=
 (Spec Try.prog 64 #[] u (fun v1 u2 =>
 ∃ p3 : Option Addr, v1 = .pointer p3 ∧
 ∀ B4 : Nat, u2 B4 = none →
 Q (.pointer (some ⟨B4, 0, none⟩)) (PH.add u2 B4 (.cells #[.pointer p3, .bool false] 72))))
set_option maxRecDepth 100000 in
theorem f49_vc  (u : PH) (Q : Value → PH → Prop) : fnVC Try.prog f49_h Try.f49 [] u Q = f49_V  u Q := by kernel_rfl
theorem f49_of  {u : PH} {Q : Value → PH → Prop} (h : f49_V  u Q) : Spec Try.prog 49 #[] u Q :=
  spec_of_vc (H := f49_h) (ps := []) Try.func49 rfl (by rw [f49_vc]; exact h)
/-- cortado/lossy.Replay -/
def f51_h : Hints := ⟨[(3, ⟨[(2, .int .i64), (9, .int .i64)], [], []⟩)], []⟩
set_option maxRecDepth 100000 in
def f51_V (l : Option Addr) (l_l l_c : Nat) (u : PH) (Q : Value → PH → Prop) : Prop :=
 (Spec Try.prog 49 #[] u (fun v1 u2 =>
 ∃ p3 : Option Addr, v1 = .pointer p3 ∧
 ∃ (I4 : Int → Int → PH → Prop) (M5 : Int → Int → PH → Nat), I4 0 0 u2 ∧
 ∀ n6 : Int, ∀ n7 : Int, ∀ u8 : PH, I4 n6 n7 u8 →
 ((decide ((n7 : Int) < (((l_l : Nat) : Int)))) = true →
 ∃ b9 o10 : Nat, (l : Option Addr) = some ⟨b9, o10, none⟩ ∧ ((0 : Int) ≤ n7 ∧ (n7 : Int) < ((l_l : Nat) : Int)) ∧
 ∃ n11 : Int, ∃ n12 : Int, ∃ n13 : Int, ∃ n14 : Int, ∃ n15 : Int, ∃ n16 : Int, ∃ n17 : Int, ∃ n18 : Int, ∃ n19 : Int, ∃ n20 : Int, ∃ n21 : Int, ∃ b22 : Bool, ∃ n23 : Int, PH.cells u8 b9 (o10 + (n7 : Int).toNat * 13) [.int .i64 n11, .int .i64 n12, .int .i64 n13, .int .i64 n14, .int .i64 n15, .int .i64 n16, .int .i64 n17, .int .i64 n18, .int .i64 n19, .int .i64 n20, .int .i64 n21, .bool b22, .int .i64 n23] ∧
 Spec Try.prog 63 #[.pointer p3, .agg #[.int .i64 n11, .int .i64 n12, .int .i64 n13, .int .i64 n14, .int .i64 n15, .int .i64 n16, .int .i64 n17, .int .i64 n18, .int .i64 n19, .int .i64 n20, .int .i64 n21, .bool b22, .int .i64 n23]] u8 (fun v24 u25 =>
 ∃ b26 : Bool, v24 = .bool b26 ∧
 ((!b26) = true →
 Q (.int .i64 n7) u25) ∧
 ((!b26) = false →
 I4 n6 (IntKind.wrap .i64 (n7 + 1)) u25 ∧ M5 n6 (IntKind.wrap .i64 (n7 + 1)) u25 < M5 n6 n7 u8))) ∧
 ((decide ((n7 : Int) < (((l_l : Nat) : Int)))) = false →
 Q (.int .i64 (((l_l : Nat) : Int))) u8)))
set_option maxRecDepth 100000 in
theorem f51_vc (l : Option Addr) (l_l l_c : Nat) (u : PH) (Q : Value → PH → Prop) : fnVC Try.prog f51_h Try.f51 [.c (.v (.slice l l_l l_c))] u Q = f51_V l l_l l_c u Q := by kernel_rfl
theorem f51_of {l : Option Addr} {l_l l_c : Nat} {u : PH} {Q : Value → PH → Prop} (h : f51_V l l_l l_c u Q) : Spec Try.prog 51 #[.slice l l_l l_c] u Q :=
  spec_of_vc (H := f51_h) (ps := [.c (.v (.slice l l_l l_c))]) Try.func51 rfl (by rw [f51_vc]; exact h)
/-- cortado/cortadoref38.May -/
def f59_h : Hints := ⟨[], []⟩
set_option maxRecDepth 100000 in
def f59_V (x0 : Option Addr) (x0_l x0_c : Nat) (x1 : Call) (u : PH) (Q : Value → PH → Prop) : Prop :=
 ((((!(((x1.op.kind : Int) == 1) && x1.ok)) && ((x1.got : Int) != 0)) = true →
 Q (.bool false) u) ∧
 (((!(((x1.op.kind : Int) == 1) && x1.ok)) && ((x1.got : Int) != 0)) = false →
 Spec Try.prog 69 #[.slice x0 x0_l x0_c] u (fun v1 u2 =>
 ∃ b3 : Bool, v1 = .bool b3 ∧
 (b3 = true →
 Q (.bool (x1.ok == ((x1.op.kind : Int) == 6))) u2) ∧
 (b3 = false →
 (((x1.op.kind : Int) == 1) = true →
 Spec Try.prog 70 #[.slice x0 x0_l x0_c, .int .i64 x1.op.key, .int .i64 x1.tick] u2 (fun v4 u5 =>
 ∃ n6 : Int, ∃ b7 : Bool, v4 = .tuple #[.int .i64 n6, .bool b7] ∧
 Q (.bool ((!x1.ok) || (b7 && ((n6 : Int) == x1.got)))) u5)) ∧
 (((x1.op.kind : Int) == 1) = false →
 (((x1.op.kind : Int) == 2) = true →
 ((!x1.ok) = true →
 Q (.bool true) u2) ∧
 ((!x1.ok) = false →
 Spec Try.prog 71 #[.int .i64 x1.op.cost] u2 (fun v8 u9 =>
 ∃ b10 : Bool, v8 = .bool b10 ∧
 Q (.bool (b10 && (decide ((x1.op.ttl : Int) ≥ 0)))) u9))) ∧
 (((x1.op.kind : Int) == 2) = false →
 (((x1.op.kind : Int) == 7) = true →
 ∃ w11 : PH, Ext w11 u2 ∧
 (Spec Try.prog 71 #[.int .i64 x1.op.cost] u2 (fun v12 u13 =>
 ∃ b14 : Bool, v12 = .bool b14 ∧
 Ext w11 u13 ∧
 Q (.bool (x1.ok == b14)) u13))) ∧
 (((x1.op.kind : Int) == 7) = false →
 Q (.bool (x1.ok == ((decide ((x1.op.kind : Int) ≥ 3)) && (decide ((x1.op.kind : Int) ≤ 6))))) u2)))))))
set_option maxRecDepth 100000 in
theorem f59_vc (x0 : Option Addr) (x0_l x0_c : Nat) (x1 : Call) (u : PH) (Q : Value → PH → Prop) : fnVC Try.prog f59_h Try.f59 [.c (.v (.slice x0 x0_l x0_c)), .agg [.v (.int .i64 x1.client), .v (.int .i64 x1.id), .v (.int .i64 x1.op.kind), .v (.int .i64 x1.op.key), .v (.int .i64 x1.op.val), .v (.int .i64 x1.op.cost), .v (.int .i64 x1.op.ttl), .v (.int .i64 x1.beg), .v (.int .i64 x1.at_), .v (.int .i64 x1.end_), .v (.int .i64 x1.tick), .v (.bool x1.ok), .v (.int .i64 x1.got)]] u Q = f59_V x0 x0_l x0_c x1 u Q := by kernel_rfl
theorem f59_of {x0 : Option Addr} {x0_l x0_c : Nat} {x1 : Call} {u : PH} {Q : Value → PH → Prop} (h : f59_V x0 x0_l x0_c x1 u Q) : Spec Try.prog 59 #[.slice x0 x0_l x0_c, .agg #[.int .i64 x1.client, .int .i64 x1.id, .int .i64 x1.op.kind, .int .i64 x1.op.key, .int .i64 x1.op.val, .int .i64 x1.op.cost, .int .i64 x1.op.ttl, .int .i64 x1.beg, .int .i64 x1.at_, .int .i64 x1.end_, .int .i64 x1.tick, .bool x1.ok, .int .i64 x1.got]] u Q :=
  spec_of_vc (H := f59_h) (ps := [.c (.v (.slice x0 x0_l x0_c)), .agg [.v (.int .i64 x1.client), .v (.int .i64 x1.id), .v (.int .i64 x1.op.kind), .v (.int .i64 x1.op.key), .v (.int .i64 x1.op.val), .v (.int .i64 x1.op.cost), .v (.int .i64 x1.op.ttl), .v (.int .i64 x1.beg), .v (.int .i64 x1.at_), .v (.int .i64 x1.end_), .v (.int .i64 x1.tick), .v (.bool x1.ok), .v (.int .i64 x1.got)]]) Try.func59 rfl (by rw [f59_vc]; exact h)
/-- slices.Clone[[]int,int] -/
def f60_h : Hints := ⟨[], []⟩
set_option maxRecDepth 100000 in
def f60_V (s : Option Addr) (s_l s_c : Nat) (u : PH) (Q : Value → PH → Prop) : Prop :=
 (((Option.isNone s) = true →
 Q (.slice none 0 0) u) ∧
 ((Option.isNone s) = false →
 ∀ B1 : Nat, u B1 = none →
 SemSpec Try.prog (Builtin.append_ #[35, 35] 35 #[.slice ((some ⟨B1, 0, none⟩)) 0 0, .slice s s_l s_c]) (PH.add u B1 (.cells #[] 3)) (fun v2 u3 =>
 ∃ (a4 : Option Addr) (l5 c6 : Nat), v2 = .slice a4 l5 c6 ∧
 Q (.slice a4 l5 c6) u3)))
set_option maxRecDepth 100000 in
theorem f60_vc (s : Option Addr) (s_l s_c : Nat) (u : PH) (Q : Value → PH → Prop) : fnVC Try.prog f60_h Try.f60 [.c (.v (.slice s s_l s_c))] u Q = f60_V s s_l s_c u Q := by kernel_rfl
theorem f60_of {s : Option Addr} {s_l s_c : Nat} {u : PH} {Q : Value → PH → Prop} (h : f60_V s s_l s_c u Q) : Spec Try.prog 60 #[.slice s s_l s_c] u Q :=
  spec_of_vc (H := f60_h) (ps := [.c (.v (.slice s s_l s_c))]) Try.func60 rfl (by rw [f60_vc]; exact h)
/-- (*cortado/lossy.Map).Clone -/
def f61_h : Hints := ⟨[], []⟩
set_option maxRecDepth 100000 in
def f61_V (m : Option Addr) (u : PH) (Q : Value → PH → Prop) : Prop :=
 (((Option.isNone m) = true →
 Q (.pointer none) u) ∧
 ((Option.isNone m) = false →
 ∃ b1 o2 : Nat, (m : Option Addr) = some ⟨b1, o2, none⟩ ∧
 ∃ p3 : Option Addr, ∃ b4 : Bool, PH.cells u b1 o2 [.pointer p3, .bool b4] ∧
 ∀ B5 : Nat, u B5 = none →
 Q (.pointer (some ⟨B5, 0, none⟩)) (PH.add u B5 (.cells #[.pointer p3, .bool b4] 72))))
set_option maxRecDepth 100000 in
theorem f61_vc (m : Option Addr) (u : PH) (Q : Value → PH → Prop) : fnVC Try.prog f61_h Try.f61 [.c (.v (.pointer m))] u Q = f61_V m u Q := by kernel_rfl
theorem f61_of {m : Option Addr} {u : PH} {Q : Value → PH → Prop} (h : f61_V m u Q) : Spec Try.prog 61 #[.pointer m] u Q :=
  spec_of_vc (H := f61_h) (ps := [.c (.v (.pointer m))]) Try.func61 rfl (by rw [f61_vc]; exact h)
/-- (*cortado/search.seek).may -/
def f62_h : Hints := ⟨[(4, ⟨[(4, .bool), (18, .int .i64)], [], []⟩)], []⟩
set_option maxRecDepth 100000 in
def f62_V (s : Option Addr) (i : Int) (u : PH) (Q : Value → PH → Prop) : Prop :=
 (∃ b1 o2 : Nat, (s : Option Addr) = some ⟨b1, o2, none⟩ ∧
 ∃ (a3 : Option Addr) (l4 c5 : Nat), PH.cell u b1 (o2 + 1) = some (.slice a3 l4 c5) ∧
 Spec Try.prog 72 #[.slice a3 l4 c5, .int .i64 i] u (fun v6 u7 =>
 ∃ b8 : Bool, v6 = .bool b8 ∧
 (b8 = true →
 Q (.bool false) u7) ∧
 (b8 = false →
 ∃ b9 o10 : Nat, (s : Option Addr) = some ⟨b9, o10, none⟩ ∧
 ∃ (a11 : Option Addr) (l12 c13 : Nat), PH.cell u7 b9 (o10 + 0) = some (.slice a11 l12 c13) ∧
 ∃ (I14 : Bool → Int → PH → Prop) (M15 : Bool → Int → PH → Nat), I14 false 0 u7 ∧
 ∀ b16 : Bool, ∀ n17 : Int, ∀ u18 : PH, I14 b16 n17 u18 →
 ((decide ((n17 : Int) < (((l12 : Nat) : Int)))) = true →
 ∃ b19 o20 : Nat, (a11 : Option Addr) = some ⟨b19, o20, none⟩ ∧ ((0 : Int) ≤ n17 ∧ (n17 : Int) < ((l12 : Nat) : Int)) ∧
 ∃ n21 : Int, ∃ n22 : Int, ∃ n23 : Int, ∃ n24 : Int, ∃ n25 : Int, ∃ n26 : Int, ∃ n27 : Int, ∃ n28 : Int, ∃ n29 : Int, ∃ n30 : Int, ∃ n31 : Int, ∃ b32 : Bool, ∃ n33 : Int, PH.cells u18 b19 (o20 + (n17 : Int).toNat * 13) [.int .i64 n21, .int .i64 n22, .int .i64 n23, .int .i64 n24, .int .i64 n25, .int .i64 n26, .int .i64 n27, .int .i64 n28, .int .i64 n29, .int .i64 n30, .int .i64 n31, .bool b32, .int .i64 n33] ∧
 ∃ w34 : PH, Ext w34 u18 ∧
 ((((n17 : Int) != i) = true →
 ∃ b35 o36 : Nat, (s : Option Addr) = some ⟨b35, o36, none⟩ ∧
 ∃ (a37 : Option Addr) (l38 c39 : Nat), PH.cell w34 b35 (o36 + 1) = some (.slice a37 l38 c39) ∧
 Spec Try.prog 72 #[.slice a37 l38 c39, .int .i64 n17] u18 (fun v40 u41 =>
 ∃ b42 : Bool, v40 = .bool b42 ∧
 Ext w34 u41 ∧
 ((!b42) = true →
 ∃ b43 o44 : Nat, (s : Option Addr) = some ⟨b43, o44, none⟩ ∧
 (Ext w34 u41 ∧
 ∃ (a45 : Option Addr) (l46 c47 : Nat), PH.cell u41 b43 (o44 + 0) = some (.slice a45 l46 c47) ∧
 Ext w34 u41 ∧
 ∃ b48 o49 : Nat, (a45 : Option Addr) = some ⟨b48, o49, none⟩ ∧ ((0 : Int) ≤ i ∧ (i : Int) < ((l46 : Nat) : Int)) ∧
 ∃ n50 : Int, ∃ n51 : Int, ∃ n52 : Int, ∃ n53 : Int, ∃ n54 : Int, ∃ n55 : Int, ∃ n56 : Int, ∃ n57 : Int, ∃ n58 : Int, ∃ n59 : Int, ∃ n60 : Int, ∃ b61 : Bool, ∃ n62 : Int, PH.cells u41 b48 (o49 + (i : Int).toNat * 13) [.int .i64 n50, .int .i64 n51, .int .i64 n52, .int .i64 n53, .int .i64 n54, .int .i64 n55, .int .i64 n56, .int .i64 n57, .int .i64 n58, .int .i64 n59, .int .i64 n60, .bool b61, .int .i64 n62] ∧
 Ext w34 u41 ∧
 Spec Try.prog 7 #[.agg #[.int .i64 n21, .int .i64 n22, .int .i64 n23, .int .i64 n24, .int .i64 n25, .int .i64 n26, .int .i64 n27, .int .i64 n28, .int .i64 n29, .int .i64 n30, .int .i64 n31, .bool b32, .int .i64 n33], .agg #[.int .i64 n50, .int .i64 n51, .int .i64 n52, .int .i64 n53, .int .i64 n54, .int .i64 n55, .int .i64 n56, .int .i64 n57, .int .i64 n58, .int .i64 n59, .int .i64 n60, .bool b61, .int .i64 n62]] u41 (fun v63 u64 =>
 ∃ b65 : Bool, v63 = .bool b65 ∧
 Ext w34 u64 ∧
 (b65 = true →
 Q (.bool false) u64) ∧
 (b65 = false →
 I14 b16 (IntKind.wrap .i64 (n17 + 1)) u64 ∧ M15 b16 (IntKind.wrap .i64 (n17 + 1)) u64 < M15 b16 n17 u18)))
 ∧ (∃ (a66 : Option Addr) (l67 c68 : Nat), PH.cell u41 b43 (o44 + 0) = some (.slice a66 l67 c68) ∧
 Ext w34 u41 ∧
 ∃ b69 o70 : Nat, (a66 : Option Addr) = some ⟨b69, o70, none⟩ ∧ ((0 : Int) ≤ i ∧ (i : Int) < ((l67 : Nat) : Int)) ∧
 (Ext w34 u41 ∧
 ∃ n71 : Int, ∃ n72 : Int, ∃ n73 : Int, ∃ n74 : Int, ∃ n75 : Int, ∃ n76 : Int, ∃ n77 : Int, ∃ n78 : Int, ∃ n79 : Int, ∃ n80 : Int, ∃ n81 : Int, ∃ b82 : Bool, ∃ n83 : Int, PH.cells u41 b69 (o70 + (i : Int).toNat * 13) [.int .i64 n71, .int .i64 n72, .int .i64 n73, .int .i64 n74, .int .i64 n75, .int .i64 n76, .int .i64 n77, .int .i64 n78, .int .i64 n79, .int .i64 n80, .int .i64 n81, .bool b82, .int .i64 n83] ∧
 Ext w34 u41 ∧
 Spec Try.prog 7 #[.agg #[.int .i64 n21, .int .i64 n22, .int .i64 n23, .int .i64 n24, .int .i64 n25, .int .i64 n26, .int .i64 n27, .int .i64 n28, .int .i64 n29, .int .i64 n30, .int .i64 n31, .bool b32, .int .i64 n33], .agg #[.int .i64 n71, .int .i64 n72, .int .i64 n73, .int .i64 n74, .int .i64 n75, .int .i64 n76, .int .i64 n77, .int .i64 n78, .int .i64 n79, .int .i64 n80, .int .i64 n81, .bool b82, .int .i64 n83]] u41 (fun v84 u85 =>
 ∃ b86 : Bool, v84 = .bool b86 ∧
 Ext w34 u85 ∧
 (b86 = true →
 Q (.bool false) u85) ∧
 (b86 = false →
 I14 b16 (IntKind.wrap .i64 (n17 + 1)) u85 ∧ M15 b16 (IntKind.wrap .i64 (n17 + 1)) u85 < M15 b16 n17 u18)))
 ∧ (∃ n87 : Int, ∃ n88 : Int, ∃ n89 : Int, ∃ n90 : Int, ∃ n91 : Int, ∃ n92 : Int, ∃ n93 : Int, ∃ n94 : Int, ∃ n95 : Int, ∃ n96 : Int, ∃ n97 : Int, ∃ b98 : Bool, ∃ n99 : Int, PH.cells u41 b69 (o70 + (i : Int).toNat * 13) [.int .i64 n87, .int .i64 n88, .int .i64 n89, .int .i64 n90, .int .i64 n91, .int .i64 n92, .int .i64 n93, .int .i64 n94, .int .i64 n95, .int .i64 n96, .int .i64 n97, .bool b98, .int .i64 n99] ∧
 Ext w34 u41 ∧
 Ext w34 u41 ∧
 Spec Try.prog 7 #[.agg #[.int .i64 n21, .int .i64 n22, .int .i64 n23, .int .i64 n24, .int .i64 n25, .int .i64 n26, .int .i64 n27, .int .i64 n28, .int .i64 n29, .int .i64 n30, .int .i64 n31, .bool b32, .int .i64 n33], .agg #[.int .i64 n87, .int .i64 n88, .int .i64 n89, .int .i64 n90, .int .i64 n91, .int .i64 n92, .int .i64 n93, .int .i64 n94, .int .i64 n95, .int .i64 n96, .int .i64 n97, .bool b98, .int .i64 n99]] u41 (fun v100 u101 =>
 ∃ b102 : Bool, v100 = .bool b102 ∧
 Ext w34 u101 ∧
 (b102 = true →
 Q (.bool false) u101) ∧
 (b102 = false →
 I14 b16 (IntKind.wrap .i64 (n17 + 1)) u101 ∧ M15 b16 (IntKind.wrap .i64 (n17 + 1)) u101 < M15 b16 n17 u18))))) ∧
 ((!b42) = false →
 (Ext w34 u41 ∧
 Ext w34 u41 ∧
 Ext w34 u41 ∧
 Ext w34 u41 ∧
 I14 b16 (IntKind.wrap .i64 (n17 + 1)) u41 ∧ M15 b16 (IntKind.wrap .i64 (n17 + 1)) u41 < M15 b16 n17 u18)
 ∧ (Ext w34 u41 ∧
 (Ext w34 u41 ∧
 Ext w34 u41 ∧
 Ext w34 u41 ∧
 I14 b16 (IntKind.wrap .i64 (n17 + 1)) u41 ∧ M15 b16 (IntKind.wrap .i64 (n17 + 1)) u41 < M15 b16 n17 u18)
 ∧ (Ext w34 u41 ∧
 Ext w34 u41 ∧
 Ext w34 u41 ∧
 I14 b16 (IntKind.wrap .i64 (n17 + 1)) u41 ∧ M15 b16 (IntKind.wrap .i64 (n17 + 1)) u41 < M15 b16 n17 u18))))) ∧
 (((n17 : Int) != i) = false →
 Ext w34 u18 ∧
 (Ext w34 u18 ∧
 Ext w34 u18 ∧
 Ext w34 u18 ∧
 Ext w34 u18 ∧
 I14 b16 (IntKind.wrap .i64 (n17 + 1)) u18 ∧ M15 b16 (IntKind.wrap .i64 (n17 + 1)) u18 < M15 b16 n17 u18)
 ∧ (Ext w34 u18 ∧
 (Ext w34 u18 ∧
 Ext w34 u18 ∧
 Ext w34 u18 ∧
 I14 b16 (IntKind.wrap .i64 (n17 + 1)) u18 ∧ M15 b16 (IntKind.wrap .i64 (n17 + 1)) u18 < M15 b16 n17 u18)
 ∧ (Ext w34 u18 ∧
 Ext w34 u18 ∧
 Ext w34 u18 ∧
 I14 b16 (IntKind.wrap .i64 (n17 + 1)) u18 ∧ M15 b16 (IntKind.wrap .i64 (n17 + 1)) u18 < M15 b16 n17 u18))))) ∧
 ((decide ((n17 : Int) < (((l12 : Nat) : Int)))) = false →
 Q (.bool true) u18))))
set_option maxRecDepth 100000 in
theorem f62_vc (s : Option Addr) (i : Int) (u : PH) (Q : Value → PH → Prop) : fnVC Try.prog f62_h Try.f62 [.c (.v (.pointer s)), .c (.v (.int .i64 i))] u Q = f62_V s i u Q := by kernel_rfl
theorem f62_of {s : Option Addr} {i : Int} {u : PH} {Q : Value → PH → Prop} (h : f62_V s i u Q) : Spec Try.prog 62 #[.pointer s, .int .i64 i] u Q :=
  spec_of_vc (H := f62_h) (ps := [.c (.v (.pointer s)), .c (.v (.int .i64 i))]) Try.func62 rfl (by rw [f62_vc]; exact h)
/-- (*cortado/lossy.Map).Do -/
def f63_h : Hints := ⟨[], []⟩
set_option maxRecDepth 100000 in
def f63_V (x0 : Option Addr) (x1 : Call) (u : PH) (Q : Value → PH → Prop) : Prop :=
 (Spec Try.prog 73 #[.pointer x0, .agg #[.int .i64 x1.client, .int .i64 x1.id, .int .i64 x1.op.kind, .int .i64 x1.op.key, .int .i64 x1.op.val, .int .i64 x1.op.cost, .int .i64 x1.op.ttl, .int .i64 x1.beg, .int .i64 x1.at_, .int .i64 x1.end_, .int .i64 x1.tick, .bool x1.ok, .int .i64 x1.got]] u (fun v1 u2 =>
 ∃ b3 : Bool, v1 = .bool b3 ∧
 ((!b3) = true →
 Q (.bool false) u2) ∧
 ((!b3) = false →
 ((!x1.ok) = true →
 Q (.bool true) u2) ∧
 ((!x1.ok) = false →
 (((x1.op.kind : Int) == 2) = true →
 Spec Try.prog 74 #[.int .i64 x1.tick, .int .i64 x1.op.ttl] u2 (fun v4 u5 =>
 ∃ n6 : Int, ∃ b7 : Bool, v4 = .tuple #[.int .i64 n6, .bool b7] ∧
 ∃ w8 : PH, Ext w8 u5 ∧
 (∃ b9 o10 : Nat, (x0 : Option Addr) = some ⟨b9, o10, none⟩ ∧
 ∃ p11 : Option Addr, PH.cell w8 b9 (o10 + 0) = some (.pointer p11) ∧
 Spec Try.prog 75 #[.pointer p11, .int .i64 x1.op.key, .agg #[.int .i64 x1.op.val, .int .i64 n6]] u5 (fun v12 u13 =>
 ∃ p14 : Option Addr, v12 = .pointer p14 ∧
 Ext w8 u13 ∧
 ∃ b15 o16 : Nat, (x0 : Option Addr) = some ⟨b15, o16, none⟩ ∧
 PH.free u13 b15 (o16 + 0) 1 ∧
 Q (.bool true) (PH.write u13 b15 (o16 + 0) [.pointer p14]))))) ∧
 (((x1.op.kind : Int) == 2) = false →
 (((x1.op.kind : Int) == 3) = true →
 ∃ b17 o18 : Nat, (x0 : Option Addr) = some ⟨b17, o18, none⟩ ∧
 ∃ p19 : Option Addr, PH.cell u2 b17 (o18 + 0) = some (.pointer p19) ∧
 Spec Try.prog 76 #[.pointer p19, .int .i64 x1.op.key] u2 (fun v20 u21 =>
 ∃ p22 : Option Addr, v20 = .pointer p22 ∧
 ∃ b23 o24 : Nat, (x0 : Option Addr) = some ⟨b23, o24, none⟩ ∧
 PH.free u21 b23 (o24 + 0) 1 ∧
 Q (.bool true) (PH.write u21 b23 (o24 + 0) [.pointer p22]))) ∧
 (((x1.op.kind : Int) == 3) = false →
 (((x1.op.kind : Int) == 6) = true →
 ∃ b25 o26 : Nat, (x0 : Option Addr) = some ⟨b25, o26, none⟩ ∧
 PH.free u2 b25 (o26 + 1) 1 ∧
 Spec Try.prog 64 #[] (PH.write u2 b25 (o26 + 1) [.bool true]) (fun v27 u28 =>
 ∃ p29 : Option Addr, v27 = .pointer p29 ∧
 ∃ b30 o31 : Nat, (x0 : Option Addr) = some ⟨b30, o31, none⟩ ∧
 PH.free u28 b30 (o31 + 0) 1 ∧
 Q (.bool true) (PH.write u28 b30 (o31 + 0) [.pointer p29]))) ∧
 (((x1.op.kind : Int) == 6) = false →
 (((x1.op.kind : Int) == 5) = true →
 Spec Try.prog 64 #[] u2 (fun v32 u33 =>
 ∃ p34 : Option Addr, v32 = .pointer p34 ∧
 ∃ b35 o36 : Nat, (x0 : Option Addr) = some ⟨b35, o36, none⟩ ∧
 PH.free u33 b35 (o36 + 0) 1 ∧
 Q (.bool true) (PH.write u33 b35 (o36 + 0) [.pointer p34]))) ∧
 (((x1.op.kind : Int) == 5) = false →
 Q (.bool true) u2))))))))
set_option maxRecDepth 100000 in
theorem f63_vc (x0 : Option Addr) (x1 : Call) (u : PH) (Q : Value → PH → Prop) : fnVC Try.prog f63_h Try.f63 [.c (.v (.pointer x0)), .agg [.v (.int .i64 x1.client), .v (.int .i64 x1.id), .v (.int .i64 x1.op.kind), .v (.int .i64 x1.op.key), .v (.int .i64 x1.op.val), .v (.int .i64 x1.op.cost), .v (.int .i64 x1.op.ttl), .v (.int .i64 x1.beg), .v (.int .i64 x1.at_), .v (.int .i64 x1.end_), .v (.int .i64 x1.tick), .v (.bool x1.ok), .v (.int .i64 x1.got)]] u Q = f63_V x0 x1 u Q := by kernel_rfl
theorem f63_of {x0 : Option Addr} {x1 : Call} {u : PH} {Q : Value → PH → Prop} (h : f63_V x0 x1 u Q) : Spec Try.prog 63 #[.pointer x0, .agg #[.int .i64 x1.client, .int .i64 x1.id, .int .i64 x1.op.kind, .int .i64 x1.op.key, .int .i64 x1.op.val, .int .i64 x1.op.cost, .int .i64 x1.op.ttl, .int .i64 x1.beg, .int .i64 x1.at_, .int .i64 x1.end_, .int .i64 x1.tick, .bool x1.ok, .int .i64 x1.got]] u Q :=
  spec_of_vc (H := f63_h) (ps := [.c (.v (.pointer x0)), .agg [.v (.int .i64 x1.client), .v (.int .i64 x1.id), .v (.int .i64 x1.op.kind), .v (.int .i64 x1.op.key), .v (.int .i64 x1.op.val), .v (.int .i64 x1.op.cost), .v (.int .i64 x1.op.ttl), .v (.int .i64 x1.beg), .v (.int .i64 x1.at_), .v (.int .i64 x1.end_), .v (.int .i64 x1.tick), .v (.bool x1.ok), .v (.int .i64 x1.got)]]) Try.func63 rfl (by rw [f63_vc]; exact h)
/-- cortado/lossy.none -/
def f64_h : Hints := ⟨[], []⟩
set_option maxRecDepth 100000 in
def f64_V  (u : PH) (Q : Value → PH → Prop) : Prop :=
 (Spec Try.prog 77 #[.func (.func 58) #[] #[]] u (fun v1 u2 =>
 ∃ p3 : Option Addr, v1 = .pointer p3 ∧
 Q (.pointer p3) u2))
set_option maxRecDepth 100000 in
theorem f64_vc  (u : PH) (Q : Value → PH → Prop) : fnVC Try.prog f64_h Try.f64 [] u Q = f64_V  u Q := by kernel_rfl
theorem f64_of  {u : PH} {Q : Value → PH → Prop} (h : f64_V  u Q) : Spec Try.prog 64 #[] u Q :=
  spec_of_vc (H := f64_h) (ps := []) Try.func64 rfl (by rw [f64_vc]; exact h)
/-- cortado/cortadoref38.Closed -/
def f69_h : Hints := ⟨[(2, ⟨[(2, .bool), (3, .int .i64)], [], []⟩)], []⟩
set_option maxRecDepth 100000 in
def f69_V (l : Option Addr) (l_l l_c : Nat) (u : PH) (Q : Value → PH → Prop) : Prop :=
 (∃ (I1 : Bool → Int → PH → Prop) (M2 : Bool → Int → PH → Nat), I1 false 0 u ∧
 ∀ b3 : Bool, ∀ n4 : Int, ∀ u5 : PH, I1 b3 n4 u5 →
 ((decide ((n4 : Int) < (((l_l : Nat) : Int)))) = true →
 ∃ b6 o7 : Nat, (l : Option Addr) = some ⟨b6, o7, none⟩ ∧ ((0 : Int) ≤ n4 ∧ (n4 : Int) < ((l_l : Nat) : Int)) ∧
 ∃ n8 : Int, PH.cell u5 b6 (o7 + (n4 : Int).toNat * 13 + 2 + 0) = some (.int .i64 n8) ∧
 (((n8 : Int) == 6) = true →
 ∃ b9 o10 : Nat, (l : Option Addr) = some ⟨b9, o10, none⟩ ∧ ((0 : Int) ≤ n4 ∧ (n4 : Int) < ((l_l : Nat) : Int)) ∧
 ∃ b11 : Bool, PH.cell u5 b9 (o10 + (n4 : Int).toNat * 13 + 11) = some (.bool b11) ∧
 (b11 = true →
 Q (.bool true) u5) ∧
 (b11 = false →
 I1 b3 (IntKind.wrap .i64 (n4 + 1)) u5 ∧ M2 b3 (IntKind.wrap .i64 (n4 + 1)) u5 < M2 b3 n4 u5)) ∧
 (((n8 : Int) == 6) = false →
 I1 b3 (IntKind.wrap .i64 (n4 + 1)) u5 ∧ M2 b3 (IntKind.wrap .i64 (n4 + 1)) u5 < M2 b3 n4 u5)) ∧
 ((decide ((n4 : Int) < (((l_l : Nat) : Int)))) = false →
 Q (.bool false) u5))
set_option maxRecDepth 100000 in
theorem f69_vc (l : Option Addr) (l_l l_c : Nat) (u : PH) (Q : Value → PH → Prop) : fnVC Try.prog f69_h Try.f69 [.c (.v (.slice l l_l l_c))] u Q = f69_V l l_l l_c u Q := by kernel_rfl
theorem f69_of {l : Option Addr} {l_l l_c : Nat} {u : PH} {Q : Value → PH → Prop} (h : f69_V l l_l l_c u Q) : Spec Try.prog 69 #[.slice l l_l l_c] u Q :=
  spec_of_vc (H := f69_h) (ps := [.c (.v (.slice l l_l l_c))]) Try.func69 rfl (by rw [f69_vc]; exact h)
/-- cortado/cortadoref38.Get -/
def f70_h : Hints := ⟨[], []⟩
set_option maxRecDepth 100000 in
def f70_V (l : Option Addr) (l_l l_c : Nat) (key : Int) (now : Int) (u : PH) (Q : Value → PH → Prop) : Prop :=
 (Spec Try.prog 83 #[.slice l l_l l_c, .int .i64 key] u (fun v1 u2 =>
 ∃ n3 : Int, ∃ n4 : Int, ∃ b5 : Bool, v1 = .tuple #[.int .i64 n3, .int .i64 n4, .bool b5] ∧
 ((!b5) = true →
 Q (.tuple #[.int .i64 0, .bool false]) u2) ∧
 ((!b5) = false →
 Spec Try.prog 84 #[.int .i64 n4, .int .i64 now] u2 (fun v6 u7 =>
 ∃ b8 : Bool, v6 = .bool b8 ∧
 (b8 = true →
 Q (.tuple #[.int .i64 0, .bool false]) u7) ∧
 (b8 = false →
 Q (.tuple #[.int .i64 n3, .bool true]) u7)))))
set_option maxRecDepth 100000 in
theorem f70_vc (l : Option Addr) (l_l l_c : Nat) (key : Int) (now : Int) (u : PH) (Q : Value → PH → Prop) : fnVC Try.prog f70_h Try.f70 [.c (.v (.slice l l_l l_c)), .c (.v (.int .i64 key)), .c (.v (.int .i64 now))] u Q = f70_V l l_l l_c key now u Q := by kernel_rfl
theorem f70_of {l : Option Addr} {l_l l_c : Nat} {key : Int} {now : Int} {u : PH} {Q : Value → PH → Prop} (h : f70_V l l_l l_c key now u Q) : Spec Try.prog 70 #[.slice l l_l l_c, .int .i64 key, .int .i64 now] u Q :=
  spec_of_vc (H := f70_h) (ps := [.c (.v (.slice l l_l l_c)), .c (.v (.int .i64 key)), .c (.v (.int .i64 now))]) Try.func70 rfl (by rw [f70_vc]; exact h)
/-- cortado/cortadoref02.Right -/
def f71_h : Hints := ⟨[], []⟩
set_option maxRecDepth 100000 in
def f71_V (n : Int) (u : PH) (Q : Value → PH → Prop) : Prop :=
 (Q (.bool ((decide ((n : Int) ≥ 0)) && (decide ((n : Int) ≤ 4611686018427387904)))) u)
set_option maxRecDepth 100000 in
theorem f71_vc (n : Int) (u : PH) (Q : Value → PH → Prop) : fnVC Try.prog f71_h Try.f71 [.c (.v (.int .i64 n))] u Q = f71_V n u Q := by kernel_rfl
theorem f71_of {n : Int} {u : PH} {Q : Value → PH → Prop} (h : f71_V n u Q) : Spec Try.prog 71 #[.int .i64 n] u Q :=
  spec_of_vc (H := f71_h) (ps := [.c (.v (.int .i64 n))]) Try.func71 rfl (by rw [f71_vc]; exact h)
/-- slices.Contains[[]int,int] -/
def f72_h : Hints := ⟨[], []⟩
set_option maxRecDepth 100000 in
def f72_V (s : Option Addr) (s_l s_c : Nat) (v : Int) (u : PH) (Q : Value → PH → Prop) : Prop :=
 (Spec Try.prog 85 #[.slice s s_l s_c, .int .i64 v] u (fun v1 u2 =>
 ∃ n3 : Int, v1 = .int .i64 n3 ∧
 Q (.bool (decide ((n3 : Int) ≥ 0))) u2))
set_option maxRecDepth 100000 in
theorem f72_vc (s : Option Addr) (s_l s_c : Nat) (v : Int) (u : PH) (Q : Value → PH → Prop) : fnVC Try.prog f72_h Try.f72 [.c (.v (.slice s s_l s_c)), .c (.v (.int .i64 v))] u Q = f72_V s s_l s_c v u Q := by kernel_rfl
theorem f72_of {s : Option Addr} {s_l s_c : Nat} {v : Int} {u : PH} {Q : Value → PH → Prop} (h : f72_V s s_l s_c v u Q) : Spec Try.prog 72 #[.slice s s_l s_c, .int .i64 v] u Q :=
  spec_of_vc (H := f72_h) (ps := [.c (.v (.slice s s_l s_c)), .c (.v (.int .i64 v))]) Try.func72 rfl (by rw [f72_vc]; exact h)
/-- (*cortado/lossy.Map).May -/
def f73_h : Hints := ⟨[], []⟩
set_option maxRecDepth 100000 in
def f73_V (m : Option Addr) (c : Call) (u : PH) (Q : Value → PH → Prop) : Prop :=
 (((Option.isNone m) = true →
 Q (.bool false) u) ∧
 ((Option.isNone m) = false →
 Spec Try.prog 86 #[.pointer m, .agg #[.int .i64 c.client, .int .i64 c.id, .int .i64 c.op.kind, .int .i64 c.op.key, .int .i64 c.op.val, .int .i64 c.op.cost, .int .i64 c.op.ttl, .int .i64 c.beg, .int .i64 c.at_, .int .i64 c.end_, .int .i64 c.tick, .bool c.ok, .int .i64 c.got]] u (fun v1 u2 =>
 ∃ b3 : Bool, ∃ b4 : Bool, v1 = .tuple #[.bool b3, .bool b4] ∧
 ((b4 && (!(c.ok == b3))) = true →
 Q (.bool false) u2) ∧
 ((b4 && (!(c.ok == b3))) = false →
 ((((c.op.kind : Int) != 1) || (!c.ok)) = true →
 Q (.bool ((c.got : Int) == 0)) u2) ∧
 ((((c.op.kind : Int) != 1) || (!c.ok)) = false →
 Spec Try.prog 87 #[.pointer m, .int .i64 c.op.key, .int .i64 c.tick] u2 (fun v5 u6 =>
 ∃ n7 : Int, ∃ b8 : Bool, v5 = .tuple #[.int .i64 n7, .bool b8] ∧
 Q (.bool (b8 && ((n7 : Int) == c.got))) u6))))))
set_option maxRecDepth 100000 in
theorem f73_vc (m : Option Addr) (c : Call) (u : PH) (Q : Value → PH → Prop) : fnVC Try.prog f73_h Try.f73 [.c (.v (.pointer m)), .agg [.v (.int .i64 c.client), .v (.int .i64 c.id), .v (.int .i64 c.op.kind), .v (.int .i64 c.op.key), .v (.int .i64 c.op.val), .v (.int .i64 c.op.cost), .v (.int .i64 c.op.ttl), .v (.int .i64 c.beg), .v (.int .i64 c.at_), .v (.int .i64 c.end_), .v (.int .i64 c.tick), .v (.bool c.ok), .v (.int .i64 c.got)]] u Q = f73_V m c u Q := by kernel_rfl
theorem f73_of {m : Option Addr} {c : Call} {u : PH} {Q : Value → PH → Prop} (h : f73_V m c u Q) : Spec Try.prog 73 #[.pointer m, .agg #[.int .i64 c.client, .int .i64 c.id, .int .i64 c.op.kind, .int .i64 c.op.key, .int .i64 c.op.val, .int .i64 c.op.cost, .int .i64 c.op.ttl, .int .i64 c.beg, .int .i64 c.at_, .int .i64 c.end_, .int .i64 c.tick, .bool c.ok, .int .i64 c.got]] u Q :=
  spec_of_vc (H := f73_h) (ps := [.c (.v (.pointer m)), .agg [.v (.int .i64 c.client), .v (.int .i64 c.id), .v (.int .i64 c.op.kind), .v (.int .i64 c.op.key), .v (.int .i64 c.op.val), .v (.int .i64 c.op.cost), .v (.int .i64 c.op.ttl), .v (.int .i64 c.beg), .v (.int .i64 c.at_), .v (.int .i64 c.end_), .v (.int .i64 c.tick), .v (.bool c.ok), .v (.int .i64 c.got)]]) Try.func73 rfl (by rw [f73_vc]; exact h)
/-- cortado/clock.End -/
def f74_h : Hints := ⟨[], []⟩
set_option maxRecDepth 100000 in
def f74_V (now : Int) (ttl : Int) (u : PH) (Q : Value → PH → Prop) : Prop :=
 ((((ttl : Int) == 0) = true →
 Q (.tuple #[.int .i64 0, .bool true]) u) ∧
 (((ttl : Int) == 0) = false →
 ((decide ((ttl : Int) < 0)) = true →
 Q (.tuple #[.int .i64 0, .bool false]) u) ∧
 ((decide ((ttl : Int) < 0)) = false →
 Spec Try.prog 89 #[.int .i64 now] u (fun v1 u2 =>
 ∃ n3 : Int, v1 = .int .i64 n3 ∧
 Spec Try.prog 88 #[.int .i64 n3, .int .i64 ttl] u2 (fun v4 u5 =>
 ∃ n6 : Int, v4 = .int .i64 n6 ∧
 Q (.tuple #[.int .i64 n6, .bool true]) u5)))))
set_option maxRecDepth 100000 in
theorem f74_vc (now : Int) (ttl : Int) (u : PH) (Q : Value → PH → Prop) : fnVC Try.prog f74_h Try.f74 [.c (.v (.int .i64 now)), .c (.v (.int .i64 ttl))] u Q = f74_V now ttl u Q := by kernel_rfl
theorem f74_of {now : Int} {ttl : Int} {u : PH} {Q : Value → PH → Prop} (h : f74_V now ttl u Q) : Spec Try.prog 74 #[.int .i64 now, .int .i64 ttl] u Q :=
  spec_of_vc (H := f74_h) (ps := [.c (.v (.int .i64 now)), .c (.v (.int .i64 ttl))]) Try.func74 rfl (by rw [f74_vc]; exact h)
/-- (*cortado/rank.Tree[int, cortado/lossy.thing]).Put -/
def f75_h : Hints := ⟨[], []⟩
set_option maxRecDepth 100000 in
def f75_V (t : Option Addr) (k : Int) (v_0 : Int) (v_1 : Int) (u : PH) (Q : Value → PH → Prop) : Prop :=
 (((Option.isNone t) = true →
 Q (.pointer none) u) ∧
 ((Option.isNone t) = false →
 ∃ w1 : PH, Ext w1 u ∧
 (∃ b2 o3 : Nat, (t : Option Addr) = some ⟨b2, o3, none⟩ ∧
 ∃ (v4 : Value) (h5 : notAgg v4 = true), PH.cell w1 b2 (o3 + 0) = some (v4) ∧
 ∃ b6 o7 : Nat, (t : Option Addr) = some ⟨b6, o7, none⟩ ∧
 ∃ p8 : Option Addr, PH.cell w1 b6 (o7 + 1) = some (.pointer p8) ∧
 Spec Try.prog 90 #[.pointer t, .pointer p8, .int .i64 k, .agg #[.int .i64 v_0, .int .i64 v_1]] u (fun v9 u10 =>
 ∃ p11 : Option Addr, v9 = .pointer p11 ∧
 Ext w1 u10 ∧
 Ext w1 u10 ∧
 ∀ B12 : Nat, u10 B12 = none →
 Q (.pointer (some ⟨B12, 0, none⟩)) (PH.add u10 B12 (.cells #[v4, .pointer p11] 103))))))
set_option maxRecDepth 100000 in
theorem f75_vc (t : Option Addr) (k : Int) (v_0 : Int) (v_1 : Int) (u : PH) (Q : Value → PH → Prop) : fnVC Try.prog f75_h Try.f75 [.c (.v (.pointer t)), .c (.v (.int .i64 k)), .agg [.v (.int .i64 v_0), .v (.int .i64 v_1)]] u Q = f75_V t k v_0 v_1 u Q := by kernel_rfl
theorem f75_of {t : Option Addr} {k : Int} {v_0 : Int} {v_1 : Int} {u : PH} {Q : Value → PH → Prop} (h : f75_V t k v_0 v_1 u Q) : Spec Try.prog 75 #[.pointer t, .int .i64 k, .agg #[.int .i64 v_0, .int .i64 v_1]] u Q :=
  spec_of_vc (H := f75_h) (ps := [.c (.v (.pointer t)), .c (.v (.int .i64 k)), .agg [.v (.int .i64 v_0), .v (.int .i64 v_1)]]) Try.func75 rfl (by rw [f75_vc]; exact h)
/-- (*cortado/rank.Tree[int, cortado/lossy.thing]).Drop -/
def f76_h : Hints := ⟨[], []⟩
set_option maxRecDepth 100000 in
def f76_V (t : Option Addr) (k : Int) (u : PH) (Q : Value → PH → Prop) : Prop :=
 (((Option.isNone t) = true →
 Q (.pointer none) u) ∧
 ((Option.isNone t) = false →
 ∃ w1 : PH, Ext w1 u ∧
 (∃ b2 o3 : Nat, (t : Option Addr) = some ⟨b2, o3, none⟩ ∧
 ∃ (v4 : Value) (h5 : notAgg v4 = true), PH.cell w1 b2 (o3 + 0) = some (v4) ∧
 ∃ b6 o7 : Nat, (t : Option Addr) = some ⟨b6, o7, none⟩ ∧
 ∃ p8 : Option Addr, PH.cell w1 b6 (o7 + 1) = some (.pointer p8) ∧
 Spec Try.prog 91 #[.pointer t, .pointer p8, .int .i64 k] u (fun v9 u10 =>
 ∃ p11 : Option Addr, v9 = .pointer p11 ∧
 Ext w1 u10 ∧
 Ext w1 u10 ∧
 ∀ B12 : Nat, u10 B12 = none →
 Q (.pointer (some ⟨B12, 0, none⟩)) (PH.add u10 B12 (.cells #[v4, .pointer p11] 103))))))
set_option maxRecDepth 100000 in
theorem f76_vc (t : Option Addr) (k : Int) (u : PH) (Q : Value → PH → Prop) : fnVC Try.prog f76_h Try.f76 [.c (.v (.pointer t)), .c (.v (.int .i64 k))] u Q = f76_V t k u Q := by kernel_rfl
theorem f76_of {t : Option Addr} {k : Int} {u : PH} {Q : Value → PH → Prop} (h : f76_V t k u Q) : Spec Try.prog 76 #[.pointer t, .int .i64 k] u Q :=
  spec_of_vc (H := f76_h) (ps := [.c (.v (.pointer t)), .c (.v (.int .i64 k))]) Try.func76 rfl (by rw [f76_vc]; exact h)
/-- cortado/rank.New[int,cortado/lossy.thing] -/
def f77_h : Hints := ⟨[], []⟩
set_option maxRecDepth 100000 in
def f77_V (order : Value) (horder : notAgg order = true) (u : PH) (Q : Value → PH → Prop) : Prop :=
 (SemSpec Try.prog (do eqGuard .eql 65 (.tmp 3) (.const .nilFunc) order .nilFunc; binOp .eql 65 order .nilFunc) u (fun v1 u2 =>
 ∃ b3 : Bool, v1 = .bool b3 ∧
 (b3 = true →
 Q (.pointer none) u2) ∧
 (b3 = false →
 ∀ B4 : Nat, u2 B4 = none →
 Q (.pointer (some ⟨B4, 0, none⟩)) (PH.add u2 B4 (.cells #[order, .pointer none] 103)))))
set_option maxRecDepth 100000 in
theorem f77_vc (order : Value) (horder : notAgg order = true) (u : PH) (Q : Value → PH → Prop) : fnVC Try.prog f77_h Try.f77 [.c (.vv ⟨order, horder⟩)] u Q = f77_V order horder u Q := by kernel_rfl
theorem f77_of {order : Value} {horder : notAgg order = true} {u : PH} {Q : Value → PH → Prop} (h : f77_V order horder u Q) : Spec Try.prog 77 #[order] u Q :=
  spec_of_vc (H := f77_h) (ps := [.c (.vv ⟨order, horder⟩)]) Try.func77 rfl (by rw [f77_vc]; exact h)
/-- cortado/cortadoref38.There -/
def f83_h : Hints := ⟨[(2, ⟨[(4, .int .i64), (5, .int .i64), (6, .bool), (7, .int .i64)], [], []⟩)], []⟩
set_option maxRecDepth 100000 in
def f83_V (x0 : Option Addr) (x0_l x0_c : Nat) (x1 : Int) (u : PH) (Q : Value → PH → Prop) : Prop :=
 (∃ (I1 : Int → Int → Bool → Int → PH → Prop) (M2 : Int → Int → Bool → Int → PH → Nat), I1 0 0 false (IntKind.wrap .i64 ((((x0_l : Nat) : Int)) - 1)) u ∧
 ∀ n3 : Int, ∀ n4 : Int, ∀ b5 : Bool, ∀ n6 : Int, ∀ u7 : PH, I1 n3 n4 b5 n6 u7 →
 ((decide ((n6 : Int) ≥ 0)) = true →
 ∃ b8 o9 : Nat, (x0 : Option Addr) = some ⟨b8, o9, none⟩ ∧ ((0 : Int) ≤ n6 ∧ (n6 : Int) < ((x0_l : Nat) : Int)) ∧
 ∃ n10 : Int, ∃ n11 : Int, ∃ n12 : Int, ∃ n13 : Int, ∃ n14 : Int, ∃ n15 : Int, ∃ n16 : Int, ∃ n17 : Int, ∃ n18 : Int, ∃ n19 : Int, ∃ n20 : Int, ∃ b21 : Bool, ∃ n22 : Int, PH.cells u7 b8 (o9 + (n6 : Int).toNat * 13) [.int .i64 n10, .int .i64 n11, .int .i64 n12, .int .i64 n13, .int .i64 n14, .int .i64 n15, .int .i64 n16, .int .i64 n17, .int .i64 n18, .int .i64 n19, .int .i64 n20, .bool b21, .int .i64 n22] ∧
 ((!b21) = true →
 I1 n3 n4 b5 (IntKind.wrap .i64 (n6 - 1)) u7 ∧ M2 n3 n4 b5 (IntKind.wrap .i64 (n6 - 1)) u7 < M2 n3 n4 b5 n6 u7) ∧
 ((!b21) = false →
 (((((n12 : Int) == 5) || ((n12 : Int) == 6)) || (((n12 : Int) == 3) && ((n13 : Int) == x1))) = true →
 Q (.tuple #[.int .i64 0, .int .i64 0, .bool false]) u7) ∧
 (((((n12 : Int) == 5) || ((n12 : Int) == 6)) || (((n12 : Int) == 3) && ((n13 : Int) == x1))) = false →
 ((((n12 : Int) == 2) && ((n13 : Int) == x1)) = true →
 Spec Try.prog 104 #[.int .i64 n20, .int .i64 n16] u7 (fun v23 u24 =>
 ∃ n25 : Int, ∃ b26 : Bool, v23 = .tuple #[.int .i64 n25, .bool b26] ∧
 Q (.tuple #[.int .i64 n14, .int .i64 n25, .bool true]) u24)) ∧
 ((((n12 : Int) == 2) && ((n13 : Int) == x1)) = false →
 I1 n3 n4 b5 (IntKind.wrap .i64 (n6 - 1)) u7 ∧ M2 n3 n4 b5 (IntKind.wrap .i64 (n6 - 1)) u7 < M2 n3 n4 b5 n6 u7)))) ∧
 ((decide ((n6 : Int) ≥ 0)) = false →
 Q (.tuple #[.int .i64 0, .int .i64 0, .bool false]) u7))
set_option maxRecDepth 100000 in
theorem f83_vc (x0 : Option Addr) (x0_l x0_c : Nat) (x1 : Int) (u : PH) (Q : Value → PH → Prop) : fnVC Try.prog f83_h Try.f83 [.c (.v (.slice x0 x0_l x0_c)), .c (.v (.int .i64 x1))] u Q = f83_V x0 x0_l x0_c x1 u Q := by kernel_rfl
theorem f83_of {x0 : Option Addr} {x0_l x0_c : Nat} {x1 : Int} {u : PH} {Q : Value → PH → Prop} (h : f83_V x0 x0_l x0_c x1 u Q) : Spec Try.prog 83 #[.slice x0 x0_l x0_c, .int .i64 x1] u Q :=
  spec_of_vc (H := f83_h) (ps := [.c (.v (.slice x0 x0_l x0_c)), .c (.v (.int .i64 x1))]) Try.func83 rfl (by rw [f83_vc]; exact h)
/-- cortado/cortadoref19.Over -/
def f84_h : Hints := ⟨[], []⟩
set_option maxRecDepth 100000 in
def f84_V (x0 : Int) (now : Int) (u : PH) (Q : Value → PH → Prop) : Prop :=
 (Q (.bool ((decide ((x0 : Int) > 0)) && (decide ((now : Int) ≥ x0)))) u)
set_option maxRecDepth 100000 in
theorem f84_vc (x0 : Int) (now : Int) (u : PH) (Q : Value → PH → Prop) : fnVC Try.prog f84_h Try.f84 [.c (.v (.int .i64 x0)), .c (.v (.int .i64 now))] u Q = f84_V x0 now u Q := by kernel_rfl
theorem f84_of {x0 : Int} {now : Int} {u : PH} {Q : Value → PH → Prop} (h : f84_V x0 now u Q) : Spec Try.prog 84 #[.int .i64 x0, .int .i64 now] u Q :=
  spec_of_vc (H := f84_h) (ps := [.c (.v (.int .i64 x0)), .c (.v (.int .i64 now))]) Try.func84 rfl (by rw [f84_vc]; exact h)
/-- slices.Index[[]int,int] -/
def f85_h : Hints := ⟨[(2, ⟨[(4, .int .i64), (8, .int .i64)], [], []⟩)], []⟩
set_option maxRecDepth 100000 in
def f85_V (s : Option Addr) (s_l s_c : Nat) (v : Int) (u : PH) (Q : Value → PH → Prop) : Prop :=
 (∃ (I1 : Int → Int → PH → Prop) (M2 : Int → Int → PH → Nat), I1 0 0 u ∧
 ∀ n3 : Int, ∀ n4 : Int, ∀ u5 : PH, I1 n3 n4 u5 →
 ((decide ((n4 : Int) < (((s_l : Nat) : Int)))) = true →
 ∃ b6 o7 : Nat, (s : Option Addr) = some ⟨b6, o7, none⟩ ∧ ((0 : Int) ≤ n4 ∧ (n4 : Int) < ((s_l : Nat) : Int)) ∧
 ∃ n8 : Int, PH.cell u5 b6 (o7 + (n4 : Int).toNat * 1) = some (.int .i64 n8) ∧
 (((v : Int) == n8) = true →
 Q (.int .i64 n4) u5) ∧
 (((v : Int) == n8) = false →
 I1 n3 (IntKind.wrap .i64 (n4 + 1)) u5 ∧ M2 n3 (IntKind.wrap .i64 (n4 + 1)) u5 < M2 n3 n4 u5)) ∧
 ((decide ((n4 : Int) < (((s_l : Nat) : Int)))) = false →
 Q (.int .i64 (-1)) u5))
set_option maxRecDepth 100000 in
theorem f85_vc (s : Option Addr) (s_l s_c : Nat) (v : Int) (u : PH) (Q : Value → PH → Prop) : fnVC Try.prog f85_h Try.f85 [.c (.v (.slice s s_l s_c)), .c (.v (.int .i64 v))] u Q = f85_V s s_l s_c v u Q := by kernel_rfl
theorem f85_of {s : Option Addr} {s_l s_c : Nat} {v : Int} {u : PH} {Q : Value → PH → Prop} (h : f85_V s s_l s_c v u Q) : Spec Try.prog 85 #[.slice s s_l s_c, .int .i64 v] u Q :=
  spec_of_vc (H := f85_h) (ps := [.c (.v (.slice s s_l s_c)), .c (.v (.int .i64 v))]) Try.func85 rfl (by rw [f85_vc]; exact h)
/-- (*cortado/lossy.Map).must -/
def f86_h : Hints := ⟨[], []⟩
set_option maxRecDepth 100000 in
def f86_V (m : Option Addr) (c : Call) (u : PH) (Q : Value → PH → Prop) : Prop :=
 (∃ b1 o2 : Nat, (m : Option Addr) = some ⟨b1, o2, none⟩ ∧
 ∃ b3 : Bool, PH.cell u b1 (o2 + 1) = some (.bool b3) ∧
 (b3 = true →
 Q (.tuple #[.bool ((c.op.kind : Int) == 6), .bool true]) u) ∧
 (b3 = false →
 (((c.op.kind : Int) == 2) = true →
 ∃ w4 : PH, Ext w4 u ∧
 (Spec Try.prog 105 #[.int .i64 c.op.cost] u (fun v5 u6 =>
 ∃ b7 : Bool, v5 = .bool b7 ∧
 Ext w4 u6 ∧
 Ext w4 u6 ∧
 Q (.tuple #[.bool false, .bool ((!b7) || (decide ((c.op.ttl : Int) < 0)))]) u6))) ∧
 (((c.op.kind : Int) == 2) = false →
 (((c.op.kind : Int) == 7) = true →
 Spec Try.prog 105 #[.int .i64 c.op.cost] u (fun v8 u9 =>
 ∃ b10 : Bool, v8 = .bool b10 ∧
 Q (.tuple #[.bool b10, .bool true]) u9)) ∧
 (((c.op.kind : Int) == 7) = false →
 (((c.op.kind : Int) == 1) = true →
 Q (.tuple #[.bool false, .bool false]) u) ∧
 (((c.op.kind : Int) == 1) = false →
 Q (.tuple #[.bool ((decide ((c.op.kind : Int) > 0)) && (decide ((c.op.kind : Int) < 7))), .bool true]) u)))))
set_option maxRecDepth 100000 in
theorem f86_vc (m : Option Addr) (c : Call) (u : PH) (Q : Value → PH → Prop) : fnVC Try.prog f86_h Try.f86 [.c (.v (.pointer m)), .agg [.v (.int .i64 c.client), .v (.int .i64 c.id), .v (.int .i64 c.op.kind), .v (.int .i64 c.op.key), .v (.int .i64 c.op.val), .v (.int .i64 c.op.cost), .v (.int .i64 c.op.ttl), .v (.int .i64 c.beg), .v (.int .i64 c.at_), .v (.int .i64 c.end_), .v (.int .i64 c.tick), .v (.bool c.ok), .v (.int .i64 c.got)]] u Q = f86_V m c u Q := by kernel_rfl
theorem f86_of {m : Option Addr} {c : Call} {u : PH} {Q : Value → PH → Prop} (h : f86_V m c u Q) : Spec Try.prog 86 #[.pointer m, .agg #[.int .i64 c.client, .int .i64 c.id, .int .i64 c.op.kind, .int .i64 c.op.key, .int .i64 c.op.val, .int .i64 c.op.cost, .int .i64 c.op.ttl, .int .i64 c.beg, .int .i64 c.at_, .int .i64 c.end_, .int .i64 c.tick, .bool c.ok, .int .i64 c.got]] u Q :=
  spec_of_vc (H := f86_h) (ps := [.c (.v (.pointer m)), .agg [.v (.int .i64 c.client), .v (.int .i64 c.id), .v (.int .i64 c.op.kind), .v (.int .i64 c.op.key), .v (.int .i64 c.op.val), .v (.int .i64 c.op.cost), .v (.int .i64 c.op.ttl), .v (.int .i64 c.beg), .v (.int .i64 c.at_), .v (.int .i64 c.end_), .v (.int .i64 c.tick), .v (.bool c.ok), .v (.int .i64 c.got)]]) Try.func86 rfl (by rw [f86_vc]; exact h)
/-- (*cortado/lossy.Map).Get -/
def f87_h : Hints := ⟨[], []⟩
set_option maxRecDepth 100000 in
def f87_V (m : Option Addr) (key : Int) (now : Int) (u : PH) (Q : Value → PH → Prop) : Prop :=
 (((Option.isNone m) = true →
 Q (.tuple #[.int .i64 0, .bool false]) u) ∧
 ((Option.isNone m) = false →
 ∃ b1 o2 : Nat, (m : Option Addr) = some ⟨b1, o2, none⟩ ∧
 ∃ p3 : Option Addr, PH.cell u b1 (o2 + 0) = some (.pointer p3) ∧
 Spec Try.prog 106 #[.pointer p3, .int .i64 key] u (fun v4 u5 =>
 ∃ n6 : Int, ∃ n7 : Int, ∃ b8 : Bool, v4 = .tuple #[.agg #[.int .i64 n6, .int .i64 n7], .bool b8] ∧
 ((!b8) = true →
 Q (.tuple #[.int .i64 0, .bool false]) u5) ∧
 ((!b8) = false →
 Spec Try.prog 107 #[.int .i64 n7, .int .i64 now] u5 (fun v9 u10 =>
 ∃ b11 : Bool, v9 = .bool b11 ∧
 (b11 = true →
 Q (.tuple #[.int .i64 0, .bool false]) u10) ∧
 (b11 = false →
 Q (.tuple #[.int .i64 n6, .bool true]) u10))))))
set_option maxRecDepth 100000 in
theorem f87_vc (m : Option Addr) (key : Int) (now : Int) (u : PH) (Q : Value → PH → Prop) : fnVC Try.prog f87_h Try.f87 [.c (.v (.pointer m)), .c (.v (.int .i64 key)), .c (.v (.int .i64 now))] u Q = f87_V m key now u Q := by kernel_rfl
theorem f87_of {m : Option Addr} {key : Int} {now : Int} {u : PH} {Q : Value → PH → Prop} (h : f87_V m key now u Q) : Spec Try.prog 87 #[.pointer m, .int .i64 key, .int .i64 now] u Q :=
  spec_of_vc (H := f87_h) (ps := [.c (.v (.pointer m)), .c (.v (.int .i64 key)), .c (.v (.int .i64 now))]) Try.func87 rfl (by rw [f87_vc]; exact h)
/-- cortado/clock.behind -/
def f88_h : Hints := ⟨[], []⟩
set_option maxRecDepth 100000 in
def f88_V (now : Int) (n : Int) (u : PH) (Q : Value → PH → Prop) : Prop :=
 (((decide ((n : Int) ≥ (IntKind.wrap .i64 (1099511627776 - now)))) = true →
 Q (.int .i64 1099511627776) u) ∧
 ((decide ((n : Int) ≥ (IntKind.wrap .i64 (1099511627776 - now)))) = false →
 SemSpec Try.prog (Builtin.max_ #[3, 3] 3 #[.int .i64 n, .int .i64 0]) u (fun v1 u2 =>
 ∃ n3 : Int, v1 = .int .i64 n3 ∧
 Q (.int .i64 (IntKind.wrap .i64 (now + n3))) u2)))
set_option maxRecDepth 100000 in
theorem f88_vc (now : Int) (n : Int) (u : PH) (Q : Value → PH → Prop) : fnVC Try.prog f88_h Try.f88 [.c (.v (.int .i64 now)), .c (.v (.int .i64 n))] u Q = f88_V now n u Q := by kernel_rfl
theorem f88_of {now : Int} {n : Int} {u : PH} {Q : Value → PH → Prop} (h : f88_V now n u Q) : Spec Try.prog 88 #[.int .i64 now, .int .i64 n] u Q :=
  spec_of_vc (H := f88_h) (ps := [.c (.v (.int .i64 now)), .c (.v (.int .i64 n))]) Try.func88 rfl (by rw [f88_vc]; exact h)
/-- cortado/clock.cut -/
def f89_h : Hints := ⟨[], []⟩
set_option maxRecDepth 100000 in
def f89_V (n : Int) (u : PH) (Q : Value → PH → Prop) : Prop :=
 (SemSpec Try.prog (Builtin.min_ #[3, 3] 3 #[.int .i64 n, .int .i64 1099511627776]) u (fun v1 u2 =>
 ∃ n3 : Int, v1 = .int .i64 n3 ∧
 SemSpec Try.prog (Builtin.max_ #[3, 3] 3 #[.int .i64 0, .int .i64 n3]) u2 (fun v4 u5 =>
 ∃ n6 : Int, v4 = .int .i64 n6 ∧
 Q (.int .i64 n6) u5)))
set_option maxRecDepth 100000 in
theorem f89_vc (n : Int) (u : PH) (Q : Value → PH → Prop) : fnVC Try.prog f89_h Try.f89 [.c (.v (.int .i64 n))] u Q = f89_V n u Q := by kernel_rfl
theorem f89_of {n : Int} {u : PH} {Q : Value → PH → Prop} (h : f89_V n u Q) : Spec Try.prog 89 #[.int .i64 n] u Q :=
  spec_of_vc (H := f89_h) (ps := [.c (.v (.int .i64 n))]) Try.func89 rfl (by rw [f89_vc]; exact h)
/-- (*cortado/rank.Tree[int, cortado/lossy.thing]).put -/
def f90_h : Hints := ⟨[], []⟩
set_option maxRecDepth 100000 in
def f90_V (x0 : Option Addr) (x1 : Option Addr) (x2 : Int) (x3_0 : Int) (x3_1 : Int) (u : PH) (Q : Value → PH → Prop) : Prop :=
 (((Option.isNone x1) = true →
 Spec Try.prog 108 #[.int .i64 x2, .agg #[.int .i64 x3_0, .int .i64 x3_1], .pointer none, .pointer none] u (fun v1 u2 =>
 ∃ p3 : Option Addr, v1 = .pointer p3 ∧
 Q (.pointer p3) u2)) ∧
 ((Option.isNone x1) = false →
 ∃ b4 o5 : Nat, (x0 : Option Addr) = some ⟨b4, o5, none⟩ ∧
 ∃ (v6 : Value) (h7 : notAgg v6 = true), PH.cell u b4 (o5 + 0) = some (v6) ∧
 ∃ b8 o9 : Nat, (x1 : Option Addr) = some ⟨b8, o9, none⟩ ∧
 ∃ n10 : Int, PH.cell u b8 (o9 + 0) = some (.int .i64 n10) ∧
 CallV Try.prog v6 [.int .i64 x2, .int .i64 n10] u (fun v11 u12 =>
 ∃ n13 : Int, v11 = .int .i64 n13 ∧
 ((decide ((n13 : Int) < 0)) = true →
 ∃ w14 : PH, Ext w14 u12 ∧
 (∃ b15 o16 : Nat, (x1 : Option Addr) = some ⟨b15, o16, none⟩ ∧
 ∃ n17 : Int, PH.cell w14 b15 (o16 + 0) = some (.int .i64 n17) ∧
 ∃ b18 o19 : Nat, (x1 : Option Addr) = some ⟨b18, o19, none⟩ ∧
 ∃ n20 : Int, ∃ n21 : Int, PH.cells w14 b18 (o19 + 1) [.int .i64 n20, .int .i64 n21] ∧
 ∃ b22 o23 : Nat, (x1 : Option Addr) = some ⟨b22, o23, none⟩ ∧
 ∃ p24 : Option Addr, PH.cell w14 b22 (o23 + 3) = some (.pointer p24) ∧
 ∃ b25 o26 : Nat, (x1 : Option Addr) = some ⟨b25, o26, none⟩ ∧
 ∃ p27 : Option Addr, PH.cell w14 b25 (o26 + 4) = some (.pointer p27) ∧
 Spec Try.prog 90 #[.pointer x0, .pointer p24, .int .i64 x2, .agg #[.int .i64 x3_0, .int .i64 x3_1]] u12 (fun v28 u29 =>
 ∃ p30 : Option Addr, v28 = .pointer p30 ∧
 Ext w14 u29 ∧
 Spec Try.prog 109 #[.int .i64 n17, .agg #[.int .i64 n20, .int .i64 n21], .pointer p30, .pointer p27] u29 (fun v31 u32 =>
 ∃ p33 : Option Addr, v31 = .pointer p33 ∧
 Ext w14 u32 ∧
 Q (.pointer p33) u32)))) ∧
 ((decide ((n13 : Int) < 0)) = false →
 ((decide ((n13 : Int) > 0)) = true →
 ∃ w34 : PH, Ext w34 u12 ∧
 (∃ b35 o36 : Nat, (x1 : Option Addr) = some ⟨b35, o36, none⟩ ∧
 ∃ n37 : Int, PH.cell w34 b35 (o36 + 0) = some (.int .i64 n37) ∧
 ∃ b38 o39 : Nat, (x1 : Option Addr) = some ⟨b38, o39, none⟩ ∧
 ∃ n40 : Int, ∃ n41 : Int, PH.cells w34 b38 (o39 + 1) [.int .i64 n40, .int .i64 n41] ∧
 ∃ b42 o43 : Nat, (x1 : Option Addr) = some ⟨b42, o43, none⟩ ∧
 ∃ p44 : Option Addr, PH.cell w34 b42 (o43 + 3) = some (.pointer p44) ∧
 ∃ b45 o46 : Nat, (x1 : Option Addr) = some ⟨b45, o46, none⟩ ∧
 ∃ p47 : Option Addr, PH.cell w34 b45 (o46 + 4) = some (.pointer p47) ∧
 Spec Try.prog 90 #[.pointer x0, .pointer p47, .int .i64 x2, .agg #[.int .i64 x3_0, .int .i64 x3_1]] u12 (fun v48 u49 =>
 ∃ p50 : Option Addr, v48 = .pointer p50 ∧
 Ext w34 u49 ∧
 Spec Try.prog 109 #[.int .i64 n37, .agg #[.int .i64 n40, .int .i64 n41], .pointer p44, .pointer p50] u49 (fun v51 u52 =>
 ∃ p53 : Option Addr, v51 = .pointer p53 ∧
 Ext w34 u52 ∧
 Q (.pointer p53) u52)))) ∧
 ((decide ((n13 : Int) > 0)) = false →
 ∃ b54 o55 : Nat, (x1 : Option Addr) = some ⟨b54, o55, none⟩ ∧
 ∃ p56 : Option Addr, PH.cell u12 b54 (o55 + 3) = some (.pointer p56) ∧
 ∃ b57 o58 : Nat, (x1 : Option Addr) = some ⟨b57, o58, none⟩ ∧
 ∃ p59 : Option Addr, PH.cell u12 b57 (o58 + 4) = some (.pointer p59) ∧
 Spec Try.prog 108 #[.int .i64 x2, .agg #[.int .i64 x3_0, .int .i64 x3_1], .pointer p56, .pointer p59] u12 (fun v60 u61 =>
 ∃ p62 : Option Addr, v60 = .pointer p62 ∧
 Q (.pointer p62) u61))))))
set_option maxRecDepth 100000 in
theorem f90_vc (x0 : Option Addr) (x1 : Option Addr) (x2 : Int) (x3_0 : Int) (x3_1 : Int) (u : PH) (Q : Value → PH → Prop) : fnVC Try.prog f90_h Try.f90 [.c (.v (.pointer x0)), .c (.v (.pointer x1)), .c (.v (.int .i64 x2)), .agg [.v (.int .i64 x3_0), .v (.int .i64 x3_1)]] u Q = f90_V x0 x1 x2 x3_0 x3_1 u Q := by kernel_rfl
theorem f90_of {x0 : Option Addr} {x1 : Option Addr} {x2 : Int} {x3_0 : Int} {x3_1 : Int} {u : PH} {Q : Value → PH → Prop} (h : f90_V x0 x1 x2 x3_0 x3_1 u Q) : Spec Try.prog 90 #[.pointer x0, .pointer x1, .int .i64 x2, .agg #[.int .i64 x3_0, .int .i64 x3_1]] u Q :=
  spec_of_vc (H := f90_h) (ps := [.c (.v (.pointer x0)), .c (.v (.pointer x1)), .c (.v (.int .i64 x2)), .agg [.v (.int .i64 x3_0), .v (.int .i64 x3_1)]]) Try.func90 rfl (by rw [f90_vc]; exact h)
/-- (*cortado/rank.Tree[int, cortado/lossy.thing]).drop -/
def f91_h : Hints := ⟨[], []⟩
set_option maxRecDepth 100000 in
def f91_V (x0 : Option Addr) (x1 : Option Addr) (x2 : Int) (u : PH) (Q : Value → PH → Prop) : Prop :=
 (((Option.isNone x1) = true →
 Q (.pointer none) u) ∧
 ((Option.isNone x1) = false →
 ∃ b1 o2 : Nat, (x0 : Option Addr) = some ⟨b1, o2, none⟩ ∧
 ∃ (v3 : Value) (h4 : notAgg v3 = true), PH.cell u b1 (o2 + 0) = some (v3) ∧
 ∃ b5 o6 : Nat, (x1 : Option Addr) = some ⟨b5, o6, none⟩ ∧
 ∃ n7 : Int, PH.cell u b5 (o6 + 0) = some (.int .i64 n7) ∧
 CallV Try.prog v3 [.int .i64 x2, .int .i64 n7] u (fun v8 u9 =>
 ∃ n10 : Int, v8 = .int .i64 n10 ∧
 ((decide ((n10 : Int) < 0)) = true →
 ∃ w11 : PH, Ext w11 u9 ∧
 (∃ b12 o13 : Nat, (x1 : Option Addr) = some ⟨b12, o13, none⟩ ∧
 ∃ n14 : Int, PH.cell w11 b12 (o13 + 0) = some (.int .i64 n14) ∧
 ∃ b15 o16 : Nat, (x1 : Option Addr) = some ⟨b15, o16, none⟩ ∧
 ∃ n17 : Int, ∃ n18 : Int, PH.cells w11 b15 (o16 + 1) [.int .i64 n17, .int .i64 n18] ∧
 ∃ b19 o20 : Nat, (x1 : Option Addr) = some ⟨b19, o20, none⟩ ∧
 ∃ p21 : Option Addr, PH.cell w11 b19 (o20 + 3) = some (.pointer p21) ∧
 ∃ b22 o23 : Nat, (x1 : Option Addr) = some ⟨b22, o23, none⟩ ∧
 ∃ p24 : Option Addr, PH.cell w11 b22 (o23 + 4) = some (.pointer p24) ∧
 Spec Try.prog 91 #[.pointer x0, .pointer p21, .int .i64 x2] u9 (fun v25 u26 =>
 ∃ p27 : Option Addr, v25 = .pointer p27 ∧
 Ext w11 u26 ∧
 Spec Try.prog 109 #[.int .i64 n14, .agg #[.int .i64 n17, .int .i64 n18], .pointer p27, .pointer p24] u26 (fun v28 u29 =>
 ∃ p30 : Option Addr, v28 = .pointer p30 ∧
 Ext w11 u29 ∧
 Q (.pointer p30) u29)))) ∧
 ((decide ((n10 : Int) < 0)) = false →
 ((decide ((n10 : Int) > 0)) = true →
 ∃ w31 : PH, Ext w31 u9 ∧
 (∃ b32 o33 : Nat, (x1 : Option Addr) = some ⟨b32, o33, none⟩ ∧
 ∃ n34 : Int, PH.cell w31 b32 (o33 + 0) = some (.int .i64 n34) ∧
 ∃ b35 o36 : Nat, (x1 : Option Addr) = some ⟨b35, o36, none⟩ ∧
 ∃ n37 : Int, ∃ n38 : Int, PH.cells w31 b35 (o36 + 1) [.int .i64 n37, .int .i64 n38] ∧
 ∃ b39 o40 : Nat, (x1 : Option Addr) = some ⟨b39, o40, none⟩ ∧
 ∃ p41 : Option Addr, PH.cell w31 b39 (o40 + 3) = some (.pointer p41) ∧
 ∃ b42 o43 : Nat, (x1 : Option Addr) = some ⟨b42, o43, none⟩ ∧
 ∃ p44 : Option Addr, PH.cell w31 b42 (o43 + 4) = some (.pointer p44) ∧
 Spec Try.prog 91 #[.pointer x0, .pointer p44, .int .i64 x2] u9 (fun v45 u46 =>
 ∃ p47 : Option Addr, v45 = .pointer p47 ∧
 Ext w31 u46 ∧
 Spec Try.prog 109 #[.int .i64 n34, .agg #[.int .i64 n37, .int .i64 n38], .pointer p41, .pointer p47] u46 (fun v48 u49 =>
 ∃ p50 : Option Addr, v48 = .pointer p50 ∧
 Ext w31 u49 ∧
 Q (.pointer p50) u49)))) ∧
 ((decide ((n10 : Int) > 0)) = false →
 ∃ b51 o52 : Nat, (x1 : Option Addr) = some ⟨b51, o52, none⟩ ∧
 ∃ p53 : Option Addr, PH.cell u9 b51 (o52 + 3) = some (.pointer p53) ∧
 ∃ b54 o55 : Nat, (x1 : Option Addr) = some ⟨b54, o55, none⟩ ∧
 ∃ p56 : Option Addr, PH.cell u9 b54 (o55 + 4) = some (.pointer p56) ∧
 Spec Try.prog 110 #[.pointer p53, .pointer p56] u9 (fun v57 u58 =>
 ∃ p59 : Option Addr, v57 = .pointer p59 ∧
 Q (.pointer p59) u58))))))
set_option maxRecDepth 100000 in
theorem f91_vc (x0 : Option Addr) (x1 : Option Addr) (x2 : Int) (u : PH) (Q : Value → PH → Prop) : fnVC Try.prog f91_h Try.f91 [.c (.v (.pointer x0)), .c (.v (.pointer x1)), .c (.v (.int .i64 x2))] u Q = f91_V x0 x1 x2 u Q := by kernel_rfl
theorem f91_of {x0 : Option Addr} {x1 : Option Addr} {x2 : Int} {u : PH} {Q : Value → PH → Prop} (h : f91_V x0 x1 x2 u Q) : Spec Try.prog 91 #[.pointer x0, .pointer x1, .int .i64 x2] u Q :=
  spec_of_vc (H := f91_h) (ps := [.c (.v (.pointer x0)), .c (.v (.pointer x1)), .c (.v (.int .i64 x2))]) Try.func91 rfl (by rw [f91_vc]; exact h)
/-- cortado/cortadoref19.End -/
def f104_h : Hints := ⟨[], []⟩
set_option maxRecDepth 100000 in
def f104_V (now : Int) (ttl : Int) (u : PH) (Q : Value → PH → Prop) : Prop :=
 (((decide ((ttl : Int) < 0)) = true →
 Q (.tuple #[.int .i64 0, .bool false]) u) ∧
 ((decide ((ttl : Int) < 0)) = false →
 (((ttl : Int) == 0) = true →
 Q (.tuple #[.int .i64 0, .bool true]) u) ∧
 (((ttl : Int) == 0) = false →
 Spec Try.prog 118 #[.int .i64 now] u (fun v1 u2 =>
 ∃ n3 : Int, v1 = .int .i64 n3 ∧
 Spec Try.prog 117 #[.int .i64 n3, .int .i64 ttl] u2 (fun v4 u5 =>
 ∃ n6 : Int, v4 = .int .i64 n6 ∧
 Q (.tuple #[.int .i64 n6, .bool true]) u5)))))
set_option maxRecDepth 100000 in
theorem f104_vc (now : Int) (ttl : Int) (u : PH) (Q : Value → PH → Prop) : fnVC Try.prog f104_h Try.f104 [.c (.v (.int .i64 now)), .c (.v (.int .i64 ttl))] u Q = f104_V now ttl u Q := by kernel_rfl
theorem f104_of {now : Int} {ttl : Int} {u : PH} {Q : Value → PH → Prop} (h : f104_V now ttl u Q) : Spec Try.prog 104 #[.int .i64 now, .int .i64 ttl] u Q :=
  spec_of_vc (H := f104_h) (ps := [.c (.v (.int .i64 now)), .c (.v (.int .i64 ttl))]) Try.func104 rfl (by rw [f104_vc]; exact h)
/-- cortado/cost.Right -/
def f105_h : Hints := ⟨[], []⟩
set_option maxRecDepth 100000 in
def f105_V (n : Int) (u : PH) (Q : Value → PH → Prop) : Prop :=
 (Q (.bool ((decide ((n : Int) ≥ 0)) && (decide ((n : Int) ≤ 4611686018427387904)))) u)
set_option maxRecDepth 100000 in
theorem f105_vc (n : Int) (u : PH) (Q : Value → PH → Prop) : fnVC Try.prog f105_h Try.f105 [.c (.v (.int .i64 n))] u Q = f105_V n u Q := by kernel_rfl
theorem f105_of {n : Int} {u : PH} {Q : Value → PH → Prop} (h : f105_V n u Q) : Spec Try.prog 105 #[.int .i64 n] u Q :=
  spec_of_vc (H := f105_h) (ps := [.c (.v (.int .i64 n))]) Try.func105 rfl (by rw [f105_vc]; exact h)
/-- (*cortado/rank.Tree[int, cortado/lossy.thing]).Get -/
def f106_h : Hints := ⟨[], []⟩
set_option maxRecDepth 100000 in
def f106_V (t : Option Addr) (k : Int) (u : PH) (Q : Value → PH → Prop) : Prop :=
 (Spec Try.prog 119 #[.pointer t, .int .i64 k] u (fun v1 u2 =>
 ∃ p3 : Option Addr, ∃ n4 : Int, v1 = .tuple #[.pointer p3, .int .i64 n4] ∧
 ((Option.isNone p3) = true →
 Q (.tuple #[.agg #[.int .i64 0, .int .i64 0], .bool false]) u2) ∧
 ((Option.isNone p3) = false →
 ∃ b5 o6 : Nat, (p3 : Option Addr) = some ⟨b5, o6, none⟩ ∧
 ∃ n7 : Int, ∃ n8 : Int, PH.cells u2 b5 (o6 + 1) [.int .i64 n7, .int .i64 n8] ∧
 Q (.tuple #[.agg #[.int .i64 n7, .int .i64 n8], .bool true]) u2)))
set_option maxRecDepth 100000 in
theorem f106_vc (t : Option Addr) (k : Int) (u : PH) (Q : Value → PH → Prop) : fnVC Try.prog f106_h Try.f106 [.c (.v (.pointer t)), .c (.v (.int .i64 k))] u Q = f106_V t k u Q := by kernel_rfl
theorem f106_of {t : Option Addr} {k : Int} {u : PH} {Q : Value → PH → Prop} (h : f106_V t k u Q) : Spec Try.prog 106 #[.pointer t, .int .i64 k] u Q :=
  spec_of_vc (H := f106_h) (ps := [.c (.v (.pointer t)), .c (.v (.int .i64 k))]) Try.func106 rfl (by rw [f106_vc]; exact h)
/-- cortado/clock.Over -/
def f107_h : Hints := ⟨[], []⟩
set_option maxRecDepth 100000 in
def f107_V (x0 : Int) (now : Int) (u : PH) (Q : Value → PH → Prop) : Prop :=
 (Q (.bool ((decide ((x0 : Int) > 0)) && (decide ((x0 : Int) ≤ now)))) u)
set_option maxRecDepth 100000 in
theorem f107_vc (x0 : Int) (now : Int) (u : PH) (Q : Value → PH → Prop) : fnVC Try.prog f107_h Try.f107 [.c (.v (.int .i64 x0)), .c (.v (.int .i64 now))] u Q = f107_V x0 now u Q := by kernel_rfl
theorem f107_of {x0 : Int} {now : Int} {u : PH} {Q : Value → PH → Prop} (h : f107_V x0 now u Q) : Spec Try.prog 107 #[.int .i64 x0, .int .i64 now] u Q :=
  spec_of_vc (H := f107_h) (ps := [.c (.v (.int .i64 x0)), .c (.v (.int .i64 now))]) Try.func107 rfl (by rw [f107_vc]; exact h)
/-- cortado/rank.made[int,cortado/lossy.thing] -/
def f108_h : Hints := ⟨[], []⟩
set_option maxRecDepth 100000 in
def f108_V (k : Int) (v_0 : Int) (v_1 : Int) (left : Option Addr) (right : Option Addr) (u : PH) (Q : Value → PH → Prop) : Prop :=
 (∃ w1 : PH, Ext w1 u ∧
 (Spec Try.prog 120 #[.pointer left] u (fun v2 u3 =>
 ∃ n4 : Int, v2 = .int .i64 n4 ∧
 Ext w1 u3 ∧
 Spec Try.prog 120 #[.pointer right] u3 (fun v5 u6 =>
 ∃ n7 : Int, v5 = .int .i64 n7 ∧
 Ext w1 u6 ∧
 Spec Try.prog 121 #[.pointer left] u6 (fun v8 u9 =>
 ∃ n10 : Int, v8 = .int .i64 n10 ∧
 Ext w1 u9 ∧
 Spec Try.prog 121 #[.pointer right] u9 (fun v11 u12 =>
 ∃ n13 : Int, v11 = .int .i64 n13 ∧
 Ext w1 u12 ∧
 SemSpec Try.prog (Builtin.max_ #[3, 3] 3 #[.int .i64 n10, .int .i64 n13]) u12 (fun v14 u15 =>
 ∃ n16 : Int, v14 = .int .i64 n16 ∧
 Ext w1 u15 ∧
 Ext w1 u15 ∧
 ∀ B17 : Nat, u15 B17 = none →
 Q (.pointer (some ⟨B17, 0, none⟩)) (PH.add u15 B17 (.cells #[.int .i64 k, .int .i64 v_0, .int .i64 v_1, .pointer left, .pointer right, .int .i64 (IntKind.wrap .i64 ((IntKind.wrap .i64 (n4 + n7)) + 1)), .int .i64 (IntKind.wrap .i64 (n16 + 1))] 121)))))))))
set_option maxRecDepth 100000 in
theorem f108_vc (k : Int) (v_0 : Int) (v_1 : Int) (left : Option Addr) (right : Option Addr) (u : PH) (Q : Value → PH → Prop) : fnVC Try.prog f108_h Try.f108 [.c (.v (.int .i64 k)), .agg [.v (.int .i64 v_0), .v (.int .i64 v_1)], .c (.v (.pointer left)), .c (.v (.pointer right))] u Q = f108_V k v_0 v_1 left right u Q := by kernel_rfl
theorem f108_of {k : Int} {v_0 : Int} {v_1 : Int} {left : Option Addr} {right : Option Addr} {u : PH} {Q : Value → PH → Prop} (h : f108_V k v_0 v_1 left right u Q) : Spec Try.prog 108 #[.int .i64 k, .agg #[.int .i64 v_0, .int .i64 v_1], .pointer left, .pointer right] u Q :=
  spec_of_vc (H := f108_h) (ps := [.c (.v (.int .i64 k)), .agg [.v (.int .i64 v_0), .v (.int .i64 v_1)], .c (.v (.pointer left)), .c (.v (.pointer right))]) Try.func108 rfl (by rw [f108_vc]; exact h)
/-- cortado/rank.joined[int,cortado/lossy.thing] -/
def f109_h : Hints := ⟨[], []⟩
set_option maxRecDepth 100000 in
def f109_V (k : Int) (v_0 : Int) (v_1 : Int) (left : Option Addr) (right : Option Addr) (u : PH) (Q : Value → PH → Prop) : Prop :=
 (Spec Try.prog 121 #[.pointer left] u (fun v1 u2 =>
 ∃ n3 : Int, v1 = .int .i64 n3 ∧
 Spec Try.prog 121 #[.pointer right] u2 (fun v4 u5 =>
 ∃ n6 : Int, v4 = .int .i64 n6 ∧
 ((decide (((IntKind.wrap .i64 (n3 - n6)) : Int) > 1)) = true →
 Spec Try.prog 122 #[.int .i64 k, .agg #[.int .i64 v_0, .int .i64 v_1], .pointer left, .pointer right] u5 (fun v7 u8 =>
 ∃ p9 : Option Addr, v7 = .pointer p9 ∧
 Q (.pointer p9) u8)) ∧
 ((decide (((IntKind.wrap .i64 (n3 - n6)) : Int) > 1)) = false →
 ((decide (((IntKind.wrap .i64 (n3 - n6)) : Int) < (-1))) = true →
 Spec Try.prog 123 #[.int .i64 k, .agg #[.int .i64 v_0, .int .i64 v_1], .pointer left, .pointer right] u5 (fun v10 u11 =>
 ∃ p12 : Option Addr, v10 = .pointer p12 ∧
 Q (.pointer p12) u11)) ∧
 ((decide (((IntKind.wrap .i64 (n3 - n6)) : Int) < (-1))) = false →
 Spec Try.prog 108 #[.int .i64 k, .agg #[.int .i64 v_0, .int .i64 v_1], .pointer left, .pointer right] u5 (fun v13 u14 =>
 ∃ p15 : Option Addr, v13 = .pointer p15 ∧
 Q (.pointer p15) u14))))))
set_option maxRecDepth 100000 in
theorem f109_vc (k : Int) (v_0 : Int) (v_1 : Int) (left : Option Addr) (right : Option Addr) (u : PH) (Q : Value → PH → Prop) : fnVC Try.prog f109_h Try.f109 [.c (.v (.int .i64 k)), .agg [.v (.int .i64 v_0), .v (.int .i64 v_1)], .c (.v (.pointer left)), .c (.v (.pointer right))] u Q = f109_V k v_0 v_1 left right u Q := by kernel_rfl
theorem f109_of {k : Int} {v_0 : Int} {v_1 : Int} {left : Option Addr} {right : Option Addr} {u : PH} {Q : Value → PH → Prop} (h : f109_V k v_0 v_1 left right u Q) : Spec Try.prog 109 #[.int .i64 k, .agg #[.int .i64 v_0, .int .i64 v_1], .pointer left, .pointer right] u Q :=
  spec_of_vc (H := f109_h) (ps := [.c (.v (.int .i64 k)), .agg [.v (.int .i64 v_0), .v (.int .i64 v_1)], .c (.v (.pointer left)), .c (.v (.pointer right))]) Try.func109 rfl (by rw [f109_vc]; exact h)
/-- cortado/rank.both[int,cortado/lossy.thing] -/
def f110_h : Hints := ⟨[], []⟩
set_option maxRecDepth 100000 in
def f110_V (left : Option Addr) (right : Option Addr) (u : PH) (Q : Value → PH → Prop) : Prop :=
 (((Option.isNone left) = true →
 Q (.pointer right) u) ∧
 ((Option.isNone left) = false →
 ((Option.isNone right) = true →
 Q (.pointer left) u) ∧
 ((Option.isNone right) = false →
 Spec Try.prog 124 #[.pointer right] u (fun v1 u2 =>
 ∃ p3 : Option Addr, ∃ p4 : Option Addr, v1 = .tuple #[.pointer p3, .pointer p4] ∧
 ∃ b5 o6 : Nat, (p4 : Option Addr) = some ⟨b5, o6, none⟩ ∧
 ∃ n7 : Int, PH.cell u2 b5 (o6 + 0) = some (.int .i64 n7) ∧
 ∃ b8 o9 : Nat, (p4 : Option Addr) = some ⟨b8, o9, none⟩ ∧
 ∃ n10 : Int, ∃ n11 : Int, PH.cells u2 b8 (o9 + 1) [.int .i64 n10, .int .i64 n11] ∧
 Spec Try.prog 109 #[.int .i64 n7, .agg #[.int .i64 n10, .int .i64 n11], .pointer left, .pointer p3] u2 (fun v12 u13 =>
 ∃ p14 : Option Addr, v12 = .pointer p14 ∧
 Q (.pointer p14) u13)))))
set_option maxRecDepth 100000 in
theorem f110_vc (left : Option Addr) (right : Option Addr) (u : PH) (Q : Value → PH → Prop) : fnVC Try.prog f110_h Try.f110 [.c (.v (.pointer left)), .c (.v (.pointer right))] u Q = f110_V left right u Q := by kernel_rfl
theorem f110_of {left : Option Addr} {right : Option Addr} {u : PH} {Q : Value → PH → Prop} (h : f110_V left right u Q) : Spec Try.prog 110 #[.pointer left, .pointer right] u Q :=
  spec_of_vc (H := f110_h) (ps := [.c (.v (.pointer left)), .c (.v (.pointer right))]) Try.func110 rfl (by rw [f110_vc]; exact h)
/-- cortado/cortadoref19.Pass -/
def f117_h : Hints := ⟨[], []⟩
set_option maxRecDepth 100000 in
def f117_V (now : Int) (n : Int) (u : PH) (Q : Value → PH → Prop) : Prop :=
 (((decide ((n : Int) ≤ 0)) = true →
 Q (.int .i64 now) u) ∧
 ((decide ((n : Int) ≤ 0)) = false →
 ((decide ((n : Int) > (IntKind.wrap .i64 (1099511627776 - now)))) = true →
 Q (.int .i64 1099511627776) u) ∧
 ((decide ((n : Int) > (IntKind.wrap .i64 (1099511627776 - now)))) = false →
 Q (.int .i64 (IntKind.wrap .i64 (now + n))) u)))
set_option maxRecDepth 100000 in
theorem f117_vc (now : Int) (n : Int) (u : PH) (Q : Value → PH → Prop) : fnVC Try.prog f117_h Try.f117 [.c (.v (.int .i64 now)), .c (.v (.int .i64 n))] u Q = f117_V now n u Q := by kernel_rfl
theorem f117_of {now : Int} {n : Int} {u : PH} {Q : Value → PH → Prop} (h : f117_V now n u Q) : Spec Try.prog 117 #[.int .i64 now, .int .i64 n] u Q :=
  spec_of_vc (H := f117_h) (ps := [.c (.v (.int .i64 now)), .c (.v (.int .i64 n))]) Try.func117 rfl (by rw [f117_vc]; exact h)
/-- cortado/cortadoref19.cut -/
def f118_h : Hints := ⟨[], []⟩
set_option maxRecDepth 100000 in
def f118_V (n : Int) (u : PH) (Q : Value → PH → Prop) : Prop :=
 (SemSpec Try.prog (Builtin.min_ #[3, 3] 3 #[.int .i64 n, .int .i64 1099511627776]) u (fun v1 u2 =>
 ∃ n3 : Int, v1 = .int .i64 n3 ∧
 SemSpec Try.prog (Builtin.max_ #[3, 3] 3 #[.int .i64 0, .int .i64 n3]) u2 (fun v4 u5 =>
 ∃ n6 : Int, v4 = .int .i64 n6 ∧
 Q (.int .i64 n6) u5)))
set_option maxRecDepth 100000 in
theorem f118_vc (n : Int) (u : PH) (Q : Value → PH → Prop) : fnVC Try.prog f118_h Try.f118 [.c (.v (.int .i64 n))] u Q = f118_V n u Q := by kernel_rfl
theorem f118_of {n : Int} {u : PH} {Q : Value → PH → Prop} (h : f118_V n u Q) : Spec Try.prog 118 #[.int .i64 n] u Q :=
  spec_of_vc (H := f118_h) (ps := [.c (.v (.int .i64 n))]) Try.func118 rfl (by rw [f118_vc]; exact h)
/-- (*cortado/rank.Tree[int, cortado/lossy.thing]).find -/
def f119_h : Hints := ⟨[(5, ⟨[(4, .ptr), (5, .int .i64), (6, .int .i64), (7, .ptr)], [], []⟩)], []⟩
set_option maxRecDepth 100000 in
def f119_V (t : Option Addr) (k : Int) (u : PH) (Q : Value → PH → Prop) : Prop :=
 (((Option.isNone t) = true →
 Q (.tuple #[.pointer none, .int .i64 0]) u) ∧
 ((Option.isNone t) = false →
 ∃ b1 o2 : Nat, (t : Option Addr) = some ⟨b1, o2, none⟩ ∧
 ∃ p3 : Option Addr, PH.cell u b1 (o2 + 1) = some (.pointer p3) ∧
 ∃ (I4 : Option Addr → Int → Int → Option Addr → PH → Prop) (M5 : Option Addr → Int → Int → Option Addr → PH → Nat), I4 none 0 0 p3 u ∧
 ∀ p6 : Option Addr, ∀ n7 : Int, ∀ n8 : Int, ∀ p9 : Option Addr, ∀ u10 : PH, I4 p6 n7 n8 p9 u10 →
 ((!Option.isNone p9) = true →
 ∃ b11 o12 : Nat, (t : Option Addr) = some ⟨b11, o12, none⟩ ∧
 ∃ (v13 : Value) (h14 : notAgg v13 = true), PH.cell u10 b11 (o12 + 0) = some (v13) ∧
 ∃ b15 o16 : Nat, (p9 : Option Addr) = some ⟨b15, o16, none⟩ ∧
 ∃ n17 : Int, PH.cell u10 b15 (o16 + 0) = some (.int .i64 n17) ∧
 CallV Try.prog v13 [.int .i64 k, .int .i64 n17] u10 (fun v18 u19 =>
 ∃ n20 : Int, v18 = .int .i64 n20 ∧
 (((n20 : Int) == 0) = true →
 ∃ b21 o22 : Nat, (p9 : Option Addr) = some ⟨b21, o22, none⟩ ∧
 ∃ p23 : Option Addr, PH.cell u19 b21 (o22 + 3) = some (.pointer p23) ∧
 Spec Try.prog 120 #[.pointer p23] u19 (fun v24 u25 =>
 ∃ n26 : Int, v24 = .int .i64 n26 ∧
 Q (.tuple #[.pointer p9, .int .i64 (IntKind.wrap .i64 (n8 + n26))]) u25)) ∧
 (((n20 : Int) == 0) = false →
 ((decide ((n20 : Int) < 0)) = true →
 ∃ b27 o28 : Nat, (p9 : Option Addr) = some ⟨b27, o28, none⟩ ∧
 ∃ p29 : Option Addr, PH.cell u19 b27 (o28 + 3) = some (.pointer p29) ∧
 I4 p6 n7 n8 p29 u19 ∧ M5 p6 n7 n8 p29 u19 < M5 p6 n7 n8 p9 u10) ∧
 ((decide ((n20 : Int) < 0)) = false →
 ∃ w30 : PH, Ext w30 u19 ∧
 (∃ b31 o32 : Nat, (p9 : Option Addr) = some ⟨b31, o32, none⟩ ∧
 ∃ p33 : Option Addr, PH.cell w30 b31 (o32 + 3) = some (.pointer p33) ∧
 ∃ b34 o35 : Nat, (p9 : Option Addr) = some ⟨b34, o35, none⟩ ∧
 ∃ p36 : Option Addr, PH.cell w30 b34 (o35 + 4) = some (.pointer p36) ∧
 Spec Try.prog 120 #[.pointer p33] u19 (fun v37 u38 =>
 ∃ n39 : Int, v37 = .int .i64 n39 ∧
 Ext w30 u38 ∧
 I4 p6 n7 (IntKind.wrap .i64 ((IntKind.wrap .i64 (n8 + n39)) + 1)) p36 u38 ∧ M5 p6 n7 (IntKind.wrap .i64 ((IntKind.wrap .i64 (n8 + n39)) + 1)) p36 u38 < M5 p6 n7 n8 p9 u10)))))) ∧
 ((!Option.isNone p9) = false →
 Q (.tuple #[.pointer none, .int .i64 n8]) u10)))
set_option maxRecDepth 100000 in
theorem f119_vc (t : Option Addr) (k : Int) (u : PH) (Q : Value → PH → Prop) : fnVC Try.prog f119_h Try.f119 [.c (.v (.pointer t)), .c (.v (.int .i64 k))] u Q = f119_V t k u Q := by kernel_rfl
theorem f119_of {t : Option Addr} {k : Int} {u : PH} {Q : Value → PH → Prop} (h : f119_V t k u Q) : Spec Try.prog 119 #[.pointer t, .int .i64 k] u Q :=
  spec_of_vc (H := f119_h) (ps := [.c (.v (.pointer t)), .c (.v (.int .i64 k))]) Try.func119 rfl (by rw [f119_vc]; exact h)
/-- cortado/rank.size[int,cortado/lossy.thing] -/
def f120_h : Hints := ⟨[], []⟩
set_option maxRecDepth 100000 in
def f120_V (x : Option Addr) (u : PH) (Q : Value → PH → Prop) : Prop :=
 (((Option.isNone x) = true →
 Q (.int .i64 0) u) ∧
 ((Option.isNone x) = false →
 ∃ b1 o2 : Nat, (x : Option Addr) = some ⟨b1, o2, none⟩ ∧
 ∃ n3 : Int, PH.cell u b1 (o2 + 5) = some (.int .i64 n3) ∧
 Q (.int .i64 n3) u))
set_option maxRecDepth 100000 in
theorem f120_vc (x : Option Addr) (u : PH) (Q : Value → PH → Prop) : fnVC Try.prog f120_h Try.f120 [.c (.v (.pointer x))] u Q = f120_V x u Q := by kernel_rfl
theorem f120_of {x : Option Addr} {u : PH} {Q : Value → PH → Prop} (h : f120_V x u Q) : Spec Try.prog 120 #[.pointer x] u Q :=
  spec_of_vc (H := f120_h) (ps := [.c (.v (.pointer x))]) Try.func120 rfl (by rw [f120_vc]; exact h)
/-- cortado/rank.deep[int,cortado/lossy.thing] -/
def f121_h : Hints := ⟨[], []⟩
set_option maxRecDepth 100000 in
def f121_V (x : Option Addr) (u : PH) (Q : Value → PH → Prop) : Prop :=
 (((Option.isNone x) = true →
 Q (.int .i64 0) u) ∧
 ((Option.isNone x) = false →
 ∃ b1 o2 : Nat, (x : Option Addr) = some ⟨b1, o2, none⟩ ∧
 ∃ n3 : Int, PH.cell u b1 (o2 + 6) = some (.int .i64 n3) ∧
 Q (.int .i64 n3) u))
set_option maxRecDepth 100000 in
theorem f121_vc (x : Option Addr) (u : PH) (Q : Value → PH → Prop) : fnVC Try.prog f121_h Try.f121 [.c (.v (.pointer x))] u Q = f121_V x u Q := by kernel_rfl
theorem f121_of {x : Option Addr} {u : PH} {Q : Value → PH → Prop} (h : f121_V x u Q) : Spec Try.prog 121 #[.pointer x] u Q :=
  spec_of_vc (H := f121_h) (ps := [.c (.v (.pointer x))]) Try.func121 rfl (by rw [f121_vc]; exact h)
/-- cortado/rank.leftUp[int,cortado/lossy.thing] -/
def f122_h : Hints := ⟨[], []⟩
set_option maxRecDepth 100000 in
def f122_V (x0 : Int) (x1_0 : Int) (x1_1 : Int) (x2 : Option Addr) (x3 : Option Addr) (u : PH) (Q : Value → PH → Prop) : Prop :=
 (∃ b1 o2 : Nat, (x2 : Option Addr) = some ⟨b1, o2, none⟩ ∧
 ∃ p3 : Option Addr, PH.cell u b1 (o2 + 4) = some (.pointer p3) ∧
 ∃ b4 o5 : Nat, (x2 : Option Addr) = some ⟨b4, o5, none⟩ ∧
 ∃ p6 : Option Addr, PH.cell u b4 (o5 + 3) = some (.pointer p6) ∧
 Spec Try.prog 121 #[.pointer p6] u (fun v7 u8 =>
 ∃ n9 : Int, v7 = .int .i64 n9 ∧
 Spec Try.prog 121 #[.pointer p3] u8 (fun v10 u11 =>
 ∃ n12 : Int, v10 = .int .i64 n12 ∧
 ((decide ((n9 : Int) < n12)) = true →
 ∃ w13 : PH, Ext w13 u11 ∧
 (∃ b14 o15 : Nat, (p3 : Option Addr) = some ⟨b14, o15, none⟩ ∧
 ∃ n16 : Int, PH.cell w13 b14 (o15 + 0) = some (.int .i64 n16) ∧
 ∃ b17 o18 : Nat, (p3 : Option Addr) = some ⟨b17, o18, none⟩ ∧
 ∃ n19 : Int, ∃ n20 : Int, PH.cells w13 b17 (o18 + 1) [.int .i64 n19, .int .i64 n20] ∧
 ∃ b21 o22 : Nat, (x2 : Option Addr) = some ⟨b21, o22, none⟩ ∧
 ∃ n23 : Int, PH.cell w13 b21 (o22 + 0) = some (.int .i64 n23) ∧
 ∃ b24 o25 : Nat, (x2 : Option Addr) = some ⟨b24, o25, none⟩ ∧
 ∃ n26 : Int, ∃ n27 : Int, PH.cells w13 b24 (o25 + 1) [.int .i64 n26, .int .i64 n27] ∧
 ∃ b28 o29 : Nat, (x2 : Option Addr) = some ⟨b28, o29, none⟩ ∧
 ∃ p30 : Option Addr, PH.cell w13 b28 (o29 + 3) = some (.pointer p30) ∧
 ∃ b31 o32 : Nat, (p3 : Option Addr) = some ⟨b31, o32, none⟩ ∧
 ∃ p33 : Option Addr, PH.cell w13 b31 (o32 + 3) = some (.pointer p33) ∧
 ∃ b34 o35 : Nat, (p3 : Option Addr) = some ⟨b34, o35, none⟩ ∧
 ∃ p36 : Option Addr, PH.cell w13 b34 (o35 + 4) = some (.pointer p36) ∧
 Spec Try.prog 108 #[.int .i64 n23, .agg #[.int .i64 n26, .int .i64 n27], .pointer p30, .pointer p33] u11 (fun v37 u38 =>
 ∃ p39 : Option Addr, v37 = .pointer p39 ∧
 Ext w13 u38 ∧
 Spec Try.prog 108 #[.int .i64 x0, .agg #[.int .i64 x1_0, .int .i64 x1_1], .pointer p36, .pointer x3] u38 (fun v40 u41 =>
 ∃ p42 : Option Addr, v40 = .pointer p42 ∧
 Ext w13 u41 ∧
 Spec Try.prog 108 #[.int .i64 n16, .agg #[.int .i64 n19, .int .i64 n20], .pointer p39, .pointer p42] u41 (fun v43 u44 =>
 ∃ p45 : Option Addr, v43 = .pointer p45 ∧
 Ext w13 u44 ∧
 Q (.pointer p45) u44))))) ∧
 ((decide ((n9 : Int) < n12)) = false →
 ∃ w46 : PH, Ext w46 u11 ∧
 (∃ b47 o48 : Nat, (x2 : Option Addr) = some ⟨b47, o48, none⟩ ∧
 ∃ n49 : Int, PH.cell w46 b47 (o48 + 0) = some (.int .i64 n49) ∧
 ∃ b50 o51 : Nat, (x2 : Option Addr) = some ⟨b50, o51, none⟩ ∧
 ∃ n52 : Int, ∃ n53 : Int, PH.cells w46 b50 (o51 + 1) [.int .i64 n52, .int .i64 n53] ∧
 ∃ b54 o55 : Nat, (x2 : Option Addr) = some ⟨b54, o55, none⟩ ∧
 ∃ p56 : Option Addr, PH.cell w46 b54 (o55 + 3) = some (.pointer p56) ∧
 ∃ b57 o58 : Nat, (x2 : Option Addr) = some ⟨b57, o58, none⟩ ∧
 ∃ p59 : Option Addr, PH.cell w46 b57 (o58 + 4) = some (.pointer p59) ∧
 Spec Try.prog 108 #[.int .i64 x0, .agg #[.int .i64 x1_0, .int .i64 x1_1], .pointer p59, .pointer x3] u11 (fun v60 u61 =>
 ∃ p62 : Option Addr, v60 = .pointer p62 ∧
 Ext w46 u61 ∧
 Spec Try.prog 108 #[.int .i64 n49, .agg #[.int .i64 n52, .int .i64 n53], .pointer p56, .pointer p62] u61 (fun v63 u64 =>
 ∃ p65 : Option Addr, v63 = .pointer p65 ∧
 Ext w46 u64 ∧
 Q (.pointer p65) u64)))))))
set_option maxRecDepth 100000 in
theorem f122_vc (x0 : Int) (x1_0 : Int) (x1_1 : Int) (x2 : Option Addr) (x3 : Option Addr) (u : PH) (Q : Value → PH → Prop) : fnVC Try.prog f122_h Try.f122 [.c (.v (.int .i64 x0)), .agg [.v (.int .i64 x1_0), .v (.int .i64 x1_1)], .c (.v (.pointer x2)), .c (.v (.pointer x3))] u Q = f122_V x0 x1_0 x1_1 x2 x3 u Q := by kernel_rfl
theorem f122_of {x0 : Int} {x1_0 : Int} {x1_1 : Int} {x2 : Option Addr} {x3 : Option Addr} {u : PH} {Q : Value → PH → Prop} (h : f122_V x0 x1_0 x1_1 x2 x3 u Q) : Spec Try.prog 122 #[.int .i64 x0, .agg #[.int .i64 x1_0, .int .i64 x1_1], .pointer x2, .pointer x3] u Q :=
  spec_of_vc (H := f122_h) (ps := [.c (.v (.int .i64 x0)), .agg [.v (.int .i64 x1_0), .v (.int .i64 x1_1)], .c (.v (.pointer x2)), .c (.v (.pointer x3))]) Try.func122 rfl (by rw [f122_vc]; exact h)
/-- cortado/rank.rightUp[int,cortado/lossy.thing] -/
def f123_h : Hints := ⟨[], []⟩
set_option maxRecDepth 100000 in
def f123_V (x0 : Int) (x1_0 : Int) (x1_1 : Int) (x2 : Option Addr) (x3 : Option Addr) (u : PH) (Q : Value → PH → Prop) : Prop :=
 (∃ b1 o2 : Nat, (x3 : Option Addr) = some ⟨b1, o2, none⟩ ∧
 ∃ p3 : Option Addr, PH.cell u b1 (o2 + 3) = some (.pointer p3) ∧
 ∃ b4 o5 : Nat, (x3 : Option Addr) = some ⟨b4, o5, none⟩ ∧
 ∃ p6 : Option Addr, PH.cell u b4 (o5 + 4) = some (.pointer p6) ∧
 Spec Try.prog 121 #[.pointer p6] u (fun v7 u8 =>
 ∃ n9 : Int, v7 = .int .i64 n9 ∧
 Spec Try.prog 121 #[.pointer p3] u8 (fun v10 u11 =>
 ∃ n12 : Int, v10 = .int .i64 n12 ∧
 ((decide ((n9 : Int) < n12)) = true →
 ∃ w13 : PH, Ext w13 u11 ∧
 (∃ b14 o15 : Nat, (p3 : Option Addr) = some ⟨b14, o15, none⟩ ∧
 ∃ n16 : Int, PH.cell w13 b14 (o15 + 0) = some (.int .i64 n16) ∧
 ∃ b17 o18 : Nat, (p3 : Option Addr) = some ⟨b17, o18, none⟩ ∧
 ∃ n19 : Int, ∃ n20 : Int, PH.cells w13 b17 (o18 + 1) [.int .i64 n19, .int .i64 n20] ∧
 ∃ b21 o22 : Nat, (p3 : Option Addr) = some ⟨b21, o22, none⟩ ∧
 ∃ p23 : Option Addr, PH.cell w13 b21 (o22 + 3) = some (.pointer p23) ∧
 ∃ b24 o25 : Nat, (x3 : Option Addr) = some ⟨b24, o25, none⟩ ∧
 ∃ n26 : Int, PH.cell w13 b24 (o25 + 0) = some (.int .i64 n26) ∧
 ∃ b27 o28 : Nat, (x3 : Option Addr) = some ⟨b27, o28, none⟩ ∧
 ∃ n29 : Int, ∃ n30 : Int, PH.cells w13 b27 (o28 + 1) [.int .i64 n29, .int .i64 n30] ∧
 ∃ b31 o32 : Nat, (p3 : Option Addr) = some ⟨b31, o32, none⟩ ∧
 ∃ p33 : Option Addr, PH.cell w13 b31 (o32 + 4) = some (.pointer p33) ∧
 ∃ b34 o35 : Nat, (x3 : Option Addr) = some ⟨b34, o35, none⟩ ∧
 ∃ p36 : Option Addr, PH.cell w13 b34 (o35 + 4) = some (.pointer p36) ∧
 Spec Try.prog 108 #[.int .i64 x0, .agg #[.int .i64 x1_0, .int .i64 x1_1], .pointer x2, .pointer p23] u11 (fun v37 u38 =>
 ∃ p39 : Option Addr, v37 = .pointer p39 ∧
 Ext w13 u38 ∧
 Spec Try.prog 108 #[.int .i64 n26, .agg #[.int .i64 n29, .int .i64 n30], .pointer p33, .pointer p36] u38 (fun v40 u41 =>
 ∃ p42 : Option Addr, v40 = .pointer p42 ∧
 Ext w13 u41 ∧
 Spec Try.prog 108 #[.int .i64 n16, .agg #[.int .i64 n19, .int .i64 n20], .pointer p39, .pointer p42] u41 (fun v43 u44 =>
 ∃ p45 : Option Addr, v43 = .pointer p45 ∧
 Ext w13 u44 ∧
 Q (.pointer p45) u44))))) ∧
 ((decide ((n9 : Int) < n12)) = false →
 ∃ w46 : PH, Ext w46 u11 ∧
 (∃ b47 o48 : Nat, (x3 : Option Addr) = some ⟨b47, o48, none⟩ ∧
 ∃ n49 : Int, PH.cell w46 b47 (o48 + 0) = some (.int .i64 n49) ∧
 ∃ b50 o51 : Nat, (x3 : Option Addr) = some ⟨b50, o51, none⟩ ∧
 ∃ n52 : Int, ∃ n53 : Int, PH.cells w46 b50 (o51 + 1) [.int .i64 n52, .int .i64 n53] ∧
 ∃ b54 o55 : Nat, (x3 : Option Addr) = some ⟨b54, o55, none⟩ ∧
 ∃ p56 : Option Addr, PH.cell w46 b54 (o55 + 3) = some (.pointer p56) ∧
 ∃ b57 o58 : Nat, (x3 : Option Addr) = some ⟨b57, o58, none⟩ ∧
 ∃ p59 : Option Addr, PH.cell w46 b57 (o58 + 4) = some (.pointer p59) ∧
 Spec Try.prog 108 #[.int .i64 x0, .agg #[.int .i64 x1_0, .int .i64 x1_1], .pointer x2, .pointer p56] u11 (fun v60 u61 =>
 ∃ p62 : Option Addr, v60 = .pointer p62 ∧
 Ext w46 u61 ∧
 Spec Try.prog 108 #[.int .i64 n49, .agg #[.int .i64 n52, .int .i64 n53], .pointer p62, .pointer p59] u61 (fun v63 u64 =>
 ∃ p65 : Option Addr, v63 = .pointer p65 ∧
 Ext w46 u64 ∧
 Q (.pointer p65) u64)))))))
set_option maxRecDepth 100000 in
theorem f123_vc (x0 : Int) (x1_0 : Int) (x1_1 : Int) (x2 : Option Addr) (x3 : Option Addr) (u : PH) (Q : Value → PH → Prop) : fnVC Try.prog f123_h Try.f123 [.c (.v (.int .i64 x0)), .agg [.v (.int .i64 x1_0), .v (.int .i64 x1_1)], .c (.v (.pointer x2)), .c (.v (.pointer x3))] u Q = f123_V x0 x1_0 x1_1 x2 x3 u Q := by kernel_rfl
theorem f123_of {x0 : Int} {x1_0 : Int} {x1_1 : Int} {x2 : Option Addr} {x3 : Option Addr} {u : PH} {Q : Value → PH → Prop} (h : f123_V x0 x1_0 x1_1 x2 x3 u Q) : Spec Try.prog 123 #[.int .i64 x0, .agg #[.int .i64 x1_0, .int .i64 x1_1], .pointer x2, .pointer x3] u Q :=
  spec_of_vc (H := f123_h) (ps := [.c (.v (.int .i64 x0)), .agg [.v (.int .i64 x1_0), .v (.int .i64 x1_1)], .c (.v (.pointer x2)), .c (.v (.pointer x3))]) Try.func123 rfl (by rw [f123_vc]; exact h)
/-- cortado/rank.first[int,cortado/lossy.thing] -/
def f124_h : Hints := ⟨[], []⟩
set_option maxRecDepth 100000 in
def f124_V (x : Option Addr) (u : PH) (Q : Value → PH → Prop) : Prop :=
 (∃ b1 o2 : Nat, (x : Option Addr) = some ⟨b1, o2, none⟩ ∧
 ∃ p3 : Option Addr, PH.cell u b1 (o2 + 3) = some (.pointer p3) ∧
 ((Option.isNone p3) = true →
 ∃ b4 o5 : Nat, (x : Option Addr) = some ⟨b4, o5, none⟩ ∧
 ∃ p6 : Option Addr, PH.cell u b4 (o5 + 4) = some (.pointer p6) ∧
 Q (.tuple #[.pointer p6, .pointer x]) u) ∧
 ((Option.isNone p3) = false →
 ∃ b7 o8 : Nat, (x : Option Addr) = some ⟨b7, o8, none⟩ ∧
 ∃ p9 : Option Addr, PH.cell u b7 (o8 + 3) = some (.pointer p9) ∧
 Spec Try.prog 124 #[.pointer p9] u (fun v10 u11 =>
 ∃ p12 : Option Addr, ∃ p13 : Option Addr, v10 = .tuple #[.pointer p12, .pointer p13] ∧
 ∃ b14 o15 : Nat, (x : Option Addr) = some ⟨b14, o15, none⟩ ∧
 ∃ n16 : Int, PH.cell u11 b14 (o15 + 0) = some (.int .i64 n16) ∧
 ∃ b17 o18 : Nat, (x : Option Addr) = some ⟨b17, o18, none⟩ ∧
 ∃ n19 : Int, ∃ n20 : Int, PH.cells u11 b17 (o18 + 1) [.int .i64 n19, .int .i64 n20] ∧
 ∃ b21 o22 : Nat, (x : Option Addr) = some ⟨b21, o22, none⟩ ∧
 ∃ p23 : Option Addr, PH.cell u11 b21 (o22 + 4) = some (.pointer p23) ∧
 Spec Try.prog 109 #[.int .i64 n16, .agg #[.int .i64 n19, .int .i64 n20], .pointer p12, .pointer p23] u11 (fun v24 u25 =>
 ∃ p26 : Option Addr, v24 = .pointer p26 ∧
 Q (.tuple #[.pointer p26, .pointer p13]) u25))))
set_option maxRecDepth 100000 in
theorem f124_vc (x : Option Addr) (u : PH) (Q : Value → PH → Prop) : fnVC Try.prog f124_h Try.f124 [.c (.v (.pointer x))] u Q = f124_V x u Q := by kernel_rfl
theorem f124_of {x : Option Addr} {u : PH} {Q : Value → PH → Prop} (h : f124_V x u Q) : Spec Try.prog 124 #[.pointer x] u Q :=
  spec_of_vc (H := f124_h) (ps := [.c (.v (.pointer x))]) Try.func124 rfl (by rw [f124_vc]; exact h)
end Go.Proofs.Ytlmnfhhmgfnbpaa.E
