import Derived.Test.YtlmnfhhmgfnbpaaE13
import Derived.Test.YtlmnfhhmgfnbpaaB0
namespace Go.Proofs.Ytlmnfhhmgfnbpaa.E
open Go
/-- cortado/cortadoref07.Same -/
def f28_h : Hints := ⟨[(4, ⟨[(4, .bool), (5, .int .i64)], [], []⟩)], []⟩
set_option maxRecDepth 100000 in
def f28_V (a : Option Addr) (a_l a_c : Nat) (b : Option Addr) (b_l b_c : Nat) (u : PH) (Q : Value → PH → Prop) : Prop :=
 (((((((a_l : Nat) : Int)) : Int) != (((b_l : Nat) : Int))) = true →
 Q (.bool false) u) ∧
 ((((((a_l : Nat) : Int)) : Int) != (((b_l : Nat) : Int))) = false →
 ∃ (I1 : Bool → Int → PH → Prop) (M2 : Bool → Int → PH → Nat), I1 false 0 u ∧
 ∀ b3 : Bool, ∀ n4 : Int, ∀ u5 : PH, I1 b3 n4 u5 →
 ((decide ((n4 : Int) < (((a_l : Nat) : Int)))) = true →
 ∃ b6 o7 : Nat, (a : Option Addr) = some ⟨b6, o7, none⟩ ∧ ((0 : Int) ≤ n4 ∧ (n4 : Int) < ((a_l : Nat) : Int)) ∧
 ∃ n8 : Int, PH.cell u5 b6 (o7 + (n4 : Int).toNat * 1) = some (.int .i64 n8) ∧
 ∃ b9 o10 : Nat, (b : Option Addr) = some ⟨b9, o10, none⟩ ∧ ((0 : Int) ≤ n4 ∧ (n4 : Int) < ((b_l : Nat) : Int)) ∧
 ∃ n11 : Int, PH.cell u5 b9 (o10 + (n4 : Int).toNat * 1) = some (.int .i64 n11) ∧
 (((n8 : Int) != n11) = true →
 Q (.bool false) u5) ∧
 (((n8 : Int) != n11) = false →
 I1 b3 (IntKind.wrap .i64 (n4 + 1)) u5 ∧ M2 b3 (IntKind.wrap .i64 (n4 + 1)) u5 < M2 b3 n4 u5)) ∧
 ((decide ((n4 : Int) < (((a_l : Nat) : Int)))) = false →
 Q (.bool true) u5)))
set_option maxRecDepth 100000 in
theorem f28_vc (a : Option Addr) (a_l a_c : Nat) (b : Option Addr) (b_l b_c : Nat) (u : PH) (Q : Value → PH → Prop) : fnVC Try.prog f28_h Try.f28 [.c (.v (.slice a a_l a_c)), .c (.v (.slice b b_l b_c))] u Q = f28_V a a_l a_c b b_l b_c u Q := by kernel_rfl
theorem f28_of {a : Option Addr} {a_l a_c : Nat} {b : Option Addr} {b_l b_c : Nat} {u : PH} {Q : Value → PH → Prop} (h : f28_V a a_l a_c b b_l b_c u Q) : Spec Try.prog 28 #[.slice a a_l a_c, .slice b b_l b_c] u Q :=
  spec_of_vc (H := f28_h) (ps := [.c (.v (.slice a a_l a_c)), .c (.v (.slice b b_l b_c))]) Try.func28 rfl (by rw [f28_vc]; exact h)
end Go.Proofs.Ytlmnfhhmgfnbpaa.E
