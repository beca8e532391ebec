import Derived.Test.YtlmnfhhmgfnbpaaE13
import Derived.Test.YtlmnfhhmgfnbpaaB0
namespace Go.Proofs.Ytlmnfhhmgfnbpaa.E
open Go
/-- cortado/cortadolaw37.awake -/
def f6_h : Hints := ⟨[], []⟩
set_option maxRecDepth 100000 in
def f6_V  (u : PH) (Q : Value → PH → Prop) : Prop :=
 (Spec Try.prog 7 #[.agg #[.int .i64 0, .int .i64 0, .int .i64 0, .int .i64 0, .int .i64 0, .int .i64 0, .int .i64 0, .int .i64 0, .int .i64 1, .int .i64 4, .int .i64 0, .bool false, .int .i64 0], .agg #[.int .i64 0, .int .i64 1, .int .i64 0, .int .i64 0, .int .i64 0, .int .i64 0, .int .i64 0, .int .i64 5, .int .i64 6, .int .i64 (-1), .int .i64 0, .bool false, .int .i64 0]] u (fun v1 u2 =>
 ∃ b3 : Bool, v1 = .bool b3 ∧
 (b3 = true →
 Spec Try.prog 7 #[.agg #[.int .i64 0, .int .i64 1, .int .i64 0, .int .i64 0, .int .i64 0, .int .i64 0, .int .i64 0, .int .i64 5, .int .i64 6, .int .i64 (-1), .int .i64 0, .bool false, .int .i64 0], .agg #[.int .i64 0, .int .i64 0, .int .i64 0, .int .i64 0, .int .i64 0, .int .i64 0, .int .i64 0, .int .i64 0, .int .i64 1, .int .i64 4, .int .i64 0, .bool false, .int .i64 0]] u2 (fun v4 u5 =>
 ∃ b6 : Bool, v4 = .bool b6 ∧
 ((!b6) = true →
 ∀ B7 : Nat, u5 B7 = none →
 Spec Try.prog 9 #[.slice ((some ⟨B7, 0, none⟩)) 2 2] (PH.add u5 B7 (.cells #[.int .i64 0, .int .i64 0, .int .i64 0, .int .i64 0, .int .i64 0, .int .i64 0, .int .i64 0, .int .i64 0, .int .i64 1, .int .i64 4, .int .i64 0, .bool false, .int .i64 0, .int .i64 0, .int .i64 1, .int .i64 0, .int .i64 0, .int .i64 0, .int .i64 0, .int .i64 0, .int .i64 5, .int .i64 6, .int .i64 (-1), .int .i64 0, .bool false, .int .i64 0] 28)) (fun v8 u9 =>
 ∃ b10 : Bool, v8 = .bool b10 ∧
 Q (.bool b10) u9)) ∧
 ((!b6) = false →
 Q (.bool false) u5))) ∧
 (b3 = false →
 Q (.bool false) u2)))
set_option maxRecDepth 100000 in
theorem f6_vc  (u : PH) (Q : Value → PH → Prop) : fnVC Try.prog f6_h Try.f6 [] u Q = f6_V  u Q := by kernel_rfl
theorem f6_of  {u : PH} {Q : Value → PH → Prop} (h : f6_V  u Q) : Spec Try.prog 6 #[] u Q :=
  spec_of_vc (H := f6_h) (ps := []) Try.func6 rfl (by rw [f6_vc]; exact h)
/-- cortado/hist.Ahead -/
def f7_h : Hints := ⟨[], []⟩
set_option maxRecDepth 100000 in
def f7_V (a : Call) (b : Call) (u : PH) (Q : Value → PH → Prop) : Prop :=
 (Q (.bool ((decide ((a.end_ : Int) ≥ 0)) && (decide ((a.end_ : Int) < b.beg)))) u)
set_option maxRecDepth 100000 in
theorem f7_vc (a : Call) (b : Call) (u : PH) (Q : Value → PH → Prop) : fnVC Try.prog f7_h Try.f7 [.agg [.v (.int .i64 a.client), .v (.int .i64 a.id), .v (.int .i64 a.op.kind), .v (.int .i64 a.op.key), .v (.int .i64 a.op.val), .v (.int .i64 a.op.cost), .v (.int .i64 a.op.ttl), .v (.int .i64 a.beg), .v (.int .i64 a.at_), .v (.int .i64 a.end_), .v (.int .i64 a.tick), .v (.bool a.ok), .v (.int .i64 a.got)], .agg [.v (.int .i64 b.client), .v (.int .i64 b.id), .v (.int .i64 b.op.kind), .v (.int .i64 b.op.key), .v (.int .i64 b.op.val), .v (.int .i64 b.op.cost), .v (.int .i64 b.op.ttl), .v (.int .i64 b.beg), .v (.int .i64 b.at_), .v (.int .i64 b.end_), .v (.int .i64 b.tick), .v (.bool b.ok), .v (.int .i64 b.got)]] u Q = f7_V a b u Q := by kernel_rfl
theorem f7_of {a : Call} {b : Call} {u : PH} {Q : Value → PH → Prop} (h : f7_V a b u Q) : Spec Try.prog 7 #[.agg #[.int .i64 a.client, .int .i64 a.id, .int .i64 a.op.kind, .int .i64 a.op.key, .int .i64 a.op.val, .int .i64 a.op.cost, .int .i64 a.op.ttl, .int .i64 a.beg, .int .i64 a.at_, .int .i64 a.end_, .int .i64 a.tick, .bool a.ok, .int .i64 a.got], .agg #[.int .i64 b.client, .int .i64 b.id, .int .i64 b.op.kind, .int .i64 b.op.key, .int .i64 b.op.val, .int .i64 b.op.cost, .int .i64 b.op.ttl, .int .i64 b.beg, .int .i64 b.at_, .int .i64 b.end_, .int .i64 b.tick, .bool b.ok, .int .i64 b.got]] u Q :=
  spec_of_vc (H := f7_h) (ps := [.agg [.v (.int .i64 a.client), .v (.int .i64 a.id), .v (.int .i64 a.op.kind), .v (.int .i64 a.op.key), .v (.int .i64 a.op.val), .v (.int .i64 a.op.cost), .v (.int .i64 a.op.ttl), .v (.int .i64 a.beg), .v (.int .i64 a.at_), .v (.int .i64 a.end_), .v (.int .i64 a.tick), .v (.bool a.ok), .v (.int .i64 a.got)], .agg [.v (.int .i64 b.client), .v (.int .i64 b.id), .v (.int .i64 b.op.kind), .v (.int .i64 b.op.key), .v (.int .i64 b.op.val), .v (.int .i64 b.op.cost), .v (.int .i64 b.op.ttl), .v (.int .i64 b.beg), .v (.int .i64 b.at_), .v (.int .i64 b.end_), .v (.int .i64 b.tick), .v (.bool b.ok), .v (.int .i64 b.got)]]) Try.func7 rfl (by rw [f7_vc]; exact h)
/-- cortado/cortadoref37.Ahead -/
def f8_h : Hints := ⟨[], []⟩
set_option maxRecDepth 100000 in
def f8_V (a : Call) (b : Call) (u : PH) (Q : Value → PH → Prop) : Prop :=
 (Q (.bool ((decide ((a.end_ : Int) ≥ 0)) && (decide ((b.beg : Int) > a.end_)))) u)
set_option maxRecDepth 100000 in
theorem f8_vc (a : Call) (b : Call) (u : PH) (Q : Value → PH → Prop) : fnVC Try.prog f8_h Try.f8 [.agg [.v (.int .i64 a.client), .v (.int .i64 a.id), .v (.int .i64 a.op.kind), .v (.int .i64 a.op.key), .v (.int .i64 a.op.val), .v (.int .i64 a.op.cost), .v (.int .i64 a.op.ttl), .v (.int .i64 a.beg), .v (.int .i64 a.at_), .v (.int .i64 a.end_), .v (.int .i64 a.tick), .v (.bool a.ok), .v (.int .i64 a.got)], .agg [.v (.int .i64 b.client), .v (.int .i64 b.id), .v (.int .i64 b.op.kind), .v (.int .i64 b.op.key), .v (.int .i64 b.op.val), .v (.int .i64 b.op.cost), .v (.int .i64 b.op.ttl), .v (.int .i64 b.beg), .v (.int .i64 b.at_), .v (.int .i64 b.end_), .v (.int .i64 b.tick), .v (.bool b.ok), .v (.int .i64 b.got)]] u Q = f8_V a b u Q := by kernel_rfl
theorem f8_of {a : Call} {b : Call} {u : PH} {Q : Value → PH → Prop} (h : f8_V a b u Q) : Spec Try.prog 8 #[.agg #[.int .i64 a.client, .int .i64 a.id, .int .i64 a.op.kind, .int .i64 a.op.key, .int .i64 a.op.val, .int .i64 a.op.cost, .int .i64 a.op.ttl, .int .i64 a.beg, .int .i64 a.at_, .int .i64 a.end_, .int .i64 a.tick, .bool a.ok, .int .i64 a.got], .agg #[.int .i64 b.client, .int .i64 b.id, .int .i64 b.op.kind, .int .i64 b.op.key, .int .i64 b.op.val, .int .i64 b.op.cost, .int .i64 b.op.ttl, .int .i64 b.beg, .int .i64 b.at_, .int .i64 b.end_, .int .i64 b.tick, .bool b.ok, .int .i64 b.got]] u Q :=
  spec_of_vc (H := f8_h) (ps := [.agg [.v (.int .i64 a.client), .v (.int .i64 a.id), .v (.int .i64 a.op.kind), .v (.int .i64 a.op.key), .v (.int .i64 a.op.val), .v (.int .i64 a.op.cost), .v (.int .i64 a.op.ttl), .v (.int .i64 a.beg), .v (.int .i64 a.at_), .v (.int .i64 a.end_), .v (.int .i64 a.tick), .v (.bool a.ok), .v (.int .i64 a.got)], .agg [.v (.int .i64 b.client), .v (.int .i64 b.id), .v (.int .i64 b.op.kind), .v (.int .i64 b.op.key), .v (.int .i64 b.op.val), .v (.int .i64 b.op.cost), .v (.int .i64 b.op.ttl), .v (.int .i64 b.beg), .v (.int .i64 b.at_), .v (.int .i64 b.end_), .v (.int .i64 b.tick), .v (.bool b.ok), .v (.int .i64 b.got)]]) Try.func8 rfl (by rw [f8_vc]; exact h)
/-- cortado/hist.Right -/
def f9_h : Hints := ⟨[(2, ⟨[(2, .bool), (8, .int .i64)], [], []⟩)], []⟩
set_option maxRecDepth 100000 in
def f9_V (l : Option Addr) (l_l l_c : Nat) (u : PH) (Q : Value → PH → Prop) : Prop :=
 (∃ (I1 : Bool → Int → PH → Prop) (M2 : Bool → Int → PH → Nat), I1 false 0 u ∧
 ∀ b3 : Bool, ∀ n4 : Int, ∀ u5 : PH, I1 b3 n4 u5 →
 ((decide ((n4 : Int) < (((l_l : Nat) : Int)))) = true →
 ∃ b6 o7 : Nat, (l : Option Addr) = some ⟨b6, o7, none⟩ ∧ ((0 : Int) ≤ n4 ∧ (n4 : Int) < ((l_l : Nat) : Int)) ∧
 ∃ n8 : Int, ∃ n9 : Int, ∃ n10 : Int, ∃ n11 : Int, ∃ n12 : Int, ∃ n13 : Int, ∃ n14 : Int, ∃ n15 : Int, ∃ n16 : Int, ∃ n17 : Int, ∃ n18 : Int, ∃ b19 : Bool, ∃ n20 : Int, PH.cells u5 b6 (o7 + (n4 : Int).toNat * 13) [.int .i64 n8, .int .i64 n9, .int .i64 n10, .int .i64 n11, .int .i64 n12, .int .i64 n13, .int .i64 n14, .int .i64 n15, .int .i64 n16, .int .i64 n17, .int .i64 n18, .bool b19, .int .i64 n20] ∧
 Spec Try.prog 31 #[.agg #[.int .i64 n10, .int .i64 n11, .int .i64 n12, .int .i64 n13, .int .i64 n14]] u5 (fun v21 u22 =>
 ∃ b23 : Bool, v21 = .bool b23 ∧
 ((!b23) = true →
 Q (.bool false) u22) ∧
 ((!b23) = false →
 Spec Try.prog 32 #[.agg #[.int .i64 n8, .int .i64 n9, .int .i64 n10, .int .i64 n11, .int .i64 n12, .int .i64 n13, .int .i64 n14, .int .i64 n15, .int .i64 n16, .int .i64 n17, .int .i64 n18, .bool b19, .int .i64 n20]] u22 (fun v24 u25 =>
 ∃ b26 : Bool, v24 = .bool b26 ∧
 ((!b26) = true →
 Q (.bool false) u25) ∧
 ((!b26) = false →
 ((0 : Int) ≤ 0 ∧ (0 : Int) ≤ n4 ∧ n4 ≤ ((l_c : Nat) : Int)) ∧
 ∀ B27 : Nat, u25 B27 = none →
 Spec Try.prog 35 #[.slice ((subA l (0 : Int).toNat l_c 13)) (((n4 : Int).toNat - (0 : Int).toNat)) ((l_c - (0 : Int).toNat)), .func (.func 33) #[] #[.pointer (some ⟨B27, 0, none⟩)]] (PH.add u25 B27 (.cells #[.int .i64 n8, .int .i64 n9, .int .i64 n10, .int .i64 n11, .int .i64 n12, .int .i64 n13, .int .i64 n14, .int .i64 n15, .int .i64 n16, .int .i64 n17, .int .i64 n18, .bool b19, .int .i64 n20] 28)) (fun v28 u29 =>
 ∃ b30 : Bool, v28 = .bool b30 ∧
 (b30 = true →
 Q (.bool false) u29) ∧
 (b30 = false →
 I1 b3 (IntKind.wrap .i64 (n4 + 1)) u29 ∧ M2 b3 (IntKind.wrap .i64 (n4 + 1)) u29 < M2 b3 n4 u5))))))) ∧
 ((decide ((n4 : Int) < (((l_l : Nat) : Int)))) = false →
 Q (.bool true) u5))
set_option maxRecDepth 100000 in
theorem f9_vc (l : Option Addr) (l_l l_c : Nat) (u : PH) (Q : Value → PH → Prop) : fnVC Try.prog f9_h Try.f9 [.c (.v (.slice l l_l l_c))] u Q = f9_V l l_l l_c u Q := by kernel_rfl
theorem f9_of {l : Option Addr} {l_l l_c : Nat} {u : PH} {Q : Value → PH → Prop} (h : f9_V l l_l l_c u Q) : Spec Try.prog 9 #[.slice l l_l l_c] u Q :=
  spec_of_vc (H := f9_h) (ps := [.c (.v (.slice l l_l l_c))]) Try.func9 rfl (by rw [f9_vc]; exact h)
/-- cortado/cortadoref37.Right -/
def f10_h : Hints := ⟨[(2, ⟨[(2, .bool), (3, .int .i64)], [], []⟩), (8, ⟨[(2, .bool), (5, .int .i64)], [], []⟩)], [(9, ⟨[(2, .bool)], [], []⟩), (12, ⟨[(2, .bool)], [], []⟩)]⟩
set_option maxRecDepth 100000 in
def f10_V (x0 : Option Addr) (x0_l x0_c : Nat) (u : PH) (Q : Value → PH → Prop) : Prop :=
 (∃ (I1 : Bool → Int → PH → Prop) (M2 : Bool → Int → PH → Nat), I1 false 0 u ∧
 ∀ b3 : Bool, ∀ n4 : Int, ∀ u5 : PH, I1 b3 n4 u5 →
 ((decide ((n4 : Int) < (((x0_l : Nat) : Int)))) = true →
 ∃ b6 o7 : Nat, (x0 : Option Addr) = some ⟨b6, o7, none⟩ ∧ ((0 : Int) ≤ n4 ∧ (n4 : Int) < ((x0_l : Nat) : Int)) ∧
 ∃ n8 : Int, ∃ n9 : Int, ∃ n10 : Int, ∃ n11 : Int, ∃ n12 : Int, ∃ n13 : Int, ∃ n14 : Int, ∃ n15 : Int, ∃ n16 : Int, ∃ n17 : Int, ∃ n18 : Int, ∃ b19 : Bool, ∃ n20 : Int, PH.cells u5 b6 (o7 + (n4 : Int).toNat * 13) [.int .i64 n8, .int .i64 n9, .int .i64 n10, .int .i64 n11, .int .i64 n12, .int .i64 n13, .int .i64 n14, .int .i64 n15, .int .i64 n16, .int .i64 n17, .int .i64 n18, .bool b19, .int .i64 n20] ∧
 Spec Try.prog 36 #[.agg #[.int .i64 n10, .int .i64 n11, .int .i64 n12, .int .i64 n13, .int .i64 n14]] u5 (fun v21 u22 =>
 ∃ b23 : Bool, v21 = .bool b23 ∧
 (((((!b23) || (decide ((n15 : Int) < 0))) || ((decide ((n16 : Int) ≥ 0)) && (decide ((n16 : Int) < n15)))) || ((decide ((n17 : Int) ≥ 0)) && ((decide ((n16 : Int) < 0)) || (decide ((n17 : Int) < n16))))) = true →
 Q (.bool false) u22) ∧
 (((((!b23) || (decide ((n15 : Int) < 0))) || ((decide ((n16 : Int) ≥ 0)) && (decide ((n16 : Int) < n15)))) || ((decide ((n17 : Int) ≥ 0)) && ((decide ((n16 : Int) < 0)) || (decide ((n17 : Int) < n16))))) = false →
 ∃ (I24 : Bool → Int → PH → Prop) (M25 : Bool → Int → PH → Nat), I24 b3 0 u22 ∧
 ∀ b26 : Bool, ∀ n27 : Int, ∀ u28 : PH, I24 b26 n27 u28 →
 ((decide ((n27 : Int) < n4)) = true →
 ∃ J29 : Bool → PH → Prop, (∃ J30 : Bool → PH → Prop, (∃ b31 o32 : Nat, (x0 : Option Addr) = some ⟨b31, o32, none⟩ ∧ ((0 : Int) ≤ n27 ∧ (n27 : Int) < ((x0_l : Nat) : Int)) ∧
 ∃ n33 : Int, PH.cell u28 b31 (o32 + (n27 : Int).toNat * 13 + 1) = some (.int .i64 n33) ∧
 (((n33 : Int) == n9) = true →
 Q (.bool false) u28) ∧
 (((n33 : Int) == n9) = false →
 ∃ b34 o35 : Nat, (x0 : Option Addr) = some ⟨b34, o35, none⟩ ∧ ((0 : Int) ≤ n27 ∧ (n27 : Int) < ((x0_l : Nat) : Int)) ∧
 ∃ n36 : Int, PH.cell u28 b34 (o35 + (n27 : Int).toNat * 13 + 8) = some (.int .i64 n36) ∧
 ((decide ((n36 : Int) ≥ 0)) = true →
 ∃ b37 o38 : Nat, (x0 : Option Addr) = some ⟨b37, o38, none⟩ ∧ ((0 : Int) ≤ n27 ∧ (n27 : Int) < ((x0_l : Nat) : Int)) ∧
 ∃ n39 : Int, PH.cell u28 b37 (o38 + (n27 : Int).toNat * 13 + 8) = some (.int .i64 n39) ∧
 (((n39 : Int) == n16) = true →
 Q (.bool false) u28) ∧
 (((n39 : Int) == n16) = false →
 J30 b26 u28)) ∧
 ((decide ((n36 : Int) ≥ 0)) = false →
 J30 b26 u28))) ∧
 (∀ b40 : Bool, ∀ u41 : PH, J30 b40 u41 →
 ∃ w42 : PH, Ext w42 u41 ∧
 (∃ b43 o44 : Nat, (x0 : Option Addr) = some ⟨b43, o44, none⟩ ∧ ((0 : Int) ≤ n27 ∧ (n27 : Int) < ((x0_l : Nat) : Int)) ∧
 ∃ n45 : Int, PH.cell w42 b43 (o44 + (n27 : Int).toNat * 13 + 0) = some (.int .i64 n45) ∧
 (((n45 : Int) == n8) = true →
 ∃ b46 o47 : Nat, (x0 : Option Addr) = some ⟨b46, o47, none⟩ ∧ ((0 : Int) ≤ n27 ∧ (n27 : Int) < ((x0_l : Nat) : Int)) ∧
 ∃ n48 : Int, ∃ n49 : Int, ∃ n50 : Int, ∃ n51 : Int, ∃ n52 : Int, ∃ n53 : Int, ∃ n54 : Int, ∃ n55 : Int, ∃ n56 : Int, ∃ n57 : Int, ∃ n58 : Int, ∃ b59 : Bool, ∃ n60 : Int, PH.cells w42 b46 (o47 + (n27 : Int).toNat * 13) [.int .i64 n48, .int .i64 n49, .int .i64 n50, .int .i64 n51, .int .i64 n52, .int .i64 n53, .int .i64 n54, .int .i64 n55, .int .i64 n56, .int .i64 n57, .int .i64 n58, .bool b59, .int .i64 n60] ∧
 Spec Try.prog 8 #[.agg #[.int .i64 n48, .int .i64 n49, .int .i64 n50, .int .i64 n51, .int .i64 n52, .int .i64 n53, .int .i64 n54, .int .i64 n55, .int .i64 n56, .int .i64 n57, .int .i64 n58, .bool b59, .int .i64 n60], .agg #[.int .i64 n8, .int .i64 n9, .int .i64 n10, .int .i64 n11, .int .i64 n12, .int .i64 n13, .int .i64 n14, .int .i64 n15, .int .i64 n16, .int .i64 n17, .int .i64 n18, .bool b19, .int .i64 n20]] u41 (fun v61 u62 =>
 ∃ b63 : Bool, v61 = .bool b63 ∧
 Ext w42 u62 ∧
 ((!b63) = true →
 ∃ b64 o65 : Nat, (x0 : Option Addr) = some ⟨b64, o65, none⟩ ∧ ((0 : Int) ≤ n27 ∧ (n27 : Int) < ((x0_l : Nat) : Int)) ∧
 (Ext w42 u62 ∧
 ∃ n66 : Int, ∃ n67 : Int, ∃ n68 : Int, ∃ n69 : Int, ∃ n70 : Int, ∃ n71 : Int, ∃ n72 : Int, ∃ n73 : Int, ∃ n74 : Int, ∃ n75 : Int, ∃ n76 : Int, ∃ b77 : Bool, ∃ n78 : Int, PH.cells u62 b64 (o65 + (n27 : Int).toNat * 13) [.int .i64 n66, .int .i64 n67, .int .i64 n68, .int .i64 n69, .int .i64 n70, .int .i64 n71, .int .i64 n72, .int .i64 n73, .int .i64 n74, .int .i64 n75, .int .i64 n76, .bool b77, .int .i64 n78] ∧
 Ext w42 u62 ∧
 Spec Try.prog 8 #[.agg #[.int .i64 n8, .int .i64 n9, .int .i64 n10, .int .i64 n11, .int .i64 n12, .int .i64 n13, .int .i64 n14, .int .i64 n15, .int .i64 n16, .int .i64 n17, .int .i64 n18, .bool b19, .int .i64 n20], .agg #[.int .i64 n66, .int .i64 n67, .int .i64 n68, .int .i64 n69, .int .i64 n70, .int .i64 n71, .int .i64 n72, .int .i64 n73, .int .i64 n74, .int .i64 n75, .int .i64 n76, .bool b77, .int .i64 n78]] u62 (fun v79 u80 =>
 ∃ b81 : Bool, v79 = .bool b81 ∧
 Ext w42 u80 ∧
 ((!b81) = true →
 Q (.bool false) u80) ∧
 ((!b81) = false →
 J29 b40 u80)))
 ∧ (∃ n82 : Int, ∃ n83 : Int, ∃ n84 : Int, ∃ n85 : Int, ∃ n86 : Int, ∃ n87 : Int, ∃ n88 : Int, ∃ n89 : Int, ∃ n90 : Int, ∃ n91 : Int, ∃ n92 : Int, ∃ b93 : Bool, ∃ n94 : Int, PH.cells u62 b64 (o65 + (n27 : Int).toNat * 13) [.int .i64 n82, .int .i64 n83, .int .i64 n84, .int .i64 n85, .int .i64 n86, .int .i64 n87, .int .i64 n88, .int .i64 n89, .int .i64 n90, .int .i64 n91, .int .i64 n92, .bool b93, .int .i64 n94] ∧
 Ext w42 u62 ∧
 Ext w42 u62 ∧
 Spec Try.prog 8 #[.agg #[.int .i64 n8, .int .i64 n9, .int .i64 n10, .int .i64 n11, .int .i64 n12, .int .i64 n13, .int .i64 n14, .int .i64 n15, .int .i64 n16, .int .i64 n17, .int .i64 n18, .bool b19, .int .i64 n20], .agg #[.int .i64 n82, .int .i64 n83, .int .i64 n84, .int .i64 n85, .int .i64 n86, .int .i64 n87, .int .i64 n88, .int .i64 n89, .int .i64 n90, .int .i64 n91, .int .i64 n92, .bool b93, .int .i64 n94]] u62 (fun v95 u96 =>
 ∃ b97 : Bool, v95 = .bool b97 ∧
 Ext w42 u96 ∧
 ((!b97) = true →
 Q (.bool false) u96) ∧
 ((!b97) = false →
 J29 b40 u96)))) ∧
 ((!b63) = false →
 (Ext w42 u62 ∧
 Ext w42 u62 ∧
 Ext w42 u62 ∧
 J29 b40 u62)
 ∧ (Ext w42 u62 ∧
 Ext w42 u62 ∧
 Ext w42 u62 ∧
 J29 b40 u62)))) ∧
 (((n45 : Int) == n8) = false →
 Ext w42 u41 ∧
 (Ext w42 u41 ∧
 Ext w42 u41 ∧
 Ext w42 u41 ∧
 J29 b40 u41)
 ∧ (Ext w42 u41 ∧
 Ext w42 u41 ∧
 Ext w42 u41 ∧
 J29 b40 u41))))) ∧
 (∀ b98 : Bool, ∀ u99 : PH, J29 b98 u99 →
 I24 b98 (IntKind.wrap .i64 (n27 + 1)) u99 ∧ M25 b98 (IntKind.wrap .i64 (n27 + 1)) u99 < M25 b26 n27 u28)) ∧
 ((decide ((n27 : Int) < n4)) = false →
 I1 b26 (IntKind.wrap .i64 (n4 + 1)) u28 ∧ M2 b26 (IntKind.wrap .i64 (n4 + 1)) u28 < M2 b3 n4 u5)))) ∧
 ((decide ((n4 : Int) < (((x0_l : Nat) : Int)))) = false →
 Q (.bool true) u5))
set_option maxRecDepth 100000 in
theorem f10_vc (x0 : Option Addr) (x0_l x0_c : Nat) (u : PH) (Q : Value → PH → Prop) : fnVC Try.prog f10_h Try.f10 [.c (.v (.slice x0 x0_l x0_c))] u Q = f10_V x0 x0_l x0_c u Q := by kernel_rfl
theorem f10_of {x0 : Option Addr} {x0_l x0_c : Nat} {u : PH} {Q : Value → PH → Prop} (h : f10_V x0 x0_l x0_c u Q) : Spec Try.prog 10 #[.slice x0 x0_l x0_c] u Q :=
  spec_of_vc (H := f10_h) (ps := [.c (.v (.slice x0 x0_l x0_c))]) Try.func10 rfl (by rw [f10_vc]; exact h)
/-- cortado/hist.Ended -/
def f11_h : Hints := ⟨[], []⟩
set_option maxRecDepth 100000 in
def f11_V (l : Option Addr) (l_l l_c : Nat) (u : PH) (Q : Value → PH → Prop) : Prop :=
 (Spec Try.prog 35 #[.slice l l_l l_c, .func (.func 37) #[] #[]] u (fun v1 u2 =>
 ∃ b3 : Bool, v1 = .bool b3 ∧
 Q (.bool (!b3)) u2))
set_option maxRecDepth 100000 in
theorem f11_vc (l : Option Addr) (l_l l_c : Nat) (u : PH) (Q : Value → PH → Prop) : fnVC Try.prog f11_h Try.f11 [.c (.v (.slice l l_l l_c))] u Q = f11_V l l_l l_c u Q := by kernel_rfl
theorem f11_of {l : Option Addr} {l_l l_c : Nat} {u : PH} {Q : Value → PH → Prop} (h : f11_V l l_l l_c u Q) : Spec Try.prog 11 #[.slice l l_l l_c] u Q :=
  spec_of_vc (H := f11_h) (ps := [.c (.v (.slice l l_l l_c))]) Try.func11 rfl (by rw [f11_vc]; exact h)
/-- cortado/cortadoref37.Ended -/
def f12_h : Hints := ⟨[(2, ⟨[(2, .bool), (3, .int .i64)], [], []⟩)], []⟩
set_option maxRecDepth 100000 in
def f12_V (l : Option Addr) (l_l l_c : Nat) (u : PH) (Q : Value → PH → Prop) : Prop :=
 (∃ (I1 : Bool → Int → PH → Prop) (M2 : Bool → Int → PH → Nat), I1 false 0 u ∧
 ∀ b3 : Bool, ∀ n4 : Int, ∀ u5 : PH, I1 b3 n4 u5 →
 ((decide ((n4 : Int) < (((l_l : Nat) : Int)))) = true →
 ∃ b6 o7 : Nat, (l : Option Addr) = some ⟨b6, o7, none⟩ ∧ ((0 : Int) ≤ n4 ∧ (n4 : Int) < ((l_l : Nat) : Int)) ∧
 ∃ n8 : Int, PH.cell u5 b6 (o7 + (n4 : Int).toNat * 13 + 9) = some (.int .i64 n8) ∧
 ((decide ((n8 : Int) < 0)) = true →
 Q (.bool false) u5) ∧
 ((decide ((n8 : Int) < 0)) = false →
 I1 b3 (IntKind.wrap .i64 (n4 + 1)) u5 ∧ M2 b3 (IntKind.wrap .i64 (n4 + 1)) u5 < M2 b3 n4 u5)) ∧
 ((decide ((n4 : Int) < (((l_l : Nat) : Int)))) = false →
 Q (.bool true) u5))
set_option maxRecDepth 100000 in
theorem f12_vc (l : Option Addr) (l_l l_c : Nat) (u : PH) (Q : Value → PH → Prop) : fnVC Try.prog f12_h Try.f12 [.c (.v (.slice l l_l l_c))] u Q = f12_V l l_l l_c u Q := by kernel_rfl
theorem f12_of {l : Option Addr} {l_l l_c : Nat} {u : PH} {Q : Value → PH → Prop} (h : f12_V l l_l l_c u Q) : Spec Try.prog 12 #[.slice l l_l l_c] u Q :=
  spec_of_vc (H := f12_h) (ps := [.c (.v (.slice l l_l l_c))]) Try.func12 rfl (by rw [f12_vc]; exact h)
/-- cortado/cortadoref36.Same -/
def f13_h : Hints := ⟨[(4, ⟨[(4, .bool), (5, .int .i64)], [], []⟩)], []⟩
set_option maxRecDepth 100000 in
def f13_V (a : Option Addr) (a_l a_c : Nat) (b : Option Addr) (b_l b_c : Nat) (u : PH) (Q : Value → PH → Prop) : Prop :=
 (((((((a_l : Nat) : Int)) : Int) != (((b_l : Nat) : Int))) = true →
 Q (.bool false) u) ∧
 ((((((a_l : Nat) : Int)) : Int) != (((b_l : Nat) : Int))) = false →
 ∃ (I1 : Bool → Int → PH → Prop) (M2 : Bool → Int → PH → Nat), I1 false 0 u ∧
 ∀ b3 : Bool, ∀ n4 : Int, ∀ u5 : PH, I1 b3 n4 u5 →
 ((decide ((n4 : Int) < (((a_l : Nat) : Int)))) = true →
 ∃ b6 o7 : Nat, (a : Option Addr) = some ⟨b6, o7, none⟩ ∧ ((0 : Int) ≤ n4 ∧ (n4 : Int) < ((a_l : Nat) : Int)) ∧
 ∃ n8 : Int, ∃ n9 : Int, ∃ n10 : Int, ∃ n11 : Int, ∃ n12 : Int, ∃ n13 : Int, ∃ n14 : Int, ∃ n15 : Int, ∃ n16 : Int, ∃ n17 : Int, ∃ n18 : Int, ∃ b19 : Bool, ∃ n20 : Int, PH.cells u5 b6 (o7 + (n4 : Int).toNat * 13) [.int .i64 n8, .int .i64 n9, .int .i64 n10, .int .i64 n11, .int .i64 n12, .int .i64 n13, .int .i64 n14, .int .i64 n15, .int .i64 n16, .int .i64 n17, .int .i64 n18, .bool b19, .int .i64 n20] ∧
 ∃ b21 o22 : Nat, (b : Option Addr) = some ⟨b21, o22, none⟩ ∧ ((0 : Int) ≤ n4 ∧ (n4 : Int) < ((b_l : Nat) : Int)) ∧
 ∃ n23 : Int, ∃ n24 : Int, ∃ n25 : Int, ∃ n26 : Int, ∃ n27 : Int, ∃ n28 : Int, ∃ n29 : Int, ∃ n30 : Int, ∃ n31 : Int, ∃ n32 : Int, ∃ n33 : Int, ∃ b34 : Bool, ∃ n35 : Int, PH.cells u5 b21 (o22 + (n4 : Int).toNat * 13) [.int .i64 n23, .int .i64 n24, .int .i64 n25, .int .i64 n26, .int .i64 n27, .int .i64 n28, .int .i64 n29, .int .i64 n30, .int .i64 n31, .int .i64 n32, .int .i64 n33, .bool b34, .int .i64 n35] ∧
 ((!(((n8 : Int) == n23) && (((n9 : Int) == n24) && ((((n10 : Int) == n25) && (((n11 : Int) == n26) && (((n12 : Int) == n27) && (((n13 : Int) == n28) && ((n14 : Int) == n29))))) && (((n15 : Int) == n30) && (((n16 : Int) == n31) && (((n17 : Int) == n32) && (((n18 : Int) == n33) && ((b19 == b34) && ((n20 : Int) == n35)))))))))) = true →
 Q (.bool false) u5) ∧
 ((!(((n8 : Int) == n23) && (((n9 : Int) == n24) && ((((n10 : Int) == n25) && (((n11 : Int) == n26) && (((n12 : Int) == n27) && (((n13 : Int) == n28) && ((n14 : Int) == n29))))) && (((n15 : Int) == n30) && (((n16 : Int) == n31) && (((n17 : Int) == n32) && (((n18 : Int) == n33) && ((b19 == b34) && ((n20 : Int) == n35)))))))))) = false →
 I1 b3 (IntKind.wrap .i64 (n4 + 1)) u5 ∧ M2 b3 (IntKind.wrap .i64 (n4 + 1)) u5 < M2 b3 n4 u5)) ∧
 ((decide ((n4 : Int) < (((a_l : Nat) : Int)))) = false →
 Q (.bool true) u5)))
set_option maxRecDepth 100000 in
theorem f13_vc (a : Option Addr) (a_l a_c : Nat) (b : Option Addr) (b_l b_c : Nat) (u : PH) (Q : Value → PH → Prop) : fnVC Try.prog f13_h Try.f13 [.c (.v (.slice a a_l a_c)), .c (.v (.slice b b_l b_c))] u Q = f13_V a a_l a_c b b_l b_c u Q := by kernel_rfl
theorem f13_of {a : Option Addr} {a_l a_c : Nat} {b : Option Addr} {b_l b_c : Nat} {u : PH} {Q : Value → PH → Prop} (h : f13_V a a_l a_c b b_l b_c u Q) : Spec Try.prog 13 #[.slice a a_l a_c, .slice b b_l b_c] u Q :=
  spec_of_vc (H := f13_h) (ps := [.c (.v (.slice a a_l a_c)), .c (.v (.slice b b_l b_c))]) Try.func13 rfl (by rw [f13_vc]; exact h)
/-- cortado/hist.Counted -/
def f14_h : Hints := ⟨[], []⟩
set_option maxRecDepth 100000 in
def f14_V (l : Option Addr) (l_l l_c : Nat) (u : PH) (Q : Value → PH → Prop) : Prop :=
 (Spec Try.prog 38 #[.slice l l_l l_c, .func (.func 39) #[] #[], .func (.func 40) #[] #[]] u (fun v1 u2 =>
 ∃ (a3 : Option Addr) (l4 c5 : Nat), v1 = .slice a3 l4 c5 ∧
 Q (.slice a3 l4 c5) u2))
set_option maxRecDepth 100000 in
theorem f14_vc (l : Option Addr) (l_l l_c : Nat) (u : PH) (Q : Value → PH → Prop) : fnVC Try.prog f14_h Try.f14 [.c (.v (.slice l l_l l_c))] u Q = f14_V l l_l l_c u Q := by kernel_rfl
theorem f14_of {l : Option Addr} {l_l l_c : Nat} {u : PH} {Q : Value → PH → Prop} (h : f14_V l l_l l_c u Q) : Spec Try.prog 14 #[.slice l l_l l_c] u Q :=
  spec_of_vc (H := f14_h) (ps := [.c (.v (.slice l l_l l_c))]) Try.func14 rfl (by rw [f14_vc]; exact h)
/-- cortado/cortadoref37.Counted -/
def f15_h : Hints := ⟨[(3, ⟨[(3, .slice), (4, .int .i64)], [], []⟩), (7, ⟨[(5, .int .i64)], [], []⟩)], [(9, ⟨[(5, .int .i64)], [], []⟩)]⟩
set_option maxRecDepth 100000 in
def f15_V (l : Option Addr) (l_l l_c : Nat) (u : PH) (Q : Value → PH → Prop) : Prop :=
 (∃ (I1 : Option Addr → Nat → Nat → Int → PH → Prop) (M2 : Option Addr → Nat → Nat → Int → PH → Nat), I1 none 0 0 0 u ∧
 ∀ (a3 : Option Addr) (l4 c5 : Nat), ∀ n6 : Int, ∀ u7 : PH, I1 a3 l4 c5 n6 u7 →
 ((decide ((n6 : Int) < (((l_l : Nat) : Int)))) = true →
 ∃ b8 o9 : Nat, (l : Option Addr) = some ⟨b8, o9, none⟩ ∧ ((0 : Int) ≤ n6 ∧ (n6 : Int) < ((l_l : Nat) : Int)) ∧
 ∃ n10 : Int, PH.cell u7 b8 (o9 + (n6 : Int).toNat * 13 + 8) = some (.int .i64 n10) ∧
 ((decide ((n10 : Int) < 0)) = true →
 I1 a3 l4 c5 (IntKind.wrap .i64 (n6 + 1)) u7 ∧ M2 a3 l4 c5 (IntKind.wrap .i64 (n6 + 1)) u7 < M2 a3 l4 c5 n6 u7) ∧
 ((decide ((n10 : Int) < 0)) = false →
 ∃ J11 : Int → PH → Prop, (∃ (I12 : Int → PH → Prop) (M13 : Int → PH → Nat), I12 (((l4 : Nat) : Int)) u7 ∧
 ∀ n14 : Int, ∀ u15 : PH, I12 n14 u15 →
 ((decide ((n14 : Int) > 0)) = true →
 ∃ b16 o17 : Nat, (a3 : Option Addr) = some ⟨b16, o17, none⟩ ∧ ((0 : Int) ≤ (IntKind.wrap .i64 (n14 - 1)) ∧ ((IntKind.wrap .i64 (n14 - 1)) : Int) < ((l4 : Nat) : Int)) ∧
 ∃ n18 : Int, PH.cell u15 b16 (o17 + ((IntKind.wrap .i64 (n14 - 1)) : Int).toNat * 13 + 8) = some (.int .i64 n18) ∧
 ∃ b19 o20 : Nat, (l : Option Addr) = some ⟨b19, o20, none⟩ ∧ ((0 : Int) ≤ n6 ∧ (n6 : Int) < ((l_l : Nat) : Int)) ∧
 ∃ n21 : Int, PH.cell u15 b19 (o20 + (n6 : Int).toNat * 13 + 8) = some (.int .i64 n21) ∧
 ((decide ((n18 : Int) > n21)) = true →
 I12 (IntKind.wrap .i64 (n14 - 1)) u15 ∧ M13 (IntKind.wrap .i64 (n14 - 1)) u15 < M13 n14 u15) ∧
 ((decide ((n18 : Int) > n21)) = false →
 J11 n14 u15)) ∧
 ((decide ((n14 : Int) > 0)) = false →
 J11 n14 u15)) ∧
 (∀ n22 : Int, ∀ u23 : PH, J11 n22 u23 →
 ∃ w24 : PH, Ext w24 u23 ∧
 (((0 : Int) ≤ 0 ∧ (0 : Int) ≤ n22 ∧ n22 ≤ ((c5 : Nat) : Int)) ∧
 ∃ b25 o26 : Nat, (l : Option Addr) = some ⟨b25, o26, none⟩ ∧ ((0 : Int) ≤ n6 ∧ (n6 : Int) < ((l_l : Nat) : Int)) ∧
 ∃ n27 : Int, ∃ n28 : Int, ∃ n29 : Int, ∃ n30 : Int, ∃ n31 : Int, ∃ n32 : Int, ∃ n33 : Int, ∃ n34 : Int, ∃ n35 : Int, ∃ n36 : Int, ∃ n37 : Int, ∃ b38 : Bool, ∃ n39 : Int, PH.cells w24 b25 (o26 + (n6 : Int).toNat * 13) [.int .i64 n27, .int .i64 n28, .int .i64 n29, .int .i64 n30, .int .i64 n31, .int .i64 n32, .int .i64 n33, .int .i64 n34, .int .i64 n35, .int .i64 n36, .int .i64 n37, .bool b38, .int .i64 n39] ∧
 ((0 : Int) ≤ n22 ∧ (n22 : Int) ≤ ((l4 : Nat) : Int) ∧ ((l4 : Nat) : Int) ≤ ((c5 : Nat) : Int)) ∧
 (∀ B40 : Nat, u23 B40 = none →
 Ext w24 (PH.add u23 B40 (.cells #[] 28)) ∧
 (SemSpec Try.prog (Builtin.append_ #[22, 22] 22 #[.slice ((some ⟨B40, 0, none⟩)) 0 0, .slice ((subA a3 (0 : Int).toNat c5 13)) (((n22 : Int).toNat - (0 : Int).toNat)) ((c5 - (0 : Int).toNat))]) (PH.add u23 B40 (.cells #[] 28)) (fun v41 u42 =>
 ∃ (a43 : Option Addr) (l44 c45 : Nat), v41 = .slice a43 l44 c45 ∧
 Ext w24 u42 ∧
 ∀ B46 : Nat, u42 B46 = none →
 SemSpec Try.prog (Builtin.append_ #[22, 22] 22 #[.slice a43 l44 c45, .slice ((some ⟨B46, 0, none⟩)) 1 1]) (PH.add u42 B46 (.cells #[.int .i64 n27, .int .i64 n28, .int .i64 n29, .int .i64 n30, .int .i64 n31, .int .i64 n32, .int .i64 n33, .int .i64 n34, .int .i64 n35, .int .i64 n36, .int .i64 n37, .bool b38, .int .i64 n39] 28)) (fun v47 u48 =>
 ∃ (a49 : Option Addr) (l50 c51 : Nat), v47 = .slice a49 l50 c51 ∧
 Ext w24 u48 ∧
 SemSpec Try.prog (Builtin.append_ #[22, 22] 22 #[.slice a49 l50 c51, .slice ((subA a3 (n22 : Int).toNat c5 13)) (((((l4 : Nat) : Int) : Int).toNat - (n22 : Int).toNat)) ((c5 - (n22 : Int).toNat))]) u48 (fun v52 u53 =>
 ∃ (a54 : Option Addr) (l55 c56 : Nat), v52 = .slice a54 l55 c56 ∧
 Ext w24 u53 ∧
 I1 a54 l55 c56 (IntKind.wrap .i64 (n6 + 1)) u53 ∧ M2 a54 l55 c56 (IntKind.wrap .i64 (n6 + 1)) u53 < M2 a3 l4 c5 n6 u7))))
 ∧ (∀ B57 : Nat, (PH.add u23 B40 (.cells #[] 28)) B57 = none →
 SemSpec Try.prog (Builtin.append_ #[22, 22] 22 #[.slice ((some ⟨B40, 0, none⟩)) 0 0, .slice ((subA a3 (0 : Int).toNat c5 13)) (((n22 : Int).toNat - (0 : Int).toNat)) ((c5 - (0 : Int).toNat))]) (PH.add (PH.add u23 B40 (.cells #[] 28)) B57 (.cells #[.int .i64 n27, .int .i64 n28, .int .i64 n29, .int .i64 n30, .int .i64 n31, .int .i64 n32, .int .i64 n33, .int .i64 n34, .int .i64 n35, .int .i64 n36, .int .i64 n37, .bool b38, .int .i64 n39] 28)) (fun v58 u59 =>
 ∃ (a60 : Option Addr) (l61 c62 : Nat), v58 = .slice a60 l61 c62 ∧
 Ext w24 u59 ∧
 SemSpec Try.prog (Builtin.append_ #[22, 22] 22 #[.slice a60 l61 c62, .slice ((some ⟨B57, 0, none⟩)) 1 1]) u59 (fun v63 u64 =>
 ∃ (a65 : Option Addr) (l66 c67 : Nat), v63 = .slice a65 l66 c67 ∧
 Ext w24 u64 ∧
 SemSpec Try.prog (Builtin.append_ #[22, 22] 22 #[.slice a65 l66 c67, .slice ((subA a3 (n22 : Int).toNat c5 13)) (((((l4 : Nat) : Int) : Int).toNat - (n22 : Int).toNat)) ((c5 - (n22 : Int).toNat))]) u64 (fun v68 u69 =>
 ∃ (a70 : Option Addr) (l71 c72 : Nat), v68 = .slice a70 l71 c72 ∧
 Ext w24 u69 ∧
 I1 a70 l71 c72 (IntKind.wrap .i64 (n6 + 1)) u69 ∧ M2 a70 l71 c72 (IntKind.wrap .i64 (n6 + 1)) u69 < M2 a3 l4 c5 n6 u7)))))
 ∧ (∀ B73 : Nat, u23 B73 = none →
 ∀ B74 : Nat, (PH.add u23 B73 (.cells #[.int .i64 n27, .int .i64 n28, .int .i64 n29, .int .i64 n30, .int .i64 n31, .int .i64 n32, .int .i64 n33, .int .i64 n34, .int .i64 n35, .int .i64 n36, .int .i64 n37, .bool b38, .int .i64 n39] 28)) B74 = none →
 Ext w24 (PH.add (PH.add u23 B73 (.cells #[.int .i64 n27, .int .i64 n28, .int .i64 n29, .int .i64 n30, .int .i64 n31, .int .i64 n32, .int .i64 n33, .int .i64 n34, .int .i64 n35, .int .i64 n36, .int .i64 n37, .bool b38, .int .i64 n39] 28)) B74 (.cells #[] 28)) ∧
 SemSpec Try.prog (Builtin.append_ #[22, 22] 22 #[.slice ((some ⟨B74, 0, none⟩)) 0 0, .slice ((subA a3 (0 : Int).toNat c5 13)) (((n22 : Int).toNat - (0 : Int).toNat)) ((c5 - (0 : Int).toNat))]) (PH.add (PH.add u23 B73 (.cells #[.int .i64 n27, .int .i64 n28, .int .i64 n29, .int .i64 n30, .int .i64 n31, .int .i64 n32, .int .i64 n33, .int .i64 n34, .int .i64 n35, .int .i64 n36, .int .i64 n37, .bool b38, .int .i64 n39] 28)) B74 (.cells #[] 28)) (fun v75 u76 =>
 ∃ (a77 : Option Addr) (l78 c79 : Nat), v75 = .slice a77 l78 c79 ∧
 Ext w24 u76 ∧
 SemSpec Try.prog (Builtin.append_ #[22, 22] 22 #[.slice a77 l78 c79, .slice ((some ⟨B73, 0, none⟩)) 1 1]) u76 (fun v80 u81 =>
 ∃ (a82 : Option Addr) (l83 c84 : Nat), v80 = .slice a82 l83 c84 ∧
 Ext w24 u81 ∧
 SemSpec Try.prog (Builtin.append_ #[22, 22] 22 #[.slice a82 l83 c84, .slice ((subA a3 (n22 : Int).toNat c5 13)) (((((l4 : Nat) : Int) : Int).toNat - (n22 : Int).toNat)) ((c5 - (n22 : Int).toNat))]) u81 (fun v85 u86 =>
 ∃ (a87 : Option Addr) (l88 c89 : Nat), v85 = .slice a87 l88 c89 ∧
 Ext w24 u86 ∧
 I1 a87 l88 c89 (IntKind.wrap .i64 (n6 + 1)) u86 ∧ M2 a87 l88 c89 (IntKind.wrap .i64 (n6 + 1)) u86 < M2 a3 l4 c5 n6 u7)))))))) ∧
 ((decide ((n6 : Int) < (((l_l : Nat) : Int)))) = false →
 Q (.slice a3 l4 c5) u7))
set_option maxRecDepth 100000 in
theorem f15_vc (l : Option Addr) (l_l l_c : Nat) (u : PH) (Q : Value → PH → Prop) : fnVC Try.prog f15_h Try.f15 [.c (.v (.slice l l_l l_c))] u Q = f15_V l l_l l_c u Q := by kernel_rfl
theorem f15_of {l : Option Addr} {l_l l_c : Nat} {u : PH} {Q : Value → PH → Prop} (h : f15_V l l_l l_c u Q) : Spec Try.prog 15 #[.slice l l_l l_c] u Q :=
  spec_of_vc (H := f15_h) (ps := [.c (.v (.slice l l_l l_c))]) Try.func15 rfl (by rw [f15_vc]; exact h)
/-- cortado/hist.Order -/
def f16_h : Hints := ⟨[], []⟩
set_option maxRecDepth 100000 in
def f16_V (l : Option Addr) (l_l l_c : Nat) (u : PH) (Q : Value → PH → Prop) : Prop :=
 (Spec Try.prog 38 #[.slice l l_l l_c, .func (.func 41) #[] #[], .func (.func 42) #[] #[]] u (fun v1 u2 =>
 ∃ (a3 : Option Addr) (l4 c5 : Nat), v1 = .slice a3 l4 c5 ∧
 Q (.slice a3 l4 c5) u2))
set_option maxRecDepth 100000 in
theorem f16_vc (l : Option Addr) (l_l l_c : Nat) (u : PH) (Q : Value → PH → Prop) : fnVC Try.prog f16_h Try.f16 [.c (.v (.slice l l_l l_c))] u Q = f16_V l l_l l_c u Q := by kernel_rfl
theorem f16_of {l : Option Addr} {l_l l_c : Nat} {u : PH} {Q : Value → PH → Prop} (h : f16_V l l_l l_c u Q) : Spec Try.prog 16 #[.slice l l_l l_c] u Q :=
  spec_of_vc (H := f16_h) (ps := [.c (.v (.slice l l_l l_c))]) Try.func16 rfl (by rw [f16_vc]; exact h)
/-- cortado/cortadoref37.Order -/
def f17_h : Hints := ⟨[(3, ⟨[(3, .slice), (4, .int .i64)], [], []⟩), (6, ⟨[(5, .int .i64)], [], []⟩)], [(8, ⟨[(5, .int .i64)], [], []⟩)]⟩
set_option maxRecDepth 100000 in
def f17_V (l : Option Addr) (l_l l_c : Nat) (u : PH) (Q : Value → PH → Prop) : Prop :=
 (∃ (I1 : Option Addr → Nat → Nat → Int → PH → Prop) (M2 : Option Addr → Nat → Nat → Int → PH → Nat), I1 none 0 0 0 u ∧
 ∀ (a3 : Option Addr) (l4 c5 : Nat), ∀ n6 : Int, ∀ u7 : PH, I1 a3 l4 c5 n6 u7 →
 ((decide ((n6 : Int) < (((l_l : Nat) : Int)))) = true →
 ∃ J8 : Int → PH → Prop, (∃ (I9 : Int → PH → Prop) (M10 : Int → PH → Nat), I9 (((l4 : Nat) : Int)) u7 ∧
 ∀ n11 : Int, ∀ u12 : PH, I9 n11 u12 →
 ((decide ((n11 : Int) > 0)) = true →
 ∃ b13 o14 : Nat, (a3 : Option Addr) = some ⟨b13, o14, none⟩ ∧ ((0 : Int) ≤ (IntKind.wrap .i64 (n11 - 1)) ∧ ((IntKind.wrap .i64 (n11 - 1)) : Int) < ((l4 : Nat) : Int)) ∧
 ∃ n15 : Int, PH.cell u12 b13 (o14 + ((IntKind.wrap .i64 (n11 - 1)) : Int).toNat * 13 + 7) = some (.int .i64 n15) ∧
 ∃ b16 o17 : Nat, (l : Option Addr) = some ⟨b16, o17, none⟩ ∧ ((0 : Int) ≤ n6 ∧ (n6 : Int) < ((l_l : Nat) : Int)) ∧
 ∃ n18 : Int, PH.cell u12 b16 (o17 + (n6 : Int).toNat * 13 + 7) = some (.int .i64 n18) ∧
 ((decide ((n15 : Int) > n18)) = true →
 I9 (IntKind.wrap .i64 (n11 - 1)) u12 ∧ M10 (IntKind.wrap .i64 (n11 - 1)) u12 < M10 n11 u12) ∧
 ((decide ((n15 : Int) > n18)) = false →
 J8 n11 u12)) ∧
 ((decide ((n11 : Int) > 0)) = false →
 J8 n11 u12)) ∧
 (∀ n19 : Int, ∀ u20 : PH, J8 n19 u20 →
 ∃ w21 : PH, Ext w21 u20 ∧
 (((0 : Int) ≤ 0 ∧ (0 : Int) ≤ n19 ∧ n19 ≤ ((c5 : Nat) : Int)) ∧
 ∃ b22 o23 : Nat, (l : Option Addr) = some ⟨b22, o23, none⟩ ∧ ((0 : Int) ≤ n6 ∧ (n6 : Int) < ((l_l : Nat) : Int)) ∧
 ∃ n24 : Int, ∃ n25 : Int, ∃ n26 : Int, ∃ n27 : Int, ∃ n28 : Int, ∃ n29 : Int, ∃ n30 : Int, ∃ n31 : Int, ∃ n32 : Int, ∃ n33 : Int, ∃ n34 : Int, ∃ b35 : Bool, ∃ n36 : Int, PH.cells w21 b22 (o23 + (n6 : Int).toNat * 13) [.int .i64 n24, .int .i64 n25, .int .i64 n26, .int .i64 n27, .int .i64 n28, .int .i64 n29, .int .i64 n30, .int .i64 n31, .int .i64 n32, .int .i64 n33, .int .i64 n34, .bool b35, .int .i64 n36] ∧
 ((0 : Int) ≤ n19 ∧ (n19 : Int) ≤ ((l4 : Nat) : Int) ∧ ((l4 : Nat) : Int) ≤ ((c5 : Nat) : Int)) ∧
 (∀ B37 : Nat, u20 B37 = none →
 Ext w21 (PH.add u20 B37 (.cells #[] 28)) ∧
 (SemSpec Try.prog (Builtin.append_ #[22, 22] 22 #[.slice ((some ⟨B37, 0, none⟩)) 0 0, .slice ((subA a3 (0 : Int).toNat c5 13)) (((n19 : Int).toNat - (0 : Int).toNat)) ((c5 - (0 : Int).toNat))]) (PH.add u20 B37 (.cells #[] 28)) (fun v38 u39 =>
 ∃ (a40 : Option Addr) (l41 c42 : Nat), v38 = .slice a40 l41 c42 ∧
 Ext w21 u39 ∧
 ∀ B43 : Nat, u39 B43 = none →
 SemSpec Try.prog (Builtin.append_ #[22, 22] 22 #[.slice a40 l41 c42, .slice ((some ⟨B43, 0, none⟩)) 1 1]) (PH.add u39 B43 (.cells #[.int .i64 n24, .int .i64 n25, .int .i64 n26, .int .i64 n27, .int .i64 n28, .int .i64 n29, .int .i64 n30, .int .i64 n31, .int .i64 n32, .int .i64 n33, .int .i64 n34, .bool b35, .int .i64 n36] 28)) (fun v44 u45 =>
 ∃ (a46 : Option Addr) (l47 c48 : Nat), v44 = .slice a46 l47 c48 ∧
 Ext w21 u45 ∧
 SemSpec Try.prog (Builtin.append_ #[22, 22] 22 #[.slice a46 l47 c48, .slice ((subA a3 (n19 : Int).toNat c5 13)) (((((l4 : Nat) : Int) : Int).toNat - (n19 : Int).toNat)) ((c5 - (n19 : Int).toNat))]) u45 (fun v49 u50 =>
 ∃ (a51 : Option Addr) (l52 c53 : Nat), v49 = .slice a51 l52 c53 ∧
 Ext w21 u50 ∧
 I1 a51 l52 c53 (IntKind.wrap .i64 (n6 + 1)) u50 ∧ M2 a51 l52 c53 (IntKind.wrap .i64 (n6 + 1)) u50 < M2 a3 l4 c5 n6 u7))))
 ∧ (∀ B54 : Nat, (PH.add u20 B37 (.cells #[] 28)) B54 = none →
 SemSpec Try.prog (Builtin.append_ #[22, 22] 22 #[.slice ((some ⟨B37, 0, none⟩)) 0 0, .slice ((subA a3 (0 : Int).toNat c5 13)) (((n19 : Int).toNat - (0 : Int).toNat)) ((c5 - (0 : Int).toNat))]) (PH.add (PH.add u20 B37 (.cells #[] 28)) B54 (.cells #[.int .i64 n24, .int .i64 n25, .int .i64 n26, .int .i64 n27, .int .i64 n28, .int .i64 n29, .int .i64 n30, .int .i64 n31, .int .i64 n32, .int .i64 n33, .int .i64 n34, .bool b35, .int .i64 n36] 28)) (fun v55 u56 =>
 ∃ (a57 : Option Addr) (l58 c59 : Nat), v55 = .slice a57 l58 c59 ∧
 Ext w21 u56 ∧
 SemSpec Try.prog (Builtin.append_ #[22, 22] 22 #[.slice a57 l58 c59, .slice ((some ⟨B54, 0, none⟩)) 1 1]) u56 (fun v60 u61 =>
 ∃ (a62 : Option Addr) (l63 c64 : Nat), v60 = .slice a62 l63 c64 ∧
 Ext w21 u61 ∧
 SemSpec Try.prog (Builtin.append_ #[22, 22] 22 #[.slice a62 l63 c64, .slice ((subA a3 (n19 : Int).toNat c5 13)) (((((l4 : Nat) : Int) : Int).toNat - (n19 : Int).toNat)) ((c5 - (n19 : Int).toNat))]) u61 (fun v65 u66 =>
 ∃ (a67 : Option Addr) (l68 c69 : Nat), v65 = .slice a67 l68 c69 ∧
 Ext w21 u66 ∧
 I1 a67 l68 c69 (IntKind.wrap .i64 (n6 + 1)) u66 ∧ M2 a67 l68 c69 (IntKind.wrap .i64 (n6 + 1)) u66 < M2 a3 l4 c5 n6 u7)))))
 ∧ (∀ B70 : Nat, u20 B70 = none →
 ∀ B71 : Nat, (PH.add u20 B70 (.cells #[.int .i64 n24, .int .i64 n25, .int .i64 n26, .int .i64 n27, .int .i64 n28, .int .i64 n29, .int .i64 n30, .int .i64 n31, .int .i64 n32, .int .i64 n33, .int .i64 n34, .bool b35, .int .i64 n36] 28)) B71 = none →
 Ext w21 (PH.add (PH.add u20 B70 (.cells #[.int .i64 n24, .int .i64 n25, .int .i64 n26, .int .i64 n27, .int .i64 n28, .int .i64 n29, .int .i64 n30, .int .i64 n31, .int .i64 n32, .int .i64 n33, .int .i64 n34, .bool b35, .int .i64 n36] 28)) B71 (.cells #[] 28)) ∧
 SemSpec Try.prog (Builtin.append_ #[22, 22] 22 #[.slice ((some ⟨B71, 0, none⟩)) 0 0, .slice ((subA a3 (0 : Int).toNat c5 13)) (((n19 : Int).toNat - (0 : Int).toNat)) ((c5 - (0 : Int).toNat))]) (PH.add (PH.add u20 B70 (.cells #[.int .i64 n24, .int .i64 n25, .int .i64 n26, .int .i64 n27, .int .i64 n28, .int .i64 n29, .int .i64 n30, .int .i64 n31, .int .i64 n32, .int .i64 n33, .int .i64 n34, .bool b35, .int .i64 n36] 28)) B71 (.cells #[] 28)) (fun v72 u73 =>
 ∃ (a74 : Option Addr) (l75 c76 : Nat), v72 = .slice a74 l75 c76 ∧
 Ext w21 u73 ∧
 SemSpec Try.prog (Builtin.append_ #[22, 22] 22 #[.slice a74 l75 c76, .slice ((some ⟨B70, 0, none⟩)) 1 1]) u73 (fun v77 u78 =>
 ∃ (a79 : Option Addr) (l80 c81 : Nat), v77 = .slice a79 l80 c81 ∧
 Ext w21 u78 ∧
 SemSpec Try.prog (Builtin.append_ #[22, 22] 22 #[.slice a79 l80 c81, .slice ((subA a3 (n19 : Int).toNat c5 13)) (((((l4 : Nat) : Int) : Int).toNat - (n19 : Int).toNat)) ((c5 - (n19 : Int).toNat))]) u78 (fun v82 u83 =>
 ∃ (a84 : Option Addr) (l85 c86 : Nat), v82 = .slice a84 l85 c86 ∧
 Ext w21 u83 ∧
 I1 a84 l85 c86 (IntKind.wrap .i64 (n6 + 1)) u83 ∧ M2 a84 l85 c86 (IntKind.wrap .i64 (n6 + 1)) u83 < M2 a3 l4 c5 n6 u7))))))) ∧
 ((decide ((n6 : Int) < (((l_l : Nat) : Int)))) = false →
 Q (.slice a3 l4 c5) u7))
set_option maxRecDepth 100000 in
theorem f17_vc (l : Option Addr) (l_l l_c : Nat) (u : PH) (Q : Value → PH → Prop) : fnVC Try.prog f17_h Try.f17 [.c (.v (.slice l l_l l_c))] u Q = f17_V l l_l l_c u Q := by kernel_rfl
theorem f17_of {l : Option Addr} {l_l l_c : Nat} {u : PH} {Q : Value → PH → Prop} (h : f17_V l l_l l_c u Q) : Spec Try.prog 17 #[.slice l l_l l_c] u Q :=
  spec_of_vc (H := f17_h) (ps := [.c (.v (.slice l l_l l_c))]) Try.func17 rfl (by rw [f17_vc]; exact h)
/-- cortado/hist.Of -/
def f18_h : Hints := ⟨[], []⟩
set_option maxRecDepth 100000 in
def f18_V (l : Option Addr) (l_l l_c : Nat) (client : Int) (u : PH) (Q : Value → PH → Prop) : Prop :=
 (∀ B1 : Nat, u B1 = none →
 Spec Try.prog 38 #[.slice l l_l l_c, .func (.func 43) #[] #[.pointer (some ⟨B1, 0, none⟩)], .func (.func 44) #[] #[]] (PH.add u B1 (.cells #[.int .i64 client] 3)) (fun v2 u3 =>
 ∃ (a4 : Option Addr) (l5 c6 : Nat), v2 = .slice a4 l5 c6 ∧
 Q (.slice a4 l5 c6) u3))
set_option maxRecDepth 100000 in
theorem f18_vc (l : Option Addr) (l_l l_c : Nat) (client : Int) (u : PH) (Q : Value → PH → Prop) : fnVC Try.prog f18_h Try.f18 [.c (.v (.slice l l_l l_c)), .c (.v (.int .i64 client))] u Q = f18_V l l_l l_c client u Q := by kernel_rfl
theorem f18_of {l : Option Addr} {l_l l_c : Nat} {client : Int} {u : PH} {Q : Value → PH → Prop} (h : f18_V l l_l l_c client u Q) : Spec Try.prog 18 #[.slice l l_l l_c, .int .i64 client] u Q :=
  spec_of_vc (H := f18_h) (ps := [.c (.v (.slice l l_l l_c)), .c (.v (.int .i64 client))]) Try.func18 rfl (by rw [f18_vc]; exact h)
/-- cortado/cortadoref37.Of -/
def f19_h : Hints := ⟨[(3, ⟨[(5, .slice), (6, .int .i64)], [], []⟩)], []⟩
set_option maxRecDepth 100000 in
def f19_V (l : Option Addr) (l_l l_c : Nat) (client : Int) (u : PH) (Q : Value → PH → Prop) : Prop :=
 (∃ (I1 : Option Addr → Nat → Nat → Int → PH → Prop) (M2 : Option Addr → Nat → Nat → Int → PH → Nat), I1 none 0 0 0 u ∧
 ∀ (a3 : Option Addr) (l4 c5 : Nat), ∀ n6 : Int, ∀ u7 : PH, I1 a3 l4 c5 n6 u7 →
 ((decide ((n6 : Int) < (((l_l : Nat) : Int)))) = true →
 ∃ b8 o9 : Nat, (l : Option Addr) = some ⟨b8, o9, none⟩ ∧ ((0 : Int) ≤ n6 ∧ (n6 : Int) < ((l_l : Nat) : Int)) ∧
 ∃ n10 : Int, PH.cell u7 b8 (o9 + (n6 : Int).toNat * 13 + 0) = some (.int .i64 n10) ∧
 (((n10 : Int) == client) = true →
 ∃ b11 o12 : Nat, (l : Option Addr) = some ⟨b11, o12, none⟩ ∧ ((0 : Int) ≤ n6 ∧ (n6 : Int) < ((l_l : Nat) : Int)) ∧
 ∃ n13 : Int, ∃ n14 : Int, ∃ n15 : Int, ∃ n16 : Int, ∃ n17 : Int, ∃ n18 : Int, ∃ n19 : Int, ∃ n20 : Int, ∃ n21 : Int, ∃ n22 : Int, ∃ n23 : Int, ∃ b24 : Bool, ∃ n25 : Int, PH.cells u7 b11 (o12 + (n6 : Int).toNat * 13) [.int .i64 n13, .int .i64 n14, .int .i64 n15, .int .i64 n16, .int .i64 n17, .int .i64 n18, .int .i64 n19, .int .i64 n20, .int .i64 n21, .int .i64 n22, .int .i64 n23, .bool b24, .int .i64 n25] ∧
 ∀ B26 : Nat, u7 B26 = none →
 SemSpec Try.prog (Builtin.append_ #[22, 22] 22 #[.slice a3 l4 c5, .slice ((some ⟨B26, 0, none⟩)) 1 1]) (PH.add u7 B26 (.cells #[.int .i64 n13, .int .i64 n14, .int .i64 n15, .int .i64 n16, .int .i64 n17, .int .i64 n18, .int .i64 n19, .int .i64 n20, .int .i64 n21, .int .i64 n22, .int .i64 n23, .bool b24, .int .i64 n25] 28)) (fun v27 u28 =>
 ∃ (a29 : Option Addr) (l30 c31 : Nat), v27 = .slice a29 l30 c31 ∧
 I1 a29 l30 c31 (IntKind.wrap .i64 (n6 + 1)) u28 ∧ M2 a29 l30 c31 (IntKind.wrap .i64 (n6 + 1)) u28 < M2 a3 l4 c5 n6 u7)) ∧
 (((n10 : Int) == client) = false →
 I1 a3 l4 c5 (IntKind.wrap .i64 (n6 + 1)) u7 ∧ M2 a3 l4 c5 (IntKind.wrap .i64 (n6 + 1)) u7 < M2 a3 l4 c5 n6 u7)) ∧
 ((decide ((n6 : Int) < (((l_l : Nat) : Int)))) = false →
 Q (.slice a3 l4 c5) u7))
set_option maxRecDepth 100000 in
theorem f19_vc (l : Option Addr) (l_l l_c : Nat) (client : Int) (u : PH) (Q : Value → PH → Prop) : fnVC Try.prog f19_h Try.f19 [.c (.v (.slice l l_l l_c)), .c (.v (.int .i64 client))] u Q = f19_V l l_l l_c client u Q := by kernel_rfl
theorem f19_of {l : Option Addr} {l_l l_c : Nat} {client : Int} {u : PH} {Q : Value → PH → Prop} (h : f19_V l l_l l_c client u Q) : Spec Try.prog 19 #[.slice l l_l l_c, .int .i64 client] u Q :=
  spec_of_vc (H := f19_h) (ps := [.c (.v (.slice l l_l l_c)), .c (.v (.int .i64 client))]) Try.func19 rfl (by rw [f19_vc]; exact h)
/-- cortado/hist.Swaps -/
def f20_h : Hints := ⟨[(2, ⟨[(2, .int .i64), (9, .int .i64)], [], []⟩), (5, ⟨[(2, .int .i64), (19, .int .i64)], [], []⟩)], []⟩
set_option maxRecDepth 100000 in
def f20_V (l : Option Addr) (l_l l_c : Nat) (u : PH) (Q : Value → PH → Prop) : Prop :=
 (∃ (I1 : Int → Int → PH → Prop) (M2 : Int → Int → PH → Nat), I1 0 0 u ∧
 ∀ n3 : Int, ∀ n4 : Int, ∀ u5 : PH, I1 n3 n4 u5 →
 ((decide ((n4 : Int) < (((l_l : Nat) : Int)))) = true →
 ∃ b6 o7 : Nat, (l : Option Addr) = some ⟨b6, o7, none⟩ ∧ ((0 : Int) ≤ n4 ∧ (n4 : Int) < ((l_l : Nat) : Int)) ∧
 ∃ n8 : Int, ∃ n9 : Int, ∃ n10 : Int, ∃ n11 : Int, ∃ n12 : Int, ∃ n13 : Int, ∃ n14 : Int, ∃ n15 : Int, ∃ n16 : Int, ∃ n17 : Int, ∃ n18 : Int, ∃ b19 : Bool, ∃ n20 : Int, PH.cells u5 b6 (o7 + (n4 : Int).toNat * 13) [.int .i64 n8, .int .i64 n9, .int .i64 n10, .int .i64 n11, .int .i64 n12, .int .i64 n13, .int .i64 n14, .int .i64 n15, .int .i64 n16, .int .i64 n17, .int .i64 n18, .bool b19, .int .i64 n20] ∧
 ((0 : Int) ≤ (IntKind.wrap .i64 (n4 + 1)) ∧ ((IntKind.wrap .i64 (n4 + 1)) : Int) ≤ ((l_l : Nat) : Int) ∧ ((l_l : Nat) : Int) ≤ ((l_c : Nat) : Int)) ∧
 ∃ (I21 : Int → Int → PH → Prop) (M22 : Int → Int → PH → Nat), I21 n3 0 u5 ∧
 ∀ n23 : Int, ∀ n24 : Int, ∀ u25 : PH, I21 n23 n24 u25 →
 ((decide ((n24 : Int) < (((((((l_l : Nat) : Int) : Int).toNat - ((IntKind.wrap .i64 (n4 + 1)) : Int).toNat) : Nat) : Int)))) = true →
 ∃ b26 o27 : Nat, ((subA l ((IntKind.wrap .i64 (n4 + 1)) : Int).toNat l_c 13) : Option Addr) = some ⟨b26, o27, none⟩ ∧ ((0 : Int) ≤ n24 ∧ (n24 : Int) < ((((((l_l : Nat) : Int) : Int).toNat - ((IntKind.wrap .i64 (n4 + 1)) : Int).toNat) : Nat) : Int)) ∧
 ∃ n28 : Int, ∃ n29 : Int, ∃ n30 : Int, ∃ n31 : Int, ∃ n32 : Int, ∃ n33 : Int, ∃ n34 : Int, ∃ n35 : Int, ∃ n36 : Int, ∃ n37 : Int, ∃ n38 : Int, ∃ b39 : Bool, ∃ n40 : Int, PH.cells u25 b26 (o27 + (n24 : Int).toNat * 13) [.int .i64 n28, .int .i64 n29, .int .i64 n30, .int .i64 n31, .int .i64 n32, .int .i64 n33, .int .i64 n34, .int .i64 n35, .int .i64 n36, .int .i64 n37, .int .i64 n38, .bool b39, .int .i64 n40] ∧
 Spec Try.prog 7 #[.agg #[.int .i64 n28, .int .i64 n29, .int .i64 n30, .int .i64 n31, .int .i64 n32, .int .i64 n33, .int .i64 n34, .int .i64 n35, .int .i64 n36, .int .i64 n37, .int .i64 n38, .bool b39, .int .i64 n40], .agg #[.int .i64 n8, .int .i64 n9, .int .i64 n10, .int .i64 n11, .int .i64 n12, .int .i64 n13, .int .i64 n14, .int .i64 n15, .int .i64 n16, .int .i64 n17, .int .i64 n18, .bool b19, .int .i64 n20]] u25 (fun v41 u42 =>
 ∃ b43 : Bool, v41 = .bool b43 ∧
 (b43 = true →
 I21 (IntKind.wrap .i64 (n23 + 1)) (IntKind.wrap .i64 (n24 + 1)) u42 ∧ M22 (IntKind.wrap .i64 (n23 + 1)) (IntKind.wrap .i64 (n24 + 1)) u42 < M22 n23 n24 u25) ∧
 (b43 = false →
 I21 n23 (IntKind.wrap .i64 (n24 + 1)) u42 ∧ M22 n23 (IntKind.wrap .i64 (n24 + 1)) u42 < M22 n23 n24 u25))) ∧
 ((decide ((n24 : Int) < (((((((l_l : Nat) : Int) : Int).toNat - ((IntKind.wrap .i64 (n4 + 1)) : Int).toNat) : Nat) : Int)))) = false →
 I1 n23 (IntKind.wrap .i64 (n4 + 1)) u25 ∧ M2 n23 (IntKind.wrap .i64 (n4 + 1)) u25 < M2 n3 n4 u5)) ∧
 ((decide ((n4 : Int) < (((l_l : Nat) : Int)))) = false →
 Q (.int .i64 n3) u5))
set_option maxRecDepth 100000 in
theorem f20_vc (l : Option Addr) (l_l l_c : Nat) (u : PH) (Q : Value → PH → Prop) : fnVC Try.prog f20_h Try.f20 [.c (.v (.slice l l_l l_c))] u Q = f20_V l l_l l_c u Q := by kernel_rfl
theorem f20_of {l : Option Addr} {l_l l_c : Nat} {u : PH} {Q : Value → PH → Prop} (h : f20_V l l_l l_c u Q) : Spec Try.prog 20 #[.slice l l_l l_c] u Q :=
  spec_of_vc (H := f20_h) (ps := [.c (.v (.slice l l_l l_c))]) Try.func20 rfl (by rw [f20_vc]; exact h)
/-- cortado/cortadoref37.Swaps -/
def f21_h : Hints := ⟨[(3, ⟨[(3, .int .i64), (4, .int .i64)], [], []⟩), (6, ⟨[(3, .int .i64), (5, .int .i64)], [], []⟩)], []⟩
set_option maxRecDepth 100000 in
def f21_V (l : Option Addr) (l_l l_c : Nat) (u : PH) (Q : Value → PH → Prop) : Prop :=
 (∃ (I1 : Int → Int → PH → Prop) (M2 : Int → Int → PH → Nat), I1 0 0 u ∧
 ∀ n3 : Int, ∀ n4 : Int, ∀ u5 : PH, I1 n3 n4 u5 →
 ((decide ((n4 : Int) < (((l_l : Nat) : Int)))) = true →
 ∃ (I6 : Int → Int → PH → Prop) (M7 : Int → Int → PH → Nat), I6 n3 0 u5 ∧
 ∀ n8 : Int, ∀ n9 : Int, ∀ u10 : PH, I6 n8 n9 u10 →
 ((decide ((n9 : Int) < n4)) = true →
 ∃ b11 o12 : Nat, (l : Option Addr) = some ⟨b11, o12, none⟩ ∧ ((0 : Int) ≤ n4 ∧ (n4 : Int) < ((l_l : Nat) : Int)) ∧
 ∃ n13 : Int, ∃ n14 : Int, ∃ n15 : Int, ∃ n16 : Int, ∃ n17 : Int, ∃ n18 : Int, ∃ n19 : Int, ∃ n20 : Int, ∃ n21 : Int, ∃ n22 : Int, ∃ n23 : Int, ∃ b24 : Bool, ∃ n25 : Int, PH.cells u10 b11 (o12 + (n4 : Int).toNat * 13) [.int .i64 n13, .int .i64 n14, .int .i64 n15, .int .i64 n16, .int .i64 n17, .int .i64 n18, .int .i64 n19, .int .i64 n20, .int .i64 n21, .int .i64 n22, .int .i64 n23, .bool b24, .int .i64 n25] ∧
 ∃ b26 o27 : Nat, (l : Option Addr) = some ⟨b26, o27, none⟩ ∧ ((0 : Int) ≤ n9 ∧ (n9 : Int) < ((l_l : Nat) : Int)) ∧
 ∃ n28 : Int, ∃ n29 : Int, ∃ n30 : Int, ∃ n31 : Int, ∃ n32 : Int, ∃ n33 : Int, ∃ n34 : Int, ∃ n35 : Int, ∃ n36 : Int, ∃ n37 : Int, ∃ n38 : Int, ∃ b39 : Bool, ∃ n40 : Int, PH.cells u10 b26 (o27 + (n9 : Int).toNat * 13) [.int .i64 n28, .int .i64 n29, .int .i64 n30, .int .i64 n31, .int .i64 n32, .int .i64 n33, .int .i64 n34, .int .i64 n35, .int .i64 n36, .int .i64 n37, .int .i64 n38, .bool b39, .int .i64 n40] ∧
 Spec Try.prog 8 #[.agg #[.int .i64 n13, .int .i64 n14, .int .i64 n15, .int .i64 n16, .int .i64 n17, .int .i64 n18, .int .i64 n19, .int .i64 n20, .int .i64 n21, .int .i64 n22, .int .i64 n23, .bool b24, .int .i64 n25], .agg #[.int .i64 n28, .int .i64 n29, .int .i64 n30, .int .i64 n31, .int .i64 n32, .int .i64 n33, .int .i64 n34, .int .i64 n35, .int .i64 n36, .int .i64 n37, .int .i64 n38, .bool b39, .int .i64 n40]] u10 (fun v41 u42 =>
 ∃ b43 : Bool, v41 = .bool b43 ∧
 (b43 = true →
 I6 (IntKind.wrap .i64 (n8 + 1)) (IntKind.wrap .i64 (n9 + 1)) u42 ∧ M7 (IntKind.wrap .i64 (n8 + 1)) (IntKind.wrap .i64 (n9 + 1)) u42 < M7 n8 n9 u10) ∧
 (b43 = false →
 I6 n8 (IntKind.wrap .i64 (n9 + 1)) u42 ∧ M7 n8 (IntKind.wrap .i64 (n9 + 1)) u42 < M7 n8 n9 u10))) ∧
 ((decide ((n9 : Int) < n4)) = false →
 I1 n8 (IntKind.wrap .i64 (n4 + 1)) u10 ∧ M2 n8 (IntKind.wrap .i64 (n4 + 1)) u10 < M2 n3 n4 u5)) ∧
 ((decide ((n4 : Int) < (((l_l : Nat) : Int)))) = false →
 Q (.int .i64 n3) u5))
set_option maxRecDepth 100000 in
theorem f21_vc (l : Option Addr) (l_l l_c : Nat) (u : PH) (Q : Value → PH → Prop) : fnVC Try.prog f21_h Try.f21 [.c (.v (.slice l l_l l_c))] u Q = f21_V l l_l l_c u Q := by kernel_rfl
theorem f21_of {l : Option Addr} {l_l l_c : Nat} {u : PH} {Q : Value → PH → Prop} (h : f21_V l l_l l_c u Q) : Spec Try.prog 21 #[.slice l l_l l_c] u Q :=
  spec_of_vc (H := f21_h) (ps := [.c (.v (.slice l l_l l_c))]) Try.func21 rfl (by rw [f21_vc]; exact h)
/-- cortado/prog.Right -/
def f31_h : Hints := ⟨[], []⟩
set_option maxRecDepth 100000 in
def f31_V (op : Op) (u : PH) (Q : Value → PH → Prop) : Prop :=
 (∃ w1 : PH, Ext w1 u ∧
 (Spec Try.prog 52 #[.int .i64 op.kind] u (fun v2 u3 =>
 ∃ b4 : Bool, v2 = .bool b4 ∧
 Ext w1 u3 ∧
 (Ext w1 u3 ∧
 ((b4 = true →
 Spec Try.prog 53 #[.agg #[.int .i64 op.kind, .int .i64 op.key, .int .i64 op.val, .int .i64 op.cost, .int .i64 op.ttl]] u3 (fun v5 u6 =>
 ∃ n7 : Int, ∃ n8 : Int, ∃ n9 : Int, ∃ n10 : Int, ∃ n11 : Int, v5 = .agg #[.int .i64 n7, .int .i64 n8, .int .i64 n9, .int .i64 n10, .int .i64 n11] ∧
 Ext w1 u6 ∧
 Ext w1 u6 ∧
 Q (.bool (((n7 : Int) == op.kind) && (((n8 : Int) == op.key) && (((n9 : Int) == op.val) && (((n10 : Int) == op.cost) && ((n11 : Int) == op.ttl)))))) u6)) ∧
 (b4 = false →
 Ext w1 u3 ∧
 Ext w1 u3 ∧
 Q (.bool false) u3))
 ∧ (Ext w1 u3 ∧
 (b4 = true →
 Spec Try.prog 53 #[.agg #[.int .i64 op.kind, .int .i64 op.key, .int .i64 op.val, .int .i64 op.cost, .int .i64 op.ttl]] u3 (fun v12 u13 =>
 ∃ n14 : Int, ∃ n15 : Int, ∃ n16 : Int, ∃ n17 : Int, ∃ n18 : Int, v12 = .agg #[.int .i64 n14, .int .i64 n15, .int .i64 n16, .int .i64 n17, .int .i64 n18] ∧
 Ext w1 u13 ∧
 Q (.bool (((n14 : Int) == op.kind) && (((n15 : Int) == op.key) && (((n16 : Int) == op.val) && (((n17 : Int) == op.cost) && ((n18 : Int) == op.ttl)))))) u13)) ∧
 (b4 = false →
 Ext w1 u3 ∧
 Q (.bool false) u3)))
 ∧ (Ext w1 u3 ∧
 Ext w1 u3 ∧
 (b4 = true →
 Spec Try.prog 53 #[.agg #[.int .i64 op.kind, .int .i64 op.key, .int .i64 op.val, .int .i64 op.cost, .int .i64 op.ttl]] u3 (fun v19 u20 =>
 ∃ n21 : Int, ∃ n22 : Int, ∃ n23 : Int, ∃ n24 : Int, ∃ n25 : Int, v19 = .agg #[.int .i64 n21, .int .i64 n22, .int .i64 n23, .int .i64 n24, .int .i64 n25] ∧
 Ext w1 u20 ∧
 Q (.bool (((n21 : Int) == op.kind) && (((n22 : Int) == op.key) && (((n23 : Int) == op.val) && (((n24 : Int) == op.cost) && ((n25 : Int) == op.ttl)))))) u20)) ∧
 (b4 = false →
 Ext w1 u3 ∧
 Q (.bool false) u3)))))
set_option maxRecDepth 100000 in
theorem f31_vc (op : Op) (u : PH) (Q : Value → PH → Prop) : fnVC Try.prog f31_h Try.f31 [.agg [.v (.int .i64 op.kind), .v (.int .i64 op.key), .v (.int .i64 op.val), .v (.int .i64 op.cost), .v (.int .i64 op.ttl)]] u Q = f31_V op u Q := by kernel_rfl
theorem f31_of {op : Op} {u : PH} {Q : Value → PH → Prop} (h : f31_V op u Q) : Spec Try.prog 31 #[.agg #[.int .i64 op.kind, .int .i64 op.key, .int .i64 op.val, .int .i64 op.cost, .int .i64 op.ttl]] u Q :=
  spec_of_vc (H := f31_h) (ps := [.agg [.v (.int .i64 op.kind), .v (.int .i64 op.key), .v (.int .i64 op.val), .v (.int .i64 op.cost), .v (.int .i64 op.ttl)]]) Try.func31 rfl (by rw [f31_vc]; exact h)
/-- cortado/hist.timed -/
def f32_h : Hints := ⟨[], []⟩
set_option maxRecDepth 100000 in
def f32_V (c : Call) (u : PH) (Q : Value → PH → Prop) : Prop :=
 (((decide ((c.beg : Int) < 0)) = true →
 Q (.bool false) u) ∧
 ((decide ((c.beg : Int) < 0)) = false →
 ((decide ((c.at_ : Int) < 0)) = true →
 Q (.bool (decide ((c.end_ : Int) < 0))) u) ∧
 ((decide ((c.at_ : Int) < 0)) = false →
 Q (.bool ((decide ((c.at_ : Int) ≥ c.beg)) && ((decide ((c.end_ : Int) < 0)) || (decide ((c.end_ : Int) ≥ c.at_))))) u)))
set_option maxRecDepth 100000 in
theorem f32_vc (c : Call) (u : PH) (Q : Value → PH → Prop) : fnVC Try.prog f32_h Try.f32 [.agg [.v (.int .i64 c.client), .v (.int .i64 c.id), .v (.int .i64 c.op.kind), .v (.int .i64 c.op.key), .v (.int .i64 c.op.val), .v (.int .i64 c.op.cost), .v (.int .i64 c.op.ttl), .v (.int .i64 c.beg), .v (.int .i64 c.at_), .v (.int .i64 c.end_), .v (.int .i64 c.tick), .v (.bool c.ok), .v (.int .i64 c.got)]] u Q = f32_V c u Q := by kernel_rfl
theorem f32_of {c : Call} {u : PH} {Q : Value → PH → Prop} (h : f32_V c u Q) : Spec Try.prog 32 #[.agg #[.int .i64 c.client, .int .i64 c.id, .int .i64 c.op.kind, .int .i64 c.op.key, .int .i64 c.op.val, .int .i64 c.op.cost, .int .i64 c.op.ttl, .int .i64 c.beg, .int .i64 c.at_, .int .i64 c.end_, .int .i64 c.tick, .bool c.ok, .int .i64 c.got]] u Q :=
  spec_of_vc (H := f32_h) (ps := [.agg [.v (.int .i64 c.client), .v (.int .i64 c.id), .v (.int .i64 c.op.kind), .v (.int .i64 c.op.key), .v (.int .i64 c.op.val), .v (.int .i64 c.op.cost), .v (.int .i64 c.op.ttl), .v (.int .i64 c.beg), .v (.int .i64 c.at_), .v (.int .i64 c.end_), .v (.int .i64 c.tick), .v (.bool c.ok), .v (.int .i64 c.got)]]) Try.func32 rfl (by rw [f32_vc]; exact h)
/-- cortado/hist.Right$1 -/
def f33_h : Hints := ⟨[], []⟩
set_option maxRecDepth 100000 in
def f33_V (d : Call) (B0 : Nat) (u : PH) (Q : Value → PH → Prop) : Prop :=
 (∃ n1 : Int, ∃ n2 : Int, ∃ n3 : Int, ∃ n4 : Int, ∃ n5 : Int, ∃ n6 : Int, ∃ n7 : Int, ∃ n8 : Int, ∃ n9 : Int, ∃ n10 : Int, ∃ n11 : Int, ∃ b12 : Bool, ∃ n13 : Int, PH.cells u B0 0 [.int .i64 n1, .int .i64 n2, .int .i64 n3, .int .i64 n4, .int .i64 n5, .int .i64 n6, .int .i64 n7, .int .i64 n8, .int .i64 n9, .int .i64 n10, .int .i64 n11, .bool b12, .int .i64 n13] ∧
 Spec Try.prog 34 #[.agg #[.int .i64 n1, .int .i64 n2, .int .i64 n3, .int .i64 n4, .int .i64 n5, .int .i64 n6, .int .i64 n7, .int .i64 n8, .int .i64 n9, .int .i64 n10, .int .i64 n11, .bool b12, .int .i64 n13], .agg #[.int .i64 d.client, .int .i64 d.id, .int .i64 d.op.kind, .int .i64 d.op.key, .int .i64 d.op.val, .int .i64 d.op.cost, .int .i64 d.op.ttl, .int .i64 d.beg, .int .i64 d.at_, .int .i64 d.end_, .int .i64 d.tick, .bool d.ok, .int .i64 d.got]] u (fun v14 u15 =>
 ∃ b16 : Bool, v14 = .bool b16 ∧
 Q (.bool (!b16)) u15))
set_option maxRecDepth 100000 in
theorem f33_vc (d : Call) (B0 : Nat) (u : PH) (Q : Value → PH → Prop) : fnVC Try.prog f33_h Try.f33 [.agg [.v (.int .i64 d.client), .v (.int .i64 d.id), .v (.int .i64 d.op.kind), .v (.int .i64 d.op.key), .v (.int .i64 d.op.val), .v (.int .i64 d.op.cost), .v (.int .i64 d.op.ttl), .v (.int .i64 d.beg), .v (.int .i64 d.at_), .v (.int .i64 d.end_), .v (.int .i64 d.tick), .v (.bool d.ok), .v (.int .i64 d.got)], .c (.ptr B0 0)] u Q = f33_V d B0 u Q := by kernel_rfl
theorem f33_of {d : Call} {B0 : Nat} {u : PH} {Q : Value → PH → Prop} (h : f33_V d B0 u Q) : Spec Try.prog 33 #[.agg #[.int .i64 d.client, .int .i64 d.id, .int .i64 d.op.kind, .int .i64 d.op.key, .int .i64 d.op.val, .int .i64 d.op.cost, .int .i64 d.op.ttl, .int .i64 d.beg, .int .i64 d.at_, .int .i64 d.end_, .int .i64 d.tick, .bool d.ok, .int .i64 d.got], .pointer (some ⟨B0, 0, none⟩)] u Q :=
  spec_of_vc (H := f33_h) (ps := [.agg [.v (.int .i64 d.client), .v (.int .i64 d.id), .v (.int .i64 d.op.kind), .v (.int .i64 d.op.key), .v (.int .i64 d.op.val), .v (.int .i64 d.op.cost), .v (.int .i64 d.op.ttl), .v (.int .i64 d.beg), .v (.int .i64 d.at_), .v (.int .i64 d.end_), .v (.int .i64 d.tick), .v (.bool d.ok), .v (.int .i64 d.got)], .c (.ptr B0 0)]) Try.func33 rfl (by rw [f33_vc]; exact h)
/-- cortado/hist.apart -/
def f34_h : Hints := ⟨[], []⟩
set_option maxRecDepth 100000 in
def f34_V (a : Call) (b : Call) (u : PH) (Q : Value → PH → Prop) : Prop :=
 (((((a.id : Int) == b.id) || ((decide ((a.at_ : Int) ≥ 0)) && ((a.at_ : Int) == b.at_))) = true →
 Q (.bool false) u) ∧
 ((((a.id : Int) == b.id) || ((decide ((a.at_ : Int) ≥ 0)) && ((a.at_ : Int) == b.at_))) = false →
 (((a.client : Int) != b.client) = true →
 Q (.bool true) u) ∧
 (((a.client : Int) != b.client) = false →
 Spec Try.prog 7 #[.agg #[.int .i64 a.client, .int .i64 a.id, .int .i64 a.op.kind, .int .i64 a.op.key, .int .i64 a.op.val, .int .i64 a.op.cost, .int .i64 a.op.ttl, .int .i64 a.beg, .int .i64 a.at_, .int .i64 a.end_, .int .i64 a.tick, .bool a.ok, .int .i64 a.got], .agg #[.int .i64 b.client, .int .i64 b.id, .int .i64 b.op.kind, .int .i64 b.op.key, .int .i64 b.op.val, .int .i64 b.op.cost, .int .i64 b.op.ttl, .int .i64 b.beg, .int .i64 b.at_, .int .i64 b.end_, .int .i64 b.tick, .bool b.ok, .int .i64 b.got]] u (fun v1 u2 =>
 ∃ b3 : Bool, v1 = .bool b3 ∧
 (b3 = true →
 Q (.bool true) u2) ∧
 (b3 = false →
 Spec Try.prog 7 #[.agg #[.int .i64 b.client, .int .i64 b.id, .int .i64 b.op.kind, .int .i64 b.op.key, .int .i64 b.op.val, .int .i64 b.op.cost, .int .i64 b.op.ttl, .int .i64 b.beg, .int .i64 b.at_, .int .i64 b.end_, .int .i64 b.tick, .bool b.ok, .int .i64 b.got], .agg #[.int .i64 a.client, .int .i64 a.id, .int .i64 a.op.kind, .int .i64 a.op.key, .int .i64 a.op.val, .int .i64 a.op.cost, .int .i64 a.op.ttl, .int .i64 a.beg, .int .i64 a.at_, .int .i64 a.end_, .int .i64 a.tick, .bool a.ok, .int .i64 a.got]] u2 (fun v4 u5 =>
 ∃ b6 : Bool, v4 = .bool b6 ∧
 Q (.bool b6) u5))))))
set_option maxRecDepth 100000 in
theorem f34_vc (a : Call) (b : Call) (u : PH) (Q : Value → PH → Prop) : fnVC Try.prog f34_h Try.f34 [.agg [.v (.int .i64 a.client), .v (.int .i64 a.id), .v (.int .i64 a.op.kind), .v (.int .i64 a.op.key), .v (.int .i64 a.op.val), .v (.int .i64 a.op.cost), .v (.int .i64 a.op.ttl), .v (.int .i64 a.beg), .v (.int .i64 a.at_), .v (.int .i64 a.end_), .v (.int .i64 a.tick), .v (.bool a.ok), .v (.int .i64 a.got)], .agg [.v (.int .i64 b.client), .v (.int .i64 b.id), .v (.int .i64 b.op.kind), .v (.int .i64 b.op.key), .v (.int .i64 b.op.val), .v (.int .i64 b.op.cost), .v (.int .i64 b.op.ttl), .v (.int .i64 b.beg), .v (.int .i64 b.at_), .v (.int .i64 b.end_), .v (.int .i64 b.tick), .v (.bool b.ok), .v (.int .i64 b.got)]] u Q = f34_V a b u Q := by kernel_rfl
theorem f34_of {a : Call} {b : Call} {u : PH} {Q : Value → PH → Prop} (h : f34_V a b u Q) : Spec Try.prog 34 #[.agg #[.int .i64 a.client, .int .i64 a.id, .int .i64 a.op.kind, .int .i64 a.op.key, .int .i64 a.op.val, .int .i64 a.op.cost, .int .i64 a.op.ttl, .int .i64 a.beg, .int .i64 a.at_, .int .i64 a.end_, .int .i64 a.tick, .bool a.ok, .int .i64 a.got], .agg #[.int .i64 b.client, .int .i64 b.id, .int .i64 b.op.kind, .int .i64 b.op.key, .int .i64 b.op.val, .int .i64 b.op.cost, .int .i64 b.op.ttl, .int .i64 b.beg, .int .i64 b.at_, .int .i64 b.end_, .int .i64 b.tick, .bool b.ok, .int .i64 b.got]] u Q :=
  spec_of_vc (H := f34_h) (ps := [.agg [.v (.int .i64 a.client), .v (.int .i64 a.id), .v (.int .i64 a.op.kind), .v (.int .i64 a.op.key), .v (.int .i64 a.op.val), .v (.int .i64 a.op.cost), .v (.int .i64 a.op.ttl), .v (.int .i64 a.beg), .v (.int .i64 a.at_), .v (.int .i64 a.end_), .v (.int .i64 a.tick), .v (.bool a.ok), .v (.int .i64 a.got)], .agg [.v (.int .i64 b.client), .v (.int .i64 b.id), .v (.int .i64 b.op.kind), .v (.int .i64 b.op.key), .v (.int .i64 b.op.val), .v (.int .i64 b.op.cost), .v (.int .i64 b.op.ttl), .v (.int .i64 b.beg), .v (.int .i64 b.at_), .v (.int .i64 b.end_), .v (.int .i64 b.tick), .v (.bool b.ok), .v (.int .i64 b.got)]]) Try.func34 rfl (by rw [f34_vc]; exact h)
/-- slices.ContainsFunc[[]cortado/api.Call,cortado/api.Call] -/
def f35_h : Hints := ⟨[], []⟩
set_option maxRecDepth 100000 in
def f35_V (s : Option Addr) (s_l s_c : Nat) (f : Value) (hf : notAgg f = true) (u : PH) (Q : Value → PH → Prop) : Prop :=
 (Spec Try.prog 54 #[.slice s s_l s_c, f] u (fun v1 u2 =>
 ∃ n3 : Int, v1 = .int .i64 n3 ∧
 Q (.bool (decide ((n3 : Int) ≥ 0))) u2))
set_option maxRecDepth 100000 in
theorem f35_vc (s : Option Addr) (s_l s_c : Nat) (f : Value) (hf : notAgg f = true) (u : PH) (Q : Value → PH → Prop) : fnVC Try.prog f35_h Try.f35 [.c (.v (.slice s s_l s_c)), .c (.vv ⟨f, hf⟩)] u Q = f35_V s s_l s_c f hf u Q := by kernel_rfl
theorem f35_of {s : Option Addr} {s_l s_c : Nat} {f : Value} {hf : notAgg f = true} {u : PH} {Q : Value → PH → Prop} (h : f35_V s s_l s_c f hf u Q) : Spec Try.prog 35 #[.slice s s_l s_c, f] u Q :=
  spec_of_vc (H := f35_h) (ps := [.c (.v (.slice s s_l s_c)), .c (.vv ⟨f, hf⟩)]) Try.func35 rfl (by rw [f35_vc]; exact h)
/-- cortado/cortadoref17.Right -/
def f36_h : Hints := ⟨[], []⟩
set_option maxRecDepth 100000 in
def f36_V (op : Op) (u : PH) (Q : Value → PH → Prop) : Prop :=
 (∃ w1 : PH, Ext w1 u ∧
 ((((decide ((op.kind : Int) ≥ 0)) && (decide ((op.kind : Int) ≤ 7))) = true →
 Spec Try.prog 55 #[.agg #[.int .i64 op.kind, .int .i64 op.key, .int .i64 op.val, .int .i64 op.cost, .int .i64 op.ttl]] u (fun v2 u3 =>
 ∃ n4 : Int, ∃ n5 : Int, ∃ n6 : Int, ∃ n7 : Int, ∃ n8 : Int, v2 = .agg #[.int .i64 n4, .int .i64 n5, .int .i64 n6, .int .i64 n7, .int .i64 n8] ∧
 Ext w1 u3 ∧
 Q (.bool (((n4 : Int) == op.kind) && (((n5 : Int) == op.key) && (((n6 : Int) == op.val) && (((n7 : Int) == op.cost) && ((n8 : Int) == op.ttl)))))) u3)) ∧
 (((decide ((op.kind : Int) ≥ 0)) && (decide ((op.kind : Int) ≤ 7))) = false →
 Ext w1 u ∧
 Q (.bool false) u)))
set_option maxRecDepth 100000 in
theorem f36_vc (op : Op) (u : PH) (Q : Value → PH → Prop) : fnVC Try.prog f36_h Try.f36 [.agg [.v (.int .i64 op.kind), .v (.int .i64 op.key), .v (.int .i64 op.val), .v (.int .i64 op.cost), .v (.int .i64 op.ttl)]] u Q = f36_V op u Q := by kernel_rfl
theorem f36_of {op : Op} {u : PH} {Q : Value → PH → Prop} (h : f36_V op u Q) : Spec Try.prog 36 #[.agg #[.int .i64 op.kind, .int .i64 op.key, .int .i64 op.val, .int .i64 op.cost, .int .i64 op.ttl]] u Q :=
  spec_of_vc (H := f36_h) (ps := [.agg [.v (.int .i64 op.kind), .v (.int .i64 op.key), .v (.int .i64 op.val), .v (.int .i64 op.cost), .v (.int .i64 op.ttl)]]) Try.func36 rfl (by rw [f36_vc]; exact h)
/-- cortado/hist.Ended$1 -/
def f37_h : Hints := ⟨[], []⟩
set_option maxRecDepth 100000 in
def f37_V (c : Call) (u : PH) (Q : Value → PH → Prop) : Prop :=
 (Q (.bool (decide ((c.end_ : Int) < 0))) u)
set_option maxRecDepth 100000 in
theorem f37_vc (c : Call) (u : PH) (Q : Value → PH → Prop) : fnVC Try.prog f37_h Try.f37 [.agg [.v (.int .i64 c.client), .v (.int .i64 c.id), .v (.int .i64 c.op.kind), .v (.int .i64 c.op.key), .v (.int .i64 c.op.val), .v (.int .i64 c.op.cost), .v (.int .i64 c.op.ttl), .v (.int .i64 c.beg), .v (.int .i64 c.at_), .v (.int .i64 c.end_), .v (.int .i64 c.tick), .v (.bool c.ok), .v (.int .i64 c.got)]] u Q = f37_V c u Q := by kernel_rfl
theorem f37_of {c : Call} {u : PH} {Q : Value → PH → Prop} (h : f37_V c u Q) : Spec Try.prog 37 #[.agg #[.int .i64 c.client, .int .i64 c.id, .int .i64 c.op.kind, .int .i64 c.op.key, .int .i64 c.op.val, .int .i64 c.op.cost, .int .i64 c.op.ttl, .int .i64 c.beg, .int .i64 c.at_, .int .i64 c.end_, .int .i64 c.tick, .bool c.ok, .int .i64 c.got]] u Q :=
  spec_of_vc (H := f37_h) (ps := [.agg [.v (.int .i64 c.client), .v (.int .i64 c.id), .v (.int .i64 c.op.kind), .v (.int .i64 c.op.key), .v (.int .i64 c.op.val), .v (.int .i64 c.op.cost), .v (.int .i64 c.op.ttl), .v (.int .i64 c.beg), .v (.int .i64 c.at_), .v (.int .i64 c.end_), .v (.int .i64 c.tick), .v (.bool c.ok), .v (.int .i64 c.got)]]) Try.func37 rfl (by rw [f37_vc]; exact h)
/-- cortado/hist.those -/
def f38_h : Hints := ⟨[(3, ⟨[(7, .slice), (12, .int .i64)], [], []⟩)], []⟩
set_option maxRecDepth 100000 in
def f38_V (l : Option Addr) (l_l l_c : Nat) (is : Value) (his : notAgg is = true) (x2 : Value) (hx2 : notAgg x2 = true) (u : PH) (Q : Value → PH → Prop) : Prop :=
 (∃ (I1 : Option Addr → Nat → Nat → Int → PH → Prop) (M2 : Option Addr → Nat → Nat → Int → PH → Nat), I1 none 0 0 0 u ∧
 ∀ (a3 : Option Addr) (l4 c5 : Nat), ∀ n6 : Int, ∀ u7 : PH, I1 a3 l4 c5 n6 u7 →
 ((decide ((n6 : Int) < (((l_l : Nat) : Int)))) = true →
 ∃ b8 o9 : Nat, (l : Option Addr) = some ⟨b8, o9, none⟩ ∧ ((0 : Int) ≤ n6 ∧ (n6 : Int) < ((l_l : Nat) : Int)) ∧
 ∃ n10 : Int, ∃ n11 : Int, ∃ n12 : Int, ∃ n13 : Int, ∃ n14 : Int, ∃ n15 : Int, ∃ n16 : Int, ∃ n17 : Int, ∃ n18 : Int, ∃ n19 : Int, ∃ n20 : Int, ∃ b21 : Bool, ∃ n22 : Int, PH.cells u7 b8 (o9 + (n6 : Int).toNat * 13) [.int .i64 n10, .int .i64 n11, .int .i64 n12, .int .i64 n13, .int .i64 n14, .int .i64 n15, .int .i64 n16, .int .i64 n17, .int .i64 n18, .int .i64 n19, .int .i64 n20, .bool b21, .int .i64 n22] ∧
 CallV Try.prog is [.agg #[.int .i64 n10, .int .i64 n11, .int .i64 n12, .int .i64 n13, .int .i64 n14, .int .i64 n15, .int .i64 n16, .int .i64 n17, .int .i64 n18, .int .i64 n19, .int .i64 n20, .bool b21, .int .i64 n22]] u7 (fun v23 u24 =>
 ∃ b25 : Bool, v23 = .bool b25 ∧
 (b25 = true →
 ∀ B26 : Nat, u24 B26 = none →
 SemSpec Try.prog (Builtin.append_ #[22, 22] 22 #[.slice a3 l4 c5, .slice ((some ⟨B26, 0, none⟩)) 1 1]) (PH.add u24 B26 (.cells #[.int .i64 n10, .int .i64 n11, .int .i64 n12, .int .i64 n13, .int .i64 n14, .int .i64 n15, .int .i64 n16, .int .i64 n17, .int .i64 n18, .int .i64 n19, .int .i64 n20, .bool b21, .int .i64 n22] 28)) (fun v27 u28 =>
 ∃ (a29 : Option Addr) (l30 c31 : Nat), v27 = .slice a29 l30 c31 ∧
 I1 a29 l30 c31 (IntKind.wrap .i64 (n6 + 1)) u28 ∧ M2 a29 l30 c31 (IntKind.wrap .i64 (n6 + 1)) u28 < M2 a3 l4 c5 n6 u7)) ∧
 (b25 = false →
 I1 a3 l4 c5 (IntKind.wrap .i64 (n6 + 1)) u24 ∧ M2 a3 l4 c5 (IntKind.wrap .i64 (n6 + 1)) u24 < M2 a3 l4 c5 n6 u7))) ∧
 ((decide ((n6 : Int) < (((l_l : Nat) : Int)))) = false →
 ∀ B32 : Nat, u7 B32 = none →
 Spec Try.prog 56 #[.slice a3 l4 c5, .func (.func 57) #[] #[.pointer (some ⟨B32, 0, none⟩)]] (PH.add u7 B32 (.cells #[x2] 51)) (fun v33 u34 =>
 v33 = .tuple #[] ∧
 Q (.slice a3 l4 c5) u34)))
set_option maxRecDepth 100000 in
theorem f38_vc (l : Option Addr) (l_l l_c : Nat) (is : Value) (his : notAgg is = true) (x2 : Value) (hx2 : notAgg x2 = true) (u : PH) (Q : Value → PH → Prop) : fnVC Try.prog f38_h Try.f38 [.c (.v (.slice l l_l l_c)), .c (.vv ⟨is, his⟩), .c (.vv ⟨x2, hx2⟩)] u Q = f38_V l l_l l_c is his x2 hx2 u Q := by kernel_rfl
theorem f38_of {l : Option Addr} {l_l l_c : Nat} {is : Value} {his : notAgg is = true} {x2 : Value} {hx2 : notAgg x2 = true} {u : PH} {Q : Value → PH → Prop} (h : f38_V l l_l l_c is his x2 hx2 u Q) : Spec Try.prog 38 #[.slice l l_l l_c, is, x2] u Q :=
  spec_of_vc (H := f38_h) (ps := [.c (.v (.slice l l_l l_c)), .c (.vv ⟨is, his⟩), .c (.vv ⟨x2, hx2⟩)]) Try.func38 rfl (by rw [f38_vc]; exact h)
/-- cortado/hist.Counted$1 -/
def f39_h : Hints := ⟨[], []⟩
set_option maxRecDepth 100000 in
def f39_V (c : Call) (u : PH) (Q : Value → PH → Prop) : Prop :=
 (Q (.bool (decide ((c.at_ : Int) ≥ 0))) u)
set_option maxRecDepth 100000 in
theorem f39_vc (c : Call) (u : PH) (Q : Value → PH → Prop) : fnVC Try.prog f39_h Try.f39 [.agg [.v (.int .i64 c.client), .v (.int .i64 c.id), .v (.int .i64 c.op.kind), .v (.int .i64 c.op.key), .v (.int .i64 c.op.val), .v (.int .i64 c.op.cost), .v (.int .i64 c.op.ttl), .v (.int .i64 c.beg), .v (.int .i64 c.at_), .v (.int .i64 c.end_), .v (.int .i64 c.tick), .v (.bool c.ok), .v (.int .i64 c.got)]] u Q = f39_V c u Q := by kernel_rfl
theorem f39_of {c : Call} {u : PH} {Q : Value → PH → Prop} (h : f39_V c u Q) : Spec Try.prog 39 #[.agg #[.int .i64 c.client, .int .i64 c.id, .int .i64 c.op.kind, .int .i64 c.op.key, .int .i64 c.op.val, .int .i64 c.op.cost, .int .i64 c.op.ttl, .int .i64 c.beg, .int .i64 c.at_, .int .i64 c.end_, .int .i64 c.tick, .bool c.ok, .int .i64 c.got]] u Q :=
  spec_of_vc (H := f39_h) (ps := [.agg [.v (.int .i64 c.client), .v (.int .i64 c.id), .v (.int .i64 c.op.kind), .v (.int .i64 c.op.key), .v (.int .i64 c.op.val), .v (.int .i64 c.op.cost), .v (.int .i64 c.op.ttl), .v (.int .i64 c.beg), .v (.int .i64 c.at_), .v (.int .i64 c.end_), .v (.int .i64 c.tick), .v (.bool c.ok), .v (.int .i64 c.got)]]) Try.func39 rfl (by rw [f39_vc]; exact h)
/-- cortado/hist.Counted$2 -/
def f40_h : Hints := ⟨[], []⟩
set_option maxRecDepth 100000 in
def f40_V (c : Call) (u : PH) (Q : Value → PH → Prop) : Prop :=
 (Q (.int .i64 c.at_) u)
set_option maxRecDepth 100000 in
theorem f40_vc (c : Call) (u : PH) (Q : Value → PH → Prop) : fnVC Try.prog f40_h Try.f40 [.agg [.v (.int .i64 c.client), .v (.int .i64 c.id), .v (.int .i64 c.op.kind), .v (.int .i64 c.op.key), .v (.int .i64 c.op.val), .v (.int .i64 c.op.cost), .v (.int .i64 c.op.ttl), .v (.int .i64 c.beg), .v (.int .i64 c.at_), .v (.int .i64 c.end_), .v (.int .i64 c.tick), .v (.bool c.ok), .v (.int .i64 c.got)]] u Q = f40_V c u Q := by kernel_rfl
theorem f40_of {c : Call} {u : PH} {Q : Value → PH → Prop} (h : f40_V c u Q) : Spec Try.prog 40 #[.agg #[.int .i64 c.client, .int .i64 c.id, .int .i64 c.op.kind, .int .i64 c.op.key, .int .i64 c.op.val, .int .i64 c.op.cost, .int .i64 c.op.ttl, .int .i64 c.beg, .int .i64 c.at_, .int .i64 c.end_, .int .i64 c.tick, .bool c.ok, .int .i64 c.got]] u Q :=
  spec_of_vc (H := f40_h) (ps := [.agg [.v (.int .i64 c.client), .v (.int .i64 c.id), .v (.int .i64 c.op.kind), .v (.int .i64 c.op.key), .v (.int .i64 c.op.val), .v (.int .i64 c.op.cost), .v (.int .i64 c.op.ttl), .v (.int .i64 c.beg), .v (.int .i64 c.at_), .v (.int .i64 c.end_), .v (.int .i64 c.tick), .v (.bool c.ok), .v (.int .i64 c.got)]]) Try.func40 rfl (by rw [f40_vc]; exact h)
/-- cortado/hist.Order$1 -/
def f41_h : Hints := ⟨[], []⟩
set_option maxRecDepth 100000 in
def f41_V (x0 : Call) (u : PH) (Q : Value → PH → Prop) : Prop :=
 (Q (.bool true) u)
set_option maxRecDepth 100000 in
theorem f41_vc (x0 : Call) (u : PH) (Q : Value → PH → Prop) : fnVC Try.prog f41_h Try.f41 [.agg [.v (.int .i64 x0.client), .v (.int .i64 x0.id), .v (.int .i64 x0.op.kind), .v (.int .i64 x0.op.key), .v (.int .i64 x0.op.val), .v (.int .i64 x0.op.cost), .v (.int .i64 x0.op.ttl), .v (.int .i64 x0.beg), .v (.int .i64 x0.at_), .v (.int .i64 x0.end_), .v (.int .i64 x0.tick), .v (.bool x0.ok), .v (.int .i64 x0.got)]] u Q = f41_V x0 u Q := by kernel_rfl
theorem f41_of {x0 : Call} {u : PH} {Q : Value → PH → Prop} (h : f41_V x0 u Q) : Spec Try.prog 41 #[.agg #[.int .i64 x0.client, .int .i64 x0.id, .int .i64 x0.op.kind, .int .i64 x0.op.key, .int .i64 x0.op.val, .int .i64 x0.op.cost, .int .i64 x0.op.ttl, .int .i64 x0.beg, .int .i64 x0.at_, .int .i64 x0.end_, .int .i64 x0.tick, .bool x0.ok, .int .i64 x0.got]] u Q :=
  spec_of_vc (H := f41_h) (ps := [.agg [.v (.int .i64 x0.client), .v (.int .i64 x0.id), .v (.int .i64 x0.op.kind), .v (.int .i64 x0.op.key), .v (.int .i64 x0.op.val), .v (.int .i64 x0.op.cost), .v (.int .i64 x0.op.ttl), .v (.int .i64 x0.beg), .v (.int .i64 x0.at_), .v (.int .i64 x0.end_), .v (.int .i64 x0.tick), .v (.bool x0.ok), .v (.int .i64 x0.got)]]) Try.func41 rfl (by rw [f41_vc]; exact h)
/-- cortado/hist.Order$2 -/
def f42_h : Hints := ⟨[], []⟩
set_option maxRecDepth 100000 in
def f42_V (c : Call) (u : PH) (Q : Value → PH → Prop) : Prop :=
 (Q (.int .i64 c.beg) u)
set_option maxRecDepth 100000 in
theorem f42_vc (c : Call) (u : PH) (Q : Value → PH → Prop) : fnVC Try.prog f42_h Try.f42 [.agg [.v (.int .i64 c.client), .v (.int .i64 c.id), .v (.int .i64 c.op.kind), .v (.int .i64 c.op.key), .v (.int .i64 c.op.val), .v (.int .i64 c.op.cost), .v (.int .i64 c.op.ttl), .v (.int .i64 c.beg), .v (.int .i64 c.at_), .v (.int .i64 c.end_), .v (.int .i64 c.tick), .v (.bool c.ok), .v (.int .i64 c.got)]] u Q = f42_V c u Q := by kernel_rfl
theorem f42_of {c : Call} {u : PH} {Q : Value → PH → Prop} (h : f42_V c u Q) : Spec Try.prog 42 #[.agg #[.int .i64 c.client, .int .i64 c.id, .int .i64 c.op.kind, .int .i64 c.op.key, .int .i64 c.op.val, .int .i64 c.op.cost, .int .i64 c.op.ttl, .int .i64 c.beg, .int .i64 c.at_, .int .i64 c.end_, .int .i64 c.tick, .bool c.ok, .int .i64 c.got]] u Q :=
  spec_of_vc (H := f42_h) (ps := [.agg [.v (.int .i64 c.client), .v (.int .i64 c.id), .v (.int .i64 c.op.kind), .v (.int .i64 c.op.key), .v (.int .i64 c.op.val), .v (.int .i64 c.op.cost), .v (.int .i64 c.op.ttl), .v (.int .i64 c.beg), .v (.int .i64 c.at_), .v (.int .i64 c.end_), .v (.int .i64 c.tick), .v (.bool c.ok), .v (.int .i64 c.got)]]) Try.func42 rfl (by rw [f42_vc]; exact h)
/-- cortado/hist.Of$1 -/
def f43_h : Hints := ⟨[], []⟩
set_option maxRecDepth 100000 in
def f43_V (c : Call) (B0 : Nat) (u : PH) (Q : Value → PH → Prop) : Prop :=
 (∃ n1 : Int, PH.cell u B0 0 = some (.int .i64 n1) ∧
 Q (.bool ((c.client : Int) == n1)) u)
set_option maxRecDepth 100000 in
theorem f43_vc (c : Call) (B0 : Nat) (u : PH) (Q : Value → PH → Prop) : fnVC Try.prog f43_h Try.f43 [.agg [.v (.int .i64 c.client), .v (.int .i64 c.id), .v (.int .i64 c.op.kind), .v (.int .i64 c.op.key), .v (.int .i64 c.op.val), .v (.int .i64 c.op.cost), .v (.int .i64 c.op.ttl), .v (.int .i64 c.beg), .v (.int .i64 c.at_), .v (.int .i64 c.end_), .v (.int .i64 c.tick), .v (.bool c.ok), .v (.int .i64 c.got)], .c (.ptr B0 0)] u Q = f43_V c B0 u Q := by kernel_rfl
theorem f43_of {c : Call} {B0 : Nat} {u : PH} {Q : Value → PH → Prop} (h : f43_V c B0 u Q) : Spec Try.prog 43 #[.agg #[.int .i64 c.client, .int .i64 c.id, .int .i64 c.op.kind, .int .i64 c.op.key, .int .i64 c.op.val, .int .i64 c.op.cost, .int .i64 c.op.ttl, .int .i64 c.beg, .int .i64 c.at_, .int .i64 c.end_, .int .i64 c.tick, .bool c.ok, .int .i64 c.got], .pointer (some ⟨B0, 0, none⟩)] u Q :=
  spec_of_vc (H := f43_h) (ps := [.agg [.v (.int .i64 c.client), .v (.int .i64 c.id), .v (.int .i64 c.op.kind), .v (.int .i64 c.op.key), .v (.int .i64 c.op.val), .v (.int .i64 c.op.cost), .v (.int .i64 c.op.ttl), .v (.int .i64 c.beg), .v (.int .i64 c.at_), .v (.int .i64 c.end_), .v (.int .i64 c.tick), .v (.bool c.ok), .v (.int .i64 c.got)], .c (.ptr B0 0)]) Try.func43 rfl (by rw [f43_vc]; exact h)
/-- cortado/hist.Of$2 -/
def f44_h : Hints := ⟨[], []⟩
set_option maxRecDepth 100000 in
def f44_V (x0 : Call) (u : PH) (Q : Value → PH → Prop) : Prop :=
 (Q (.int .i64 0) u)
set_option maxRecDepth 100000 in
theorem f44_vc (x0 : Call) (u : PH) (Q : Value → PH → Prop) : fnVC Try.prog f44_h Try.f44 [.agg [.v (.int .i64 x0.client), .v (.int .i64 x0.id), .v (.int .i64 x0.op.kind), .v (.int .i64 x0.op.key), .v (.int .i64 x0.op.val), .v (.int .i64 x0.op.cost), .v (.int .i64 x0.op.ttl), .v (.int .i64 x0.beg), .v (.int .i64 x0.at_), .v (.int .i64 x0.end_), .v (.int .i64 x0.tick), .v (.bool x0.ok), .v (.int .i64 x0.got)]] u Q = f44_V x0 u Q := by kernel_rfl
theorem f44_of {x0 : Call} {u : PH} {Q : Value → PH → Prop} (h : f44_V x0 u Q) : Spec Try.prog 44 #[.agg #[.int .i64 x0.client, .int .i64 x0.id, .int .i64 x0.op.kind, .int .i64 x0.op.key, .int .i64 x0.op.val, .int .i64 x0.op.cost, .int .i64 x0.op.ttl, .int .i64 x0.beg, .int .i64 x0.at_, .int .i64 x0.end_, .int .i64 x0.tick, .bool x0.ok, .int .i64 x0.got]] u Q :=
  spec_of_vc (H := f44_h) (ps := [.agg [.v (.int .i64 x0.client), .v (.int .i64 x0.id), .v (.int .i64 x0.op.kind), .v (.int .i64 x0.op.key), .v (.int .i64 x0.op.val), .v (.int .i64 x0.op.cost), .v (.int .i64 x0.op.ttl), .v (.int .i64 x0.beg), .v (.int .i64 x0.at_), .v (.int .i64 x0.end_), .v (.int .i64 x0.tick), .v (.bool x0.ok), .v (.int .i64 x0.got)]]) Try.func44 rfl (by rw [f44_vc]; exact h)
/-- cortado/prog.known -/
def f52_h : Hints := ⟨[], []⟩
set_option maxRecDepth 100000 in
def f52_V (kind : Int) (u : PH) (Q : Value → PH → Prop) : Prop :=
 (Q (.bool ((decide ((kind : Int) ≥ 0)) && (decide ((kind : Int) ≤ 7)))) u)
set_option maxRecDepth 100000 in
theorem f52_vc (kind : Int) (u : PH) (Q : Value → PH → Prop) : fnVC Try.prog f52_h Try.f52 [.c (.v (.int .i64 kind))] u Q = f52_V kind u Q := by kernel_rfl
theorem f52_of {kind : Int} {u : PH} {Q : Value → PH → Prop} (h : f52_V kind u Q) : Spec Try.prog 52 #[.int .i64 kind] u Q :=
  spec_of_vc (H := f52_h) (ps := [.c (.v (.int .i64 kind))]) Try.func52 rfl (by rw [f52_vc]; exact h)
/-- cortado/prog.Bare -/
def f53_h : Hints := ⟨[], []⟩
set_option maxRecDepth 100000 in
def f53_V (op : Op) (u : PH) (Q : Value → PH → Prop) : Prop :=
 (Spec Try.prog 52 #[.int .i64 op.kind] u (fun v1 u2 =>
 ∃ b3 : Bool, v1 = .bool b3 ∧
 ((!b3) = true →
 Q (.agg #[.int .i64 0, .int .i64 0, .int .i64 0, .int .i64 0, .int .i64 0]) u2) ∧
 ((!b3) = false →
 ∀ B4 : Nat, u2 B4 = none →
 Spec Try.prog 66 #[.pointer (some ⟨B4, 0, none⟩)] (PH.add u2 B4 (.cells #[.int .i64 op.kind, .int .i64 op.key, .int .i64 op.val, .int .i64 op.cost, .int .i64 op.ttl] 26)) (fun v5 u6 =>
 ∃ (v7 : Value) (h8 : notAgg v7 = true), v5 = v7 ∧
 ∀ B9 : Nat, u6 B9 = none →
 ∀ B10 : Nat, (PH.add u6 B9 (.cells #[.slice none 0 0] 35)) B10 = none →
 ∀ B11 : Nat, (PH.add (PH.add u6 B9 (.cells #[.slice none 0 0] 35)) B10 (.cells #[.int .i64 op.kind, .int .i64 0, .int .i64 0, .int .i64 0, .int .i64 0] 26)) B11 = none →
 True ∧
 ∀ (L12 : Nat) (O13 O14 O15 : Obj) (O16 : Nat → Obj), (PH.add (PH.add (PH.add u6 B9 (.cells #[.slice none 0 0] 35)) B10 (.cells #[.int .i64 op.kind, .int .i64 0, .int .i64 0, .int .i64 0, .int .i64 0] 26)) B11 (.cells #[.int .i64 0, .int .i64 0, .int .i64 0, .int .i64 0, .int .i64 0] 26)) L12 = none →
 (∀ x19 : Value, ∀ (u17 : PH) (R18 : Value → PH → Prop),
 (u17 L12 = some O13 ∧
 ∃ p20 : Option Addr, x19 = .pointer p20 ∧
 u17 L12 = some O13 ∧
 ∃ w21 : PH, Ext w21 (PH.add u17 L12 O14) ∧
 (∃ (a22 : Option Addr) (l23 c24 : Nat), PH.cell w21 B9 0 = some (.slice a22 l23 c24) ∧
 ∃ b25 o26 : Nat, (p20 : Option Addr) = some ⟨b25, o26, none⟩ ∧
 ∃ n27 : Int, PH.cell w21 b25 o26 = some (.int .i64 n27) ∧
 ∀ B28 : Nat, (PH.add u17 L12 O14) B28 = none →
 Ext w21 (PH.add (PH.add u17 L12 O14) B28 (.cells #[.int .i64 n27] 3)) ∧
 SemSpec Try.prog (Builtin.append_ #[35, 35] 35 #[.slice a22 l23 c24, .slice ((some ⟨B28, 0, none⟩)) 1 1]) (PH.add (PH.add u17 L12 O14) B28 (.cells #[.int .i64 n27] 3)) (fun v29 u30 =>
 ∃ (a31 : Option Addr) (l32 c33 : Nat), v29 = .slice a31 l32 c33 ∧
 Ext w21 u30 ∧
 PH.free u30 B9 0 1 ∧
 (PH.write u30 B9 0 [.slice a31 l32 c33]) L12 = some O14 ∧
 R18 (.bool true) (PH.add (PH.write u30 B9 0 [.slice a31 l32 c33]) L12 O13)))) →
 CallV Try.prog (.func (.yield L12) #[] #[]) [x19] u17 R18) →
 CallF Try.prog v7 [.func (.yield L12) #[] #[]] (PH.add (PH.add (PH.add (PH.add u6 B9 (.cells #[.slice none 0 0] 35)) B10 (.cells #[.int .i64 op.kind, .int .i64 0, .int .i64 0, .int .i64 0, .int .i64 0] 26)) B11 (.cells #[.int .i64 0, .int .i64 0, .int .i64 0, .int .i64 0, .int .i64 0] 26)) L12 O13) (fun _ u34 =>
 u34 L12 = some O13 ∧
 Spec Try.prog 66 #[.pointer (some ⟨B10, 0, none⟩)] (PH.del u34 L12) (fun v35 u36 =>
 ∃ (v37 : Value) (h38 : notAgg v37 = true), v35 = v37 ∧
 True ∧
 ∀ (L39 : Nat) (O40 O41 O42 : Obj) (O43 : Nat → Obj), u36 L39 = none →
 (∀ x46 : Value, ∀ (u44 : PH) (R45 : Value → PH → Prop),
 (u44 L39 = some O40 ∧
 ∃ p47 : Option Addr, x46 = .pointer p47 ∧
 u44 L39 = some O40 ∧
 ∃ w48 : PH, Ext w48 (PH.add u44 L39 O41) ∧
 (∃ (a49 : Option Addr) (l50 c51 : Nat), PH.cell w48 B9 0 = some (.slice a49 l50 c51) ∧
 ∃ b52 o53 : Nat, (a49 : Option Addr) = some ⟨b52, o53, none⟩ ∧ ((0 : Int) ≤ 0 ∧ (0 : Int) < ((l50 : Nat) : Int)) ∧
 ∃ n54 : Int, PH.cell w48 b52 (o53 + (0 : Int).toNat * 1) = some (.int .i64 n54) ∧
 ∃ (a55 : Option Addr) (l56 c57 : Nat), PH.cell w48 B9 0 = some (.slice a55 l56 c57) ∧
 ((0 : Int) ≤ 1 ∧ (1 : Int) ≤ ((l56 : Nat) : Int) ∧ ((l56 : Nat) : Int) ≤ ((c57 : Nat) : Int)) ∧
 ∃ b58 o59 : Nat, (p47 : Option Addr) = some ⟨b58, o59, none⟩ ∧
 PH.free (PH.add u44 L39 O41) b58 o59 1 ∧
 Ext w48 (PH.write (PH.add u44 L39 O41) b58 o59 [.int .i64 n54]) ∧
 PH.free (PH.write (PH.add u44 L39 O41) b58 o59 [.int .i64 n54]) B9 0 1 ∧
 (PH.write (PH.write (PH.add u44 L39 O41) b58 o59 [.int .i64 n54]) B9 0 [.slice ((subA a55 (1 : Int).toNat c57 1)) (((((l56 : Nat) : Int) : Int).toNat - (1 : Int).toNat)) ((c57 - (1 : Int).toNat))]) L39 = some O41 ∧
 R45 (.bool true) (PH.add (PH.write (PH.write (PH.add u44 L39 O41) b58 o59 [.int .i64 n54]) B9 0 [.slice ((subA a55 (1 : Int).toNat c57 1)) (((((l56 : Nat) : Int) : Int).toNat - (1 : Int).toNat)) ((c57 - (1 : Int).toNat))]) L39 O40))) →
 CallV Try.prog (.func (.yield L39) #[] #[]) [x46] u44 R45) →
 CallF Try.prog v37 [.func (.yield L39) #[] #[]] (PH.add u36 L39 O40) (fun _ u60 =>
 u60 L39 = some O40 ∧
 ∃ n61 : Int, ∃ n62 : Int, ∃ n63 : Int, ∃ n64 : Int, ∃ n65 : Int, PH.cells (PH.del u60 L39) B10 0 [.int .i64 n61, .int .i64 n62, .int .i64 n63, .int .i64 n64, .int .i64 n65] ∧
 PH.free (PH.del u60 L39) B11 0 5 ∧
 ∃ n66 : Int, ∃ n67 : Int, ∃ n68 : Int, ∃ n69 : Int, ∃ n70 : Int, PH.cells (PH.write (PH.del u60 L39) B11 0 [.int .i64 n61, .int .i64 n62, .int .i64 n63, .int .i64 n64, .int .i64 n65]) B11 0 [.int .i64 n66, .int .i64 n67, .int .i64 n68, .int .i64 n69, .int .i64 n70] ∧
 Q (.agg #[.int .i64 n66, .int .i64 n67, .int .i64 n68, .int .i64 n69, .int .i64 n70]) (PH.write (PH.del u60 L39) B11 0 [.int .i64 n61, .int .i64 n62, .int .i64 n63, .int .i64 n64, .int .i64 n65]))))))))
set_option maxRecDepth 100000 in
theorem f53_vc (op : Op) (u : PH) (Q : Value → PH → Prop) : fnVC Try.prog f53_h Try.f53 [.agg [.v (.int .i64 op.kind), .v (.int .i64 op.key), .v (.int .i64 op.val), .v (.int .i64 op.cost), .v (.int .i64 op.ttl)]] u Q = f53_V op u Q := by kernel_rfl
theorem f53_of {op : Op} {u : PH} {Q : Value → PH → Prop} (h : f53_V op u Q) : Spec Try.prog 53 #[.agg #[.int .i64 op.kind, .int .i64 op.key, .int .i64 op.val, .int .i64 op.cost, .int .i64 op.ttl]] u Q :=
  spec_of_vc (H := f53_h) (ps := [.agg [.v (.int .i64 op.kind), .v (.int .i64 op.key), .v (.int .i64 op.val), .v (.int .i64 op.cost), .v (.int .i64 op.ttl)]]) Try.func53 rfl (by rw [f53_vc]; exact h)
/-- slices.IndexFunc[[]cortado/api.Call,cortado/api.Call] -/
def f54_h : Hints := ⟨[(2, ⟨[(4, .int .i64), (8, .int .i64)], [], []⟩)], []⟩
set_option maxRecDepth 100000 in
def f54_V (s : Option Addr) (s_l s_c : Nat) (f : Value) (hf : notAgg f = true) (u : PH) (Q : Value → PH → Prop) : Prop :=
 (∃ (I1 : Int → Int → PH → Prop) (M2 : Int → Int → PH → Nat), I1 0 0 u ∧
 ∀ n3 : Int, ∀ n4 : Int, ∀ u5 : PH, I1 n3 n4 u5 →
 ((decide ((n4 : Int) < (((s_l : Nat) : Int)))) = true →
 ∃ b6 o7 : Nat, (s : Option Addr) = some ⟨b6, o7, none⟩ ∧ ((0 : Int) ≤ n4 ∧ (n4 : Int) < ((s_l : Nat) : Int)) ∧
 ∃ n8 : Int, ∃ n9 : Int, ∃ n10 : Int, ∃ n11 : Int, ∃ n12 : Int, ∃ n13 : Int, ∃ n14 : Int, ∃ n15 : Int, ∃ n16 : Int, ∃ n17 : Int, ∃ n18 : Int, ∃ b19 : Bool, ∃ n20 : Int, PH.cells u5 b6 (o7 + (n4 : Int).toNat * 13) [.int .i64 n8, .int .i64 n9, .int .i64 n10, .int .i64 n11, .int .i64 n12, .int .i64 n13, .int .i64 n14, .int .i64 n15, .int .i64 n16, .int .i64 n17, .int .i64 n18, .bool b19, .int .i64 n20] ∧
 CallV Try.prog f [.agg #[.int .i64 n8, .int .i64 n9, .int .i64 n10, .int .i64 n11, .int .i64 n12, .int .i64 n13, .int .i64 n14, .int .i64 n15, .int .i64 n16, .int .i64 n17, .int .i64 n18, .bool b19, .int .i64 n20]] u5 (fun v21 u22 =>
 ∃ b23 : Bool, v21 = .bool b23 ∧
 (b23 = true →
 Q (.int .i64 n4) u22) ∧
 (b23 = false →
 I1 n3 (IntKind.wrap .i64 (n4 + 1)) u22 ∧ M2 n3 (IntKind.wrap .i64 (n4 + 1)) u22 < M2 n3 n4 u5))) ∧
 ((decide ((n4 : Int) < (((s_l : Nat) : Int)))) = false →
 Q (.int .i64 (-1)) u5))
set_option maxRecDepth 100000 in
theorem f54_vc (s : Option Addr) (s_l s_c : Nat) (f : Value) (hf : notAgg f = true) (u : PH) (Q : Value → PH → Prop) : fnVC Try.prog f54_h Try.f54 [.c (.v (.slice s s_l s_c)), .c (.vv ⟨f, hf⟩)] u Q = f54_V s s_l s_c f hf u Q := by kernel_rfl
theorem f54_of {s : Option Addr} {s_l s_c : Nat} {f : Value} {hf : notAgg f = true} {u : PH} {Q : Value → PH → Prop} (h : f54_V s s_l s_c f hf u Q) : Spec Try.prog 54 #[.slice s s_l s_c, f] u Q :=
  spec_of_vc (H := f54_h) (ps := [.c (.v (.slice s s_l s_c)), .c (.vv ⟨f, hf⟩)]) Try.func54 rfl (by rw [f54_vc]; exact h)
/-- cortado/cortadoref17.Bare -/
def f55_h : Hints := ⟨[], []⟩
set_option maxRecDepth 100000 in
def f55_V (op : Op) (u : PH) (Q : Value → PH → Prop) : Prop :=
 ((((op.kind : Int) == 1) = true →
 Q (.agg #[.int .i64 op.kind, .int .i64 op.key, .int .i64 0, .int .i64 0, .int .i64 0]) u) ∧
 (((op.kind : Int) == 1) = false →
 (((op.kind : Int) == 3) = true →
 Q (.agg #[.int .i64 op.kind, .int .i64 op.key, .int .i64 0, .int .i64 0, .int .i64 0]) u) ∧
 (((op.kind : Int) == 3) = false →
 (((op.kind : Int) == 2) = true →
 Q (.agg #[.int .i64 op.kind, .int .i64 op.key, .int .i64 op.val, .int .i64 op.cost, .int .i64 op.ttl]) u) ∧
 (((op.kind : Int) == 2) = false →
 (((op.kind : Int) == 4) = true →
 Q (.agg #[.int .i64 op.kind, .int .i64 0, .int .i64 0, .int .i64 0, .int .i64 0]) u) ∧
 (((op.kind : Int) == 4) = false →
 (((op.kind : Int) == 5) = true →
 Q (.agg #[.int .i64 op.kind, .int .i64 0, .int .i64 0, .int .i64 0, .int .i64 0]) u) ∧
 (((op.kind : Int) == 5) = false →
 (((op.kind : Int) == 6) = true →
 Q (.agg #[.int .i64 op.kind, .int .i64 0, .int .i64 0, .int .i64 0, .int .i64 0]) u) ∧
 (((op.kind : Int) == 6) = false →
 (((op.kind : Int) == 7) = true →
 Q (.agg #[.int .i64 7, .int .i64 0, .int .i64 0, .int .i64 op.cost, .int .i64 0]) u) ∧
 (((op.kind : Int) == 7) = false →
 Q (.agg #[.int .i64 0, .int .i64 0, .int .i64 0, .int .i64 0, .int .i64 0]) u))))))))
set_option maxRecDepth 100000 in
theorem f55_vc (op : Op) (u : PH) (Q : Value → PH → Prop) : fnVC Try.prog f55_h Try.f55 [.agg [.v (.int .i64 op.kind), .v (.int .i64 op.key), .v (.int .i64 op.val), .v (.int .i64 op.cost), .v (.int .i64 op.ttl)]] u Q = f55_V op u Q := by kernel_rfl
theorem f55_of {op : Op} {u : PH} {Q : Value → PH → Prop} (h : f55_V op u Q) : Spec Try.prog 55 #[.agg #[.int .i64 op.kind, .int .i64 op.key, .int .i64 op.val, .int .i64 op.cost, .int .i64 op.ttl]] u Q :=
  spec_of_vc (H := f55_h) (ps := [.agg [.v (.int .i64 op.kind), .v (.int .i64 op.key), .v (.int .i64 op.val), .v (.int .i64 op.cost), .v (.int .i64 op.ttl)]]) Try.func55 rfl (by rw [f55_vc]; exact h)
/-- cortado/prog.own -/
def f66_h : Hints := ⟨[], []⟩
set_option maxRecDepth 100000 in
def f66_V (op : Option Addr) (u : PH) (Q : Value → PH → Prop) : Prop :=
 (∀ B1 : Nat, u B1 = none →
 Q (.func (.func 80) #[] #[.pointer (some ⟨B1, 0, none⟩)]) (PH.add u B1 (.cells #[.pointer op] 77)))
set_option maxRecDepth 100000 in
theorem f66_vc (op : Option Addr) (u : PH) (Q : Value → PH → Prop) : fnVC Try.prog f66_h Try.f66 [.c (.v (.pointer op))] u Q = f66_V op u Q := by kernel_rfl
theorem f66_of {op : Option Addr} {u : PH} {Q : Value → PH → Prop} (h : f66_V op u Q) : Spec Try.prog 66 #[.pointer op] u Q :=
  spec_of_vc (H := f66_h) (ps := [.c (.v (.pointer op))]) Try.func66 rfl (by rw [f66_vc]; exact h)
/-- cortado/prog.own$1 -/
def f80_h : Hints := ⟨[(10, ⟨[(40, .int .i64)], [], []⟩)], [(9, ⟨[(3, .slice)], [], []⟩)]⟩
set_option maxRecDepth 100000 in
def f80_V (yield : Value) (hyield : notAgg yield = true) (B0 : Nat) (u : PH) (Q : Value → PH → Prop) : Prop :=
 (∃ J1 : Option Addr → Nat → Nat → PH → Prop, (∃ p2 : Option Addr, PH.cell u B0 0 = some (.pointer p2) ∧
 ∃ b3 o4 : Nat, (p2 : Option Addr) = some ⟨b3, o4, none⟩ ∧
 ∃ n5 : Int, PH.cell u b3 (o4 + 0) = some (.int .i64 n5) ∧
 (((n5 : Int) == 1) = true →
 ∃ p6 : Option Addr, PH.cell u B0 0 = some (.pointer p6) ∧
 ∃ b7 o8 : Nat, (p6 : Option Addr) = some ⟨b7, o8, none⟩ ∧
 ∀ B9 : Nat, u B9 = none →
 J1 ((some ⟨B9, 0, none⟩)) 1 1 (PH.add u B9 (.cells #[.pointer (some ⟨b7, o8 + 1, none⟩)] 78))) ∧
 (((n5 : Int) == 1) = false →
 (((n5 : Int) == 3) = true →
 ∃ p10 : Option Addr, PH.cell u B0 0 = some (.pointer p10) ∧
 ∃ b11 o12 : Nat, (p10 : Option Addr) = some ⟨b11, o12, none⟩ ∧
 ∀ B13 : Nat, u B13 = none →
 J1 ((some ⟨B13, 0, none⟩)) 1 1 (PH.add u B13 (.cells #[.pointer (some ⟨b11, o12 + 1, none⟩)] 78))) ∧
 (((n5 : Int) == 3) = false →
 (((n5 : Int) == 2) = true →
 ∃ w14 : PH, Ext w14 u ∧
 (∃ p15 : Option Addr, PH.cell w14 B0 0 = some (.pointer p15) ∧
 ∃ b16 o17 : Nat, (p15 : Option Addr) = some ⟨b16, o17, none⟩ ∧
 ∃ p18 : Option Addr, PH.cell w14 B0 0 = some (.pointer p18) ∧
 ∃ b19 o20 : Nat, (p18 : Option Addr) = some ⟨b19, o20, none⟩ ∧
 ∃ p21 : Option Addr, PH.cell w14 B0 0 = some (.pointer p21) ∧
 ∃ b22 o23 : Nat, (p21 : Option Addr) = some ⟨b22, o23, none⟩ ∧
 ∃ p24 : Option Addr, PH.cell w14 B0 0 = some (.pointer p24) ∧
 ∃ b25 o26 : Nat, (p24 : Option Addr) = some ⟨b25, o26, none⟩ ∧
 ∀ B27 : Nat, u B27 = none →
 Ext w14 (PH.add u B27 (.cells #[.pointer (some ⟨b16, o17 + 1, none⟩), .pointer (some ⟨b19, o20 + 2, none⟩), .pointer (some ⟨b22, o23 + 3, none⟩), .pointer (some ⟨b25, o26 + 4, none⟩)] 78)) ∧
 J1 ((some ⟨B27, 0, none⟩)) 4 4 (PH.add u B27 (.cells #[.pointer (some ⟨b16, o17 + 1, none⟩), .pointer (some ⟨b19, o20 + 2, none⟩), .pointer (some ⟨b22, o23 + 3, none⟩), .pointer (some ⟨b25, o26 + 4, none⟩)] 78)))) ∧
 (((n5 : Int) == 2) = false →
 (((n5 : Int) == 7) = true →
 ∃ p28 : Option Addr, PH.cell u B0 0 = some (.pointer p28) ∧
 ∃ b29 o30 : Nat, (p28 : Option Addr) = some ⟨b29, o30, none⟩ ∧
 ∀ B31 : Nat, u B31 = none →
 J1 ((some ⟨B31, 0, none⟩)) 1 1 (PH.add u B31 (.cells #[.pointer (some ⟨b29, o30 + 3, none⟩)] 78))) ∧
 (((n5 : Int) == 7) = false →
 J1 none 0 0 u))))) ∧
 (∀ (a32 : Option Addr) (l33 c34 : Nat), ∀ u35 : PH, J1 a32 l33 c34 u35 →
 ∃ (I36 : Int → PH → Prop) (M37 : Int → PH → Nat), I36 0 u35 ∧
 ∀ n38 : Int, ∀ u39 : PH, I36 n38 u39 →
 ((decide ((n38 : Int) < (((l33 : Nat) : Int)))) = true →
 ∃ b40 o41 : Nat, (a32 : Option Addr) = some ⟨b40, o41, none⟩ ∧ ((0 : Int) ≤ n38 ∧ (n38 : Int) < ((l33 : Nat) : Int)) ∧
 ∃ p42 : Option Addr, PH.cell u39 b40 (o41 + (n38 : Int).toNat * 1) = some (.pointer p42) ∧
 CallV Try.prog yield [.pointer p42] u39 (fun v43 u44 =>
 ∃ b45 : Bool, v43 = .bool b45 ∧
 ((!b45) = true →
 Q (.tuple #[]) u44) ∧
 ((!b45) = false →
 I36 (IntKind.wrap .i64 (n38 + 1)) u44 ∧ M37 (IntKind.wrap .i64 (n38 + 1)) u44 < M37 n38 u39))) ∧
 ((decide ((n38 : Int) < (((l33 : Nat) : Int)))) = false →
 Q (.tuple #[]) u39)))
set_option maxRecDepth 100000 in
theorem f80_vc (yield : Value) (hyield : notAgg yield = true) (B0 : Nat) (u : PH) (Q : Value → PH → Prop) : fnVC Try.prog f80_h Try.f80 [.c (.vv ⟨yield, hyield⟩), .c (.ptr B0 0)] u Q = f80_V yield hyield B0 u Q := by kernel_rfl
theorem f80_of {yield : Value} {hyield : notAgg yield = true} {B0 : Nat} {u : PH} {Q : Value → PH → Prop} (h : f80_V yield hyield B0 u Q) : Spec Try.prog 80 #[yield, .pointer (some ⟨B0, 0, none⟩)] u Q :=
  spec_of_vc (H := f80_h) (ps := [.c (.vv ⟨yield, hyield⟩), .c (.ptr B0 0)]) Try.func80 rfl (by rw [f80_vc]; exact h)
/-- cortado/cortadolaw37.HistTells -/
def f3_h : Hints := ⟨[], []⟩
set_option maxRecDepth 100000 in
def f3_V (x0 : Option Addr) (x0_l x0_c : Nat) (x1 : Int) (u : PH) (Q : Value → PH → Prop) : Prop :=
 (((decide (((((x0_l : Nat) : Int)) : Int) > 60)) = true →
 Spec Try.prog 6 #[] u (fun v1 u2 =>
 ∃ b3 : Bool, v1 = .bool b3 ∧
 Q (.bool b3) u2)) ∧
 ((decide (((((x0_l : Nat) : Int)) : Int) > 60)) = false →
 ∃ w4 : PH, Ext w4 u ∧
 (((decide (((((x0_l : Nat) : Int)) : Int) > 1)) = true →
 ∃ b5 o6 : Nat, (x0 : Option Addr) = some ⟨b5, o6, none⟩ ∧ ((0 : Int) ≤ 0 ∧ (0 : Int) < ((x0_l : Nat) : Int)) ∧
 ∃ n7 : Int, ∃ n8 : Int, ∃ n9 : Int, ∃ n10 : Int, ∃ n11 : Int, ∃ n12 : Int, ∃ n13 : Int, ∃ n14 : Int, ∃ n15 : Int, ∃ n16 : Int, ∃ n17 : Int, ∃ b18 : Bool, ∃ n19 : Int, PH.cells w4 b5 (o6 + (0 : Int).toNat * 13) [.int .i64 n7, .int .i64 n8, .int .i64 n9, .int .i64 n10, .int .i64 n11, .int .i64 n12, .int .i64 n13, .int .i64 n14, .int .i64 n15, .int .i64 n16, .int .i64 n17, .bool b18, .int .i64 n19] ∧
 ∃ b20 o21 : Nat, (x0 : Option Addr) = some ⟨b20, o21, none⟩ ∧ ((0 : Int) ≤ 1 ∧ (1 : Int) < ((x0_l : Nat) : Int)) ∧
 ∃ n22 : Int, ∃ n23 : Int, ∃ n24 : Int, ∃ n25 : Int, ∃ n26 : Int, ∃ n27 : Int, ∃ n28 : Int, ∃ n29 : Int, ∃ n30 : Int, ∃ n31 : Int, ∃ n32 : Int, ∃ b33 : Bool, ∃ n34 : Int, PH.cells w4 b20 (o21 + (1 : Int).toNat * 13) [.int .i64 n22, .int .i64 n23, .int .i64 n24, .int .i64 n25, .int .i64 n26, .int .i64 n27, .int .i64 n28, .int .i64 n29, .int .i64 n30, .int .i64 n31, .int .i64 n32, .bool b33, .int .i64 n34] ∧
 ∃ b35 o36 : Nat, (x0 : Option Addr) = some ⟨b35, o36, none⟩ ∧ ((0 : Int) ≤ 0 ∧ (0 : Int) < ((x0_l : Nat) : Int)) ∧
 ∃ n37 : Int, ∃ n38 : Int, ∃ n39 : Int, ∃ n40 : Int, ∃ n41 : Int, ∃ n42 : Int, ∃ n43 : Int, ∃ n44 : Int, ∃ n45 : Int, ∃ n46 : Int, ∃ n47 : Int, ∃ b48 : Bool, ∃ n49 : Int, PH.cells w4 b35 (o36 + (0 : Int).toNat * 13) [.int .i64 n37, .int .i64 n38, .int .i64 n39, .int .i64 n40, .int .i64 n41, .int .i64 n42, .int .i64 n43, .int .i64 n44, .int .i64 n45, .int .i64 n46, .int .i64 n47, .bool b48, .int .i64 n49] ∧
 ∃ b50 o51 : Nat, (x0 : Option Addr) = some ⟨b50, o51, none⟩ ∧ ((0 : Int) ≤ 1 ∧ (1 : Int) < ((x0_l : Nat) : Int)) ∧
 ∃ n52 : Int, ∃ n53 : Int, ∃ n54 : Int, ∃ n55 : Int, ∃ n56 : Int, ∃ n57 : Int, ∃ n58 : Int, ∃ n59 : Int, ∃ n60 : Int, ∃ n61 : Int, ∃ n62 : Int, ∃ b63 : Bool, ∃ n64 : Int, PH.cells w4 b50 (o51 + (1 : Int).toNat * 13) [.int .i64 n52, .int .i64 n53, .int .i64 n54, .int .i64 n55, .int .i64 n56, .int .i64 n57, .int .i64 n58, .int .i64 n59, .int .i64 n60, .int .i64 n61, .int .i64 n62, .bool b63, .int .i64 n64] ∧
 Spec Try.prog 7 #[.agg #[.int .i64 n7, .int .i64 n8, .int .i64 n9, .int .i64 n10, .int .i64 n11, .int .i64 n12, .int .i64 n13, .int .i64 n14, .int .i64 n15, .int .i64 n16, .int .i64 n17, .bool b18, .int .i64 n19], .agg #[.int .i64 n22, .int .i64 n23, .int .i64 n24, .int .i64 n25, .int .i64 n26, .int .i64 n27, .int .i64 n28, .int .i64 n29, .int .i64 n30, .int .i64 n31, .int .i64 n32, .bool b33, .int .i64 n34]] u (fun v65 u66 =>
 ∃ b67 : Bool, v65 = .bool b67 ∧
 Ext w4 u66 ∧
 Spec Try.prog 8 #[.agg #[.int .i64 n37, .int .i64 n38, .int .i64 n39, .int .i64 n40, .int .i64 n41, .int .i64 n42, .int .i64 n43, .int .i64 n44, .int .i64 n45, .int .i64 n46, .int .i64 n47, .bool b48, .int .i64 n49], .agg #[.int .i64 n52, .int .i64 n53, .int .i64 n54, .int .i64 n55, .int .i64 n56, .int .i64 n57, .int .i64 n58, .int .i64 n59, .int .i64 n60, .int .i64 n61, .int .i64 n62, .bool b63, .int .i64 n64]] u66 (fun v68 u69 =>
 ∃ b70 : Bool, v68 = .bool b70 ∧
 Ext w4 u69 ∧
 ((!(b67 == b70)) = true →
 Q (.bool false) u69) ∧
 ((!(b67 == b70)) = false →
 Spec Try.prog 9 #[.slice x0 x0_l x0_c] u69 (fun v71 u72 =>
 ∃ b73 : Bool, v71 = .bool b73 ∧
 Spec Try.prog 10 #[.slice x0 x0_l x0_c] u72 (fun v74 u75 =>
 ∃ b76 : Bool, v74 = .bool b76 ∧
 ((b73 == b76) = true →
 Spec Try.prog 11 #[.slice x0 x0_l x0_c] u75 (fun v77 u78 =>
 ∃ b79 : Bool, v77 = .bool b79 ∧
 Spec Try.prog 12 #[.slice x0 x0_l x0_c] u78 (fun v80 u81 =>
 ∃ b82 : Bool, v80 = .bool b82 ∧
 ((b79 == b82) = true →
 Spec Try.prog 14 #[.slice x0 x0_l x0_c] u81 (fun v83 u84 =>
 ∃ (a85 : Option Addr) (l86 c87 : Nat), v83 = .slice a85 l86 c87 ∧
 Spec Try.prog 15 #[.slice x0 x0_l x0_c] u84 (fun v88 u89 =>
 ∃ (a90 : Option Addr) (l91 c92 : Nat), v88 = .slice a90 l91 c92 ∧
 Spec Try.prog 13 #[.slice a85 l86 c87, .slice a90 l91 c92] u89 (fun v93 u94 =>
 ∃ b95 : Bool, v93 = .bool b95 ∧
 (b95 = true →
 Spec Try.prog 16 #[.slice x0 x0_l x0_c] u94 (fun v96 u97 =>
 ∃ (a98 : Option Addr) (l99 c100 : Nat), v96 = .slice a98 l99 c100 ∧
 Spec Try.prog 17 #[.slice x0 x0_l x0_c] u97 (fun v101 u102 =>
 ∃ (a103 : Option Addr) (l104 c105 : Nat), v101 = .slice a103 l104 c105 ∧
 Spec Try.prog 13 #[.slice a98 l99 c100, .slice a103 l104 c105] u102 (fun v106 u107 =>
 ∃ b108 : Bool, v106 = .bool b108 ∧
 (b108 = true →
 Spec Try.prog 18 #[.slice x0 x0_l x0_c, .int .i64 x1] u107 (fun v109 u110 =>
 ∃ (a111 : Option Addr) (l112 c113 : Nat), v109 = .slice a111 l112 c113 ∧
 Spec Try.prog 19 #[.slice x0 x0_l x0_c, .int .i64 x1] u110 (fun v114 u115 =>
 ∃ (a116 : Option Addr) (l117 c118 : Nat), v114 = .slice a116 l117 c118 ∧
 Spec Try.prog 13 #[.slice a111 l112 c113, .slice a116 l117 c118] u115 (fun v119 u120 =>
 ∃ b121 : Bool, v119 = .bool b121 ∧
 (b121 = true →
 Spec Try.prog 20 #[.slice x0 x0_l x0_c] u120 (fun v122 u123 =>
 ∃ n124 : Int, v122 = .int .i64 n124 ∧
 Spec Try.prog 21 #[.slice x0 x0_l x0_c] u123 (fun v125 u126 =>
 ∃ n127 : Int, v125 = .int .i64 n127 ∧
 (((n124 : Int) == n127) = true →
 Spec Try.prog 6 #[] u126 (fun v128 u129 =>
 ∃ b130 : Bool, v128 = .bool b130 ∧
 Q (.bool b130) u129)) ∧
 (((n124 : Int) == n127) = false →
 Q (.bool false) u126)))) ∧
 (b121 = false →
 Q (.bool false) u120))))) ∧
 (b108 = false →
 Q (.bool false) u107))))) ∧
 (b95 = false →
 Q (.bool false) u94))))) ∧
 ((b79 == b82) = false →
 Q (.bool false) u81)))) ∧
 ((b73 == b76) = false →
 Q (.bool false) u75))))))) ∧
 ((decide (((((x0_l : Nat) : Int)) : Int) > 1)) = false →
 Ext w4 u ∧
 Ext w4 u ∧
 Spec Try.prog 9 #[.slice x0 x0_l x0_c] u (fun v131 u132 =>
 ∃ b133 : Bool, v131 = .bool b133 ∧
 Spec Try.prog 10 #[.slice x0 x0_l x0_c] u132 (fun v134 u135 =>
 ∃ b136 : Bool, v134 = .bool b136 ∧
 ((b133 == b136) = true →
 Spec Try.prog 11 #[.slice x0 x0_l x0_c] u135 (fun v137 u138 =>
 ∃ b139 : Bool, v137 = .bool b139 ∧
 Spec Try.prog 12 #[.slice x0 x0_l x0_c] u138 (fun v140 u141 =>
 ∃ b142 : Bool, v140 = .bool b142 ∧
 ((b139 == b142) = true →
 Spec Try.prog 14 #[.slice x0 x0_l x0_c] u141 (fun v143 u144 =>
 ∃ (a145 : Option Addr) (l146 c147 : Nat), v143 = .slice a145 l146 c147 ∧
 Spec Try.prog 15 #[.slice x0 x0_l x0_c] u144 (fun v148 u149 =>
 ∃ (a150 : Option Addr) (l151 c152 : Nat), v148 = .slice a150 l151 c152 ∧
 Spec Try.prog 13 #[.slice a145 l146 c147, .slice a150 l151 c152] u149 (fun v153 u154 =>
 ∃ b155 : Bool, v153 = .bool b155 ∧
 (b155 = true →
 Spec Try.prog 16 #[.slice x0 x0_l x0_c] u154 (fun v156 u157 =>
 ∃ (a158 : Option Addr) (l159 c160 : Nat), v156 = .slice a158 l159 c160 ∧
 Spec Try.prog 17 #[.slice x0 x0_l x0_c] u157 (fun v161 u162 =>
 ∃ (a163 : Option Addr) (l164 c165 : Nat), v161 = .slice a163 l164 c165 ∧
 Spec Try.prog 13 #[.slice a158 l159 c160, .slice a163 l164 c165] u162 (fun v166 u167 =>
 ∃ b168 : Bool, v166 = .bool b168 ∧
 (b168 = true →
 Spec Try.prog 18 #[.slice x0 x0_l x0_c, .int .i64 x1] u167 (fun v169 u170 =>
 ∃ (a171 : Option Addr) (l172 c173 : Nat), v169 = .slice a171 l172 c173 ∧
 Spec Try.prog 19 #[.slice x0 x0_l x0_c, .int .i64 x1] u170 (fun v174 u175 =>
 ∃ (a176 : Option Addr) (l177 c178 : Nat), v174 = .slice a176 l177 c178 ∧
 Spec Try.prog 13 #[.slice a171 l172 c173, .slice a176 l177 c178] u175 (fun v179 u180 =>
 ∃ b181 : Bool, v179 = .bool b181 ∧
 (b181 = true →
 Spec Try.prog 20 #[.slice x0 x0_l x0_c] u180 (fun v182 u183 =>
 ∃ n184 : Int, v182 = .int .i64 n184 ∧
 Spec Try.prog 21 #[.slice x0 x0_l x0_c] u183 (fun v185 u186 =>
 ∃ n187 : Int, v185 = .int .i64 n187 ∧
 (((n184 : Int) == n187) = true →
 Spec Try.prog 6 #[] u186 (fun v188 u189 =>
 ∃ b190 : Bool, v188 = .bool b190 ∧
 Q (.bool b190) u189)) ∧
 (((n184 : Int) == n187) = false →
 Q (.bool false) u186)))) ∧
 (b181 = false →
 Q (.bool false) u180))))) ∧
 (b168 = false →
 Q (.bool false) u167))))) ∧
 (b155 = false →
 Q (.bool false) u154))))) ∧
 ((b139 == b142) = false →
 Q (.bool false) u141)))) ∧
 ((b133 == b136) = false →
 Q (.bool false) u135)))))))
set_option maxRecDepth 100000 in
theorem f3_vc (x0 : Option Addr) (x0_l x0_c : Nat) (x1 : Int) (u : PH) (Q : Value → PH → Prop) : fnVC Try.prog f3_h Try.f3 [.c (.v (.slice x0 x0_l x0_c)), .c (.v (.int .i64 x1))] u Q = f3_V x0 x0_l x0_c x1 u Q := by kernel_rfl
theorem f3_of {x0 : Option Addr} {x0_l x0_c : Nat} {x1 : Int} {u : PH} {Q : Value → PH → Prop} (h : f3_V x0 x0_l x0_c x1 u Q) : Spec Try.prog 3 #[.slice x0 x0_l x0_c, .int .i64 x1] u Q :=
  spec_of_vc (H := f3_h) (ps := [.c (.v (.slice x0 x0_l x0_c)), .c (.v (.int .i64 x1))]) Try.func3 rfl (by rw [f3_vc]; exact h)
end Go.Proofs.Ytlmnfhhmgfnbpaa.E
