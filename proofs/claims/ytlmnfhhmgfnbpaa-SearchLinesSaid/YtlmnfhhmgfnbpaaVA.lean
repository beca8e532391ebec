import Derived.Test.YtlmnfhhmgfnbpaaE13
import Derived.Test.YtlmnfhhmgfnbpaaB0
namespace Go.Proofs.Ytlmnfhhmgfnbpaa.E
open Go
/-- cmp.Compare[int] -/
def f58_h : Hints := ⟨[], []⟩
set_option maxRecDepth 100000 in
def f58_V (x : Int) (y : Int) (u : PH) (Q : Value → PH → Prop) : Prop :=
 (Spec Try.prog 68 #[.int .i64 x] u (fun v1 u2 =>
 ∃ b3 : Bool, v1 = .bool b3 ∧
 Spec Try.prog 68 #[.int .i64 y] u2 (fun v4 u5 =>
 ∃ b6 : Bool, v4 = .bool b6 ∧
 (b3 = true →
 (b6 = true →
 Q (.int .i64 0) u5) ∧
 (b6 = false →
 Q (.int .i64 (-1)) u5)) ∧
 (b3 = false →
 (b6 = true →
 Q (.int .i64 1) u5) ∧
 (b6 = false →
 ((decide ((x : Int) < y)) = true →
 Q (.int .i64 (-1)) u5) ∧
 ((decide ((x : Int) < y)) = false →
 ((decide ((x : Int) > y)) = true →
 Q (.int .i64 1) u5) ∧
 ((decide ((x : Int) > y)) = false →
 Q (.int .i64 0) u5)))))))
set_option maxRecDepth 100000 in
theorem f58_vc (x : Int) (y : Int) (u : PH) (Q : Value → PH → Prop) : fnVC Try.prog f58_h Try.f58 [.c (.v (.int .i64 x)), .c (.v (.int .i64 y))] u Q = f58_V x y u Q := by kernel_rfl
theorem f58_of {x : Int} {y : Int} {u : PH} {Q : Value → PH → Prop} (h : f58_V x y u Q) : Spec Try.prog 58 #[.int .i64 x, .int .i64 y] u Q :=
  spec_of_vc (H := f58_h) (ps := [.c (.v (.int .i64 x)), .c (.v (.int .i64 y))]) Try.func58 rfl (by rw [f58_vc]; exact h)
/-- cmp.isNaN[int] -/
def f68_h : Hints := ⟨[], []⟩
set_option maxRecDepth 100000 in
def f68_V (x : Int) (u : PH) (Q : Value → PH → Prop) : Prop :=
 (Q (.bool ((x : Int) != x)) u)
set_option maxRecDepth 100000 in
theorem f68_vc (x : Int) (u : PH) (Q : Value → PH → Prop) : fnVC Try.prog f68_h Try.f68 [.c (.v (.int .i64 x))] u Q = f68_V x u Q := by kernel_rfl
theorem f68_of {x : Int} {u : PH} {Q : Value → PH → Prop} (h : f68_V x u Q) : Spec Try.prog 68 #[.int .i64 x] u Q :=
  spec_of_vc (H := f68_h) (ps := [.c (.v (.int .i64 x))]) Try.func68 rfl (by rw [f68_vc]; exact h)
/-- cortado/hist.those$1 -/
def f57_h : Hints := ⟨[], []⟩
set_option maxRecDepth 100000 in
def f57_V (a : Call) (b : Call) (B0 : Nat) (u : PH) (Q : Value → PH → Prop) : Prop :=
 (∃ w1 : PH, Ext w1 u ∧
 (∃ (v2 : Value) (h3 : notAgg v2 = true), PH.cell w1 B0 0 = some (v2) ∧
 ∃ (v4 : Value) (h5 : notAgg v4 = true), PH.cell w1 B0 0 = some (v4) ∧
 CallV Try.prog v2 [.agg #[.int .i64 a.client, .int .i64 a.id, .int .i64 a.op.kind, .int .i64 a.op.key, .int .i64 a.op.val, .int .i64 a.op.cost, .int .i64 a.op.ttl, .int .i64 a.beg, .int .i64 a.at_, .int .i64 a.end_, .int .i64 a.tick, .bool a.ok, .int .i64 a.got]] u (fun v6 u7 =>
 ∃ n8 : Int, v6 = .int .i64 n8 ∧
 Ext w1 u7 ∧
 CallV Try.prog v4 [.agg #[.int .i64 b.client, .int .i64 b.id, .int .i64 b.op.kind, .int .i64 b.op.key, .int .i64 b.op.val, .int .i64 b.op.cost, .int .i64 b.op.ttl, .int .i64 b.beg, .int .i64 b.at_, .int .i64 b.end_, .int .i64 b.tick, .bool b.ok, .int .i64 b.got]] u7 (fun v9 u10 =>
 ∃ n11 : Int, v9 = .int .i64 n11 ∧
 Ext w1 u10 ∧
 Spec Try.prog 58 #[.int .i64 n8, .int .i64 n11] u10 (fun v12 u13 =>
 ∃ n14 : Int, v12 = .int .i64 n14 ∧
 Ext w1 u13 ∧
 Q (.int .i64 n14) u13)))))
set_option maxRecDepth 100000 in
theorem f57_vc (a : Call) (b : Call) (B0 : Nat) (u : PH) (Q : Value → PH → Prop) : fnVC Try.prog f57_h Try.f57 [.agg [.v (.int .i64 a.client), .v (.int .i64 a.id), .v (.int .i64 a.op.kind), .v (.int .i64 a.op.key), .v (.int .i64 a.op.val), .v (.int .i64 a.op.cost), .v (.int .i64 a.op.ttl), .v (.int .i64 a.beg), .v (.int .i64 a.at_), .v (.int .i64 a.end_), .v (.int .i64 a.tick), .v (.bool a.ok), .v (.int .i64 a.got)], .agg [.v (.int .i64 b.client), .v (.int .i64 b.id), .v (.int .i64 b.op.kind), .v (.int .i64 b.op.key), .v (.int .i64 b.op.val), .v (.int .i64 b.op.cost), .v (.int .i64 b.op.ttl), .v (.int .i64 b.beg), .v (.int .i64 b.at_), .v (.int .i64 b.end_), .v (.int .i64 b.tick), .v (.bool b.ok), .v (.int .i64 b.got)], .c (.ptr B0 0)] u Q = f57_V a b B0 u Q := by kernel_rfl
theorem f57_of {a : Call} {b : Call} {B0 : Nat} {u : PH} {Q : Value → PH → Prop} (h : f57_V a b B0 u Q) : Spec Try.prog 57 #[.agg #[.int .i64 a.client, .int .i64 a.id, .int .i64 a.op.kind, .int .i64 a.op.key, .int .i64 a.op.val, .int .i64 a.op.cost, .int .i64 a.op.ttl, .int .i64 a.beg, .int .i64 a.at_, .int .i64 a.end_, .int .i64 a.tick, .bool a.ok, .int .i64 a.got], .agg #[.int .i64 b.client, .int .i64 b.id, .int .i64 b.op.kind, .int .i64 b.op.key, .int .i64 b.op.val, .int .i64 b.op.cost, .int .i64 b.op.ttl, .int .i64 b.beg, .int .i64 b.at_, .int .i64 b.end_, .int .i64 b.tick, .bool b.ok, .int .i64 b.got], .pointer (some ⟨B0, 0, none⟩)] u Q :=
  spec_of_vc (H := f57_h) (ps := [.agg [.v (.int .i64 a.client), .v (.int .i64 a.id), .v (.int .i64 a.op.kind), .v (.int .i64 a.op.key), .v (.int .i64 a.op.val), .v (.int .i64 a.op.cost), .v (.int .i64 a.op.ttl), .v (.int .i64 a.beg), .v (.int .i64 a.at_), .v (.int .i64 a.end_), .v (.int .i64 a.tick), .v (.bool a.ok), .v (.int .i64 a.got)], .agg [.v (.int .i64 b.client), .v (.int .i64 b.id), .v (.int .i64 b.op.kind), .v (.int .i64 b.op.key), .v (.int .i64 b.op.val), .v (.int .i64 b.op.cost), .v (.int .i64 b.op.ttl), .v (.int .i64 b.beg), .v (.int .i64 b.at_), .v (.int .i64 b.end_), .v (.int .i64 b.tick), .v (.bool b.ok), .v (.int .i64 b.got)], .c (.ptr B0 0)]) Try.func57 rfl (by rw [f57_vc]; exact h)
/-- slices.insertionSortCmpFunc[cortado/api.Call] -/
def f81_h : Hints := ⟨[(1, ⟨[(8, .int .i64)], [], []⟩), (4, ⟨[(9, .int .i64)], [], []⟩)], []⟩
set_option maxRecDepth 100000 in
def f81_V (data : Option Addr) (data_l data_c : Nat) (a : Int) (b : Int) (cmp : Value) (hcmp : notAgg cmp = true) (u : PH) (Q : Value → PH → Prop) : Prop :=
 (∃ (I1 : Int → PH → Prop) (M2 : Int → PH → Nat), I1 (IntKind.wrap .i64 (a + 1)) u ∧
 ∀ n3 : Int, ∀ u4 : PH, I1 n3 u4 →
 ((decide ((n3 : Int) < b)) = true →
 ∃ (I5 : Int → PH → Prop) (M6 : Int → PH → Nat), I5 n3 u4 ∧
 ∀ n7 : Int, ∀ u8 : PH, I5 n7 u8 →
 ((decide ((n7 : Int) > a)) = true →
 ∃ b9 o10 : Nat, (data : Option Addr) = some ⟨b9, o10, none⟩ ∧ ((0 : Int) ≤ n7 ∧ (n7 : Int) < ((data_l : Nat) : Int)) ∧
 ∃ n11 : Int, ∃ n12 : Int, ∃ n13 : Int, ∃ n14 : Int, ∃ n15 : Int, ∃ n16 : Int, ∃ n17 : Int, ∃ n18 : Int, ∃ n19 : Int, ∃ n20 : Int, ∃ n21 : Int, ∃ b22 : Bool, ∃ n23 : Int, PH.cells u8 b9 (o10 + (n7 : Int).toNat * 13) [.int .i64 n11, .int .i64 n12, .int .i64 n13, .int .i64 n14, .int .i64 n15, .int .i64 n16, .int .i64 n17, .int .i64 n18, .int .i64 n19, .int .i64 n20, .int .i64 n21, .bool b22, .int .i64 n23] ∧
 ∃ b24 o25 : Nat, (data : Option Addr) = some ⟨b24, o25, none⟩ ∧ ((0 : Int) ≤ (IntKind.wrap .i64 (n7 - 1)) ∧ ((IntKind.wrap .i64 (n7 - 1)) : Int) < ((data_l : Nat) : Int)) ∧
 ∃ n26 : Int, ∃ n27 : Int, ∃ n28 : Int, ∃ n29 : Int, ∃ n30 : Int, ∃ n31 : Int, ∃ n32 : Int, ∃ n33 : Int, ∃ n34 : Int, ∃ n35 : Int, ∃ n36 : Int, ∃ b37 : Bool, ∃ n38 : Int, PH.cells u8 b24 (o25 + ((IntKind.wrap .i64 (n7 - 1)) : Int).toNat * 13) [.int .i64 n26, .int .i64 n27, .int .i64 n28, .int .i64 n29, .int .i64 n30, .int .i64 n31, .int .i64 n32, .int .i64 n33, .int .i64 n34, .int .i64 n35, .int .i64 n36, .bool b37, .int .i64 n38] ∧
 CallV Try.prog cmp [.agg #[.int .i64 n11, .int .i64 n12, .int .i64 n13, .int .i64 n14, .int .i64 n15, .int .i64 n16, .int .i64 n17, .int .i64 n18, .int .i64 n19, .int .i64 n20, .int .i64 n21, .bool b22, .int .i64 n23], .agg #[.int .i64 n26, .int .i64 n27, .int .i64 n28, .int .i64 n29, .int .i64 n30, .int .i64 n31, .int .i64 n32, .int .i64 n33, .int .i64 n34, .int .i64 n35, .int .i64 n36, .bool b37, .int .i64 n38]] u8 (fun v39 u40 =>
 ∃ n41 : Int, v39 = .int .i64 n41 ∧
 ((decide ((n41 : Int) < 0)) = true →
 ∃ b42 o43 : Nat, (data : Option Addr) = some ⟨b42, o43, none⟩ ∧ ((0 : Int) ≤ (IntKind.wrap .i64 (n7 - 1)) ∧ ((IntKind.wrap .i64 (n7 - 1)) : Int) < ((data_l : Nat) : Int)) ∧
 ∃ n44 : Int, ∃ n45 : Int, ∃ n46 : Int, ∃ n47 : Int, ∃ n48 : Int, ∃ n49 : Int, ∃ n50 : Int, ∃ n51 : Int, ∃ n52 : Int, ∃ n53 : Int, ∃ n54 : Int, ∃ b55 : Bool, ∃ n56 : Int, PH.cells u40 b42 (o43 + ((IntKind.wrap .i64 (n7 - 1)) : Int).toNat * 13) [.int .i64 n44, .int .i64 n45, .int .i64 n46, .int .i64 n47, .int .i64 n48, .int .i64 n49, .int .i64 n50, .int .i64 n51, .int .i64 n52, .int .i64 n53, .int .i64 n54, .bool b55, .int .i64 n56] ∧
 ∃ b57 o58 : Nat, (data : Option Addr) = some ⟨b57, o58, none⟩ ∧ ((0 : Int) ≤ n7 ∧ (n7 : Int) < ((data_l : Nat) : Int)) ∧
 ∃ n59 : Int, ∃ n60 : Int, ∃ n61 : Int, ∃ n62 : Int, ∃ n63 : Int, ∃ n64 : Int, ∃ n65 : Int, ∃ n66 : Int, ∃ n67 : Int, ∃ n68 : Int, ∃ n69 : Int, ∃ b70 : Bool, ∃ n71 : Int, PH.cells u40 b57 (o58 + (n7 : Int).toNat * 13) [.int .i64 n59, .int .i64 n60, .int .i64 n61, .int .i64 n62, .int .i64 n63, .int .i64 n64, .int .i64 n65, .int .i64 n66, .int .i64 n67, .int .i64 n68, .int .i64 n69, .bool b70, .int .i64 n71] ∧
 ∃ b72 o73 : Nat, (data : Option Addr) = some ⟨b72, o73, none⟩ ∧ ((0 : Int) ≤ n7 ∧ (n7 : Int) < ((data_l : Nat) : Int)) ∧
 PH.free u40 b72 (o73 + (n7 : Int).toNat * 13) 13 ∧
 ∃ b74 o75 : Nat, (data : Option Addr) = some ⟨b74, o75, none⟩ ∧ ((0 : Int) ≤ (IntKind.wrap .i64 (n7 - 1)) ∧ ((IntKind.wrap .i64 (n7 - 1)) : Int) < ((data_l : Nat) : Int)) ∧
 PH.free (PH.write u40 b72 (o73 + (n7 : Int).toNat * 13) [.int .i64 n44, .int .i64 n45, .int .i64 n46, .int .i64 n47, .int .i64 n48, .int .i64 n49, .int .i64 n50, .int .i64 n51, .int .i64 n52, .int .i64 n53, .int .i64 n54, .bool b55, .int .i64 n56]) b74 (o75 + ((IntKind.wrap .i64 (n7 - 1)) : Int).toNat * 13) 13 ∧
 I5 (IntKind.wrap .i64 (n7 - 1)) (PH.write (PH.write u40 b72 (o73 + (n7 : Int).toNat * 13) [.int .i64 n44, .int .i64 n45, .int .i64 n46, .int .i64 n47, .int .i64 n48, .int .i64 n49, .int .i64 n50, .int .i64 n51, .int .i64 n52, .int .i64 n53, .int .i64 n54, .bool b55, .int .i64 n56]) b74 (o75 + ((IntKind.wrap .i64 (n7 - 1)) : Int).toNat * 13) [.int .i64 n59, .int .i64 n60, .int .i64 n61, .int .i64 n62, .int .i64 n63, .int .i64 n64, .int .i64 n65, .int .i64 n66, .int .i64 n67, .int .i64 n68, .int .i64 n69, .bool b70, .int .i64 n71]) ∧ M6 (IntKind.wrap .i64 (n7 - 1)) (PH.write (PH.write u40 b72 (o73 + (n7 : Int).toNat * 13) [.int .i64 n44, .int .i64 n45, .int .i64 n46, .int .i64 n47, .int .i64 n48, .int .i64 n49, .int .i64 n50, .int .i64 n51, .int .i64 n52, .int .i64 n53, .int .i64 n54, .bool b55, .int .i64 n56]) b74 (o75 + ((IntKind.wrap .i64 (n7 - 1)) : Int).toNat * 13) [.int .i64 n59, .int .i64 n60, .int .i64 n61, .int .i64 n62, .int .i64 n63, .int .i64 n64, .int .i64 n65, .int .i64 n66, .int .i64 n67, .int .i64 n68, .int .i64 n69, .bool b70, .int .i64 n71]) < M6 n7 u8) ∧
 ((decide ((n41 : Int) < 0)) = false →
 I1 (IntKind.wrap .i64 (n3 + 1)) u40 ∧ M2 (IntKind.wrap .i64 (n3 + 1)) u40 < M2 n3 u4))) ∧
 ((decide ((n7 : Int) > a)) = false →
 I1 (IntKind.wrap .i64 (n3 + 1)) u8 ∧ M2 (IntKind.wrap .i64 (n3 + 1)) u8 < M2 n3 u4)) ∧
 ((decide ((n3 : Int) < b)) = false →
 Q (.tuple #[]) u4))
set_option maxRecDepth 100000 in
theorem f81_vc (data : Option Addr) (data_l data_c : Nat) (a : Int) (b : Int) (cmp : Value) (hcmp : notAgg cmp = true) (u : PH) (Q : Value → PH → Prop) : fnVC Try.prog f81_h Try.f81 [.c (.v (.slice data data_l data_c)), .c (.v (.int .i64 a)), .c (.v (.int .i64 b)), .c (.vv ⟨cmp, hcmp⟩)] u Q = f81_V data data_l data_c a b cmp hcmp u Q := by kernel_rfl
theorem f81_of {data : Option Addr} {data_l data_c : Nat} {a : Int} {b : Int} {cmp : Value} {hcmp : notAgg cmp = true} {u : PH} {Q : Value → PH → Prop} (h : f81_V data data_l data_c a b cmp hcmp u Q) : Spec Try.prog 81 #[.slice data data_l data_c, .int .i64 a, .int .i64 b, cmp] u Q :=
  spec_of_vc (H := f81_h) (ps := [.c (.v (.slice data data_l data_c)), .c (.v (.int .i64 a)), .c (.v (.int .i64 b)), .c (.vv ⟨cmp, hcmp⟩)]) Try.func81 rfl (by rw [f81_vc]; exact h)
/-- slices.swapRangeCmpFunc[cortado/api.Call] -/
def f116_h : Hints := ⟨[(1, ⟨[(10, .int .i64)], [], []⟩)], []⟩
set_option maxRecDepth 100000 in
def f116_V (data : Option Addr) (data_l data_c : Nat) (a : Int) (b : Int) (n : Int) (cmp : Value) (hcmp : notAgg cmp = true) (u : PH) (Q : Value → PH → Prop) : Prop :=
 (∃ (I1 : Int → PH → Prop) (M2 : Int → PH → Nat), I1 0 u ∧
 ∀ n3 : Int, ∀ u4 : PH, I1 n3 u4 →
 ((decide ((n3 : Int) < n)) = true →
 ∃ b5 o6 : Nat, (data : Option Addr) = some ⟨b5, o6, none⟩ ∧ ((0 : Int) ≤ (IntKind.wrap .i64 (b + n3)) ∧ ((IntKind.wrap .i64 (b + n3)) : Int) < ((data_l : Nat) : Int)) ∧
 ∃ n7 : Int, ∃ n8 : Int, ∃ n9 : Int, ∃ n10 : Int, ∃ n11 : Int, ∃ n12 : Int, ∃ n13 : Int, ∃ n14 : Int, ∃ n15 : Int, ∃ n16 : Int, ∃ n17 : Int, ∃ b18 : Bool, ∃ n19 : Int, PH.cells u4 b5 (o6 + ((IntKind.wrap .i64 (b + n3)) : Int).toNat * 13) [.int .i64 n7, .int .i64 n8, .int .i64 n9, .int .i64 n10, .int .i64 n11, .int .i64 n12, .int .i64 n13, .int .i64 n14, .int .i64 n15, .int .i64 n16, .int .i64 n17, .bool b18, .int .i64 n19] ∧
 ∃ b20 o21 : Nat, (data : Option Addr) = some ⟨b20, o21, none⟩ ∧ ((0 : Int) ≤ (IntKind.wrap .i64 (a + n3)) ∧ ((IntKind.wrap .i64 (a + n3)) : Int) < ((data_l : Nat) : Int)) ∧
 ∃ n22 : Int, ∃ n23 : Int, ∃ n24 : Int, ∃ n25 : Int, ∃ n26 : Int, ∃ n27 : Int, ∃ n28 : Int, ∃ n29 : Int, ∃ n30 : Int, ∃ n31 : Int, ∃ n32 : Int, ∃ b33 : Bool, ∃ n34 : Int, PH.cells u4 b20 (o21 + ((IntKind.wrap .i64 (a + n3)) : Int).toNat * 13) [.int .i64 n22, .int .i64 n23, .int .i64 n24, .int .i64 n25, .int .i64 n26, .int .i64 n27, .int .i64 n28, .int .i64 n29, .int .i64 n30, .int .i64 n31, .int .i64 n32, .bool b33, .int .i64 n34] ∧
 ∃ b35 o36 : Nat, (data : Option Addr) = some ⟨b35, o36, none⟩ ∧ ((0 : Int) ≤ (IntKind.wrap .i64 (a + n3)) ∧ ((IntKind.wrap .i64 (a + n3)) : Int) < ((data_l : Nat) : Int)) ∧
 PH.free u4 b35 (o36 + ((IntKind.wrap .i64 (a + n3)) : Int).toNat * 13) 13 ∧
 ∃ b37 o38 : Nat, (data : Option Addr) = some ⟨b37, o38, none⟩ ∧ ((0 : Int) ≤ (IntKind.wrap .i64 (b + n3)) ∧ ((IntKind.wrap .i64 (b + n3)) : Int) < ((data_l : Nat) : Int)) ∧
 PH.free (PH.write u4 b35 (o36 + ((IntKind.wrap .i64 (a + n3)) : Int).toNat * 13) [.int .i64 n7, .int .i64 n8, .int .i64 n9, .int .i64 n10, .int .i64 n11, .int .i64 n12, .int .i64 n13, .int .i64 n14, .int .i64 n15, .int .i64 n16, .int .i64 n17, .bool b18, .int .i64 n19]) b37 (o38 + ((IntKind.wrap .i64 (b + n3)) : Int).toNat * 13) 13 ∧
 I1 (IntKind.wrap .i64 (n3 + 1)) (PH.write (PH.write u4 b35 (o36 + ((IntKind.wrap .i64 (a + n3)) : Int).toNat * 13) [.int .i64 n7, .int .i64 n8, .int .i64 n9, .int .i64 n10, .int .i64 n11, .int .i64 n12, .int .i64 n13, .int .i64 n14, .int .i64 n15, .int .i64 n16, .int .i64 n17, .bool b18, .int .i64 n19]) b37 (o38 + ((IntKind.wrap .i64 (b + n3)) : Int).toNat * 13) [.int .i64 n22, .int .i64 n23, .int .i64 n24, .int .i64 n25, .int .i64 n26, .int .i64 n27, .int .i64 n28, .int .i64 n29, .int .i64 n30, .int .i64 n31, .int .i64 n32, .bool b33, .int .i64 n34]) ∧ M2 (IntKind.wrap .i64 (n3 + 1)) (PH.write (PH.write u4 b35 (o36 + ((IntKind.wrap .i64 (a + n3)) : Int).toNat * 13) [.int .i64 n7, .int .i64 n8, .int .i64 n9, .int .i64 n10, .int .i64 n11, .int .i64 n12, .int .i64 n13, .int .i64 n14, .int .i64 n15, .int .i64 n16, .int .i64 n17, .bool b18, .int .i64 n19]) b37 (o38 + ((IntKind.wrap .i64 (b + n3)) : Int).toNat * 13) [.int .i64 n22, .int .i64 n23, .int .i64 n24, .int .i64 n25, .int .i64 n26, .int .i64 n27, .int .i64 n28, .int .i64 n29, .int .i64 n30, .int .i64 n31, .int .i64 n32, .bool b33, .int .i64 n34]) < M2 n3 u4) ∧
 ((decide ((n3 : Int) < n)) = false →
 Q (.tuple #[]) u4))
set_option maxRecDepth 100000 in
theorem f116_vc (data : Option Addr) (data_l data_c : Nat) (a : Int) (b : Int) (n : Int) (cmp : Value) (hcmp : notAgg cmp = true) (u : PH) (Q : Value → PH → Prop) : fnVC Try.prog f116_h Try.f116 [.c (.v (.slice data data_l data_c)), .c (.v (.int .i64 a)), .c (.v (.int .i64 b)), .c (.v (.int .i64 n)), .c (.vv ⟨cmp, hcmp⟩)] u Q = f116_V data data_l data_c a b n cmp hcmp u Q := by kernel_rfl
theorem f116_of {data : Option Addr} {data_l data_c : Nat} {a : Int} {b : Int} {n : Int} {cmp : Value} {hcmp : notAgg cmp = true} {u : PH} {Q : Value → PH → Prop} (h : f116_V data data_l data_c a b n cmp hcmp u Q) : Spec Try.prog 116 #[.slice data data_l data_c, .int .i64 a, .int .i64 b, .int .i64 n, cmp] u Q :=
  spec_of_vc (H := f116_h) (ps := [.c (.v (.slice data data_l data_c)), .c (.v (.int .i64 a)), .c (.v (.int .i64 b)), .c (.v (.int .i64 n)), .c (.vv ⟨cmp, hcmp⟩)]) Try.func116 rfl (by rw [f116_vc]; exact h)
/-- slices.rotateCmpFunc[cortado/api.Call] -/
def f103_h : Hints := ⟨[(2, ⟨[(10, .int .i64), (11, .int .i64)], [], []⟩)], []⟩
set_option maxRecDepth 100000 in
def f103_V (data : Option Addr) (data_l data_c : Nat) (a : Int) (m : Int) (b : Int) (cmp : Value) (hcmp : notAgg cmp = true) (u : PH) (Q : Value → PH → Prop) : Prop :=
 (∃ (I1 : Int → Int → PH → Prop) (M2 : Int → Int → PH → Nat), I1 (IntKind.wrap .i64 (m - a)) (IntKind.wrap .i64 (b - m)) u ∧
 ∀ n3 : Int, ∀ n4 : Int, ∀ u5 : PH, I1 n3 n4 u5 →
 (((n3 : Int) != n4) = true →
 ((decide ((n3 : Int) > n4)) = true →
 Spec Try.prog 116 #[.slice data data_l data_c, .int .i64 (IntKind.wrap .i64 (m - n3)), .int .i64 m, .int .i64 n4, cmp] u5 (fun v6 u7 =>
 v6 = .tuple #[] ∧
 I1 (IntKind.wrap .i64 (n3 - n4)) n4 u7 ∧ M2 (IntKind.wrap .i64 (n3 - n4)) n4 u7 < M2 n3 n4 u5)) ∧
 ((decide ((n3 : Int) > n4)) = false →
 Spec Try.prog 116 #[.slice data data_l data_c, .int .i64 (IntKind.wrap .i64 (m - n3)), .int .i64 (IntKind.wrap .i64 ((IntKind.wrap .i64 (m + n4)) - n3)), .int .i64 n3, cmp] u5 (fun v8 u9 =>
 v8 = .tuple #[] ∧
 I1 n3 (IntKind.wrap .i64 (n4 - n3)) u9 ∧ M2 n3 (IntKind.wrap .i64 (n4 - n3)) u9 < M2 n3 n4 u5))) ∧
 (((n3 : Int) != n4) = false →
 Spec Try.prog 116 #[.slice data data_l data_c, .int .i64 (IntKind.wrap .i64 (m - n3)), .int .i64 m, .int .i64 n3, cmp] u5 (fun v10 u11 =>
 v10 = .tuple #[] ∧
 Q (.tuple #[]) u11)))
set_option maxRecDepth 100000 in
theorem f103_vc (data : Option Addr) (data_l data_c : Nat) (a : Int) (m : Int) (b : Int) (cmp : Value) (hcmp : notAgg cmp = true) (u : PH) (Q : Value → PH → Prop) : fnVC Try.prog f103_h Try.f103 [.c (.v (.slice data data_l data_c)), .c (.v (.int .i64 a)), .c (.v (.int .i64 m)), .c (.v (.int .i64 b)), .c (.vv ⟨cmp, hcmp⟩)] u Q = f103_V data data_l data_c a m b cmp hcmp u Q := by kernel_rfl
theorem f103_of {data : Option Addr} {data_l data_c : Nat} {a : Int} {m : Int} {b : Int} {cmp : Value} {hcmp : notAgg cmp = true} {u : PH} {Q : Value → PH → Prop} (h : f103_V data data_l data_c a m b cmp hcmp u Q) : Spec Try.prog 103 #[.slice data data_l data_c, .int .i64 a, .int .i64 m, .int .i64 b, cmp] u Q :=
  spec_of_vc (H := f103_h) (ps := [.c (.v (.slice data data_l data_c)), .c (.v (.int .i64 a)), .c (.v (.int .i64 m)), .c (.v (.int .i64 b)), .c (.vv ⟨cmp, hcmp⟩)]) Try.func103 rfl (by rw [f103_vc]; exact h)
/-- slices.symMergeCmpFunc[cortado/api.Call] -/
def f82_h : Hints := ⟨[(3, ⟨[(10, .int .i64), (11, .int .i64)], [], []⟩), (9, ⟨[(13, .int .i64)], [], []⟩), (15, ⟨[(14, .int .i64), (15, .int .i64)], [], []⟩), (21, ⟨[(17, .int .i64)], [], []⟩), (33, ⟨[(20, .int .i64), (21, .int .i64)], [], []⟩)], [(32, ⟨[(20, .int .i64), (21, .int .i64)], [], []⟩), (41, ⟨[], [], []⟩), (43, ⟨[], [], []⟩)]⟩
set_option maxRecDepth 100000 in
def f82_V (x0 : Option Addr) (x0_l x0_c : Nat) (x1 : Int) (x2 : Int) (x3 : Int) (x4 : Value) (hx4 : notAgg x4 = true) (u : PH) (Q : Value → PH → Prop) : Prop :=
 (((((IntKind.wrap .i64 (x2 - x1)) : Int) == 1) = true →
 ∃ (I1 : Int → Int → PH → Prop) (M2 : Int → Int → PH → Nat), I1 x2 x3 u ∧
 ∀ n3 : Int, ∀ n4 : Int, ∀ u5 : PH, I1 n3 n4 u5 →
 ((decide ((n3 : Int) < n4)) = true →
 (0 : Int) ≤ 1 ∧
 ∃ b6 o7 : Nat, (x0 : Option Addr) = some ⟨b6, o7, none⟩ ∧ ((0 : Int) ≤ (IntKind.wrap .i64 ((Int.fdiv (IntKind.wrap .u64 (IntKind.wrap .i64 (n3 + n4))) (2 ^ (min (Int.toNat 1) (IntKind.bits .u64)))))) ∧ ((IntKind.wrap .i64 ((Int.fdiv (IntKind.wrap .u64 (IntKind.wrap .i64 (n3 + n4))) (2 ^ (min (Int.toNat 1) (IntKind.bits .u64)))))) : Int) < ((x0_l : Nat) : Int)) ∧
 ∃ n8 : Int, ∃ n9 : Int, ∃ n10 : Int, ∃ n11 : Int, ∃ n12 : Int, ∃ n13 : Int, ∃ n14 : Int, ∃ n15 : Int, ∃ n16 : Int, ∃ n17 : Int, ∃ n18 : Int, ∃ b19 : Bool, ∃ n20 : Int, PH.cells u5 b6 (o7 + ((IntKind.wrap .i64 ((Int.fdiv (IntKind.wrap .u64 (IntKind.wrap .i64 (n3 + n4))) (2 ^ (min (Int.toNat 1) (IntKind.bits .u64)))))) : Int).toNat * 13) [.int .i64 n8, .int .i64 n9, .int .i64 n10, .int .i64 n11, .int .i64 n12, .int .i64 n13, .int .i64 n14, .int .i64 n15, .int .i64 n16, .int .i64 n17, .int .i64 n18, .bool b19, .int .i64 n20] ∧
 ∃ b21 o22 : Nat, (x0 : Option Addr) = some ⟨b21, o22, none⟩ ∧ ((0 : Int) ≤ x1 ∧ (x1 : Int) < ((x0_l : Nat) : Int)) ∧
 ∃ n23 : Int, ∃ n24 : Int, ∃ n25 : Int, ∃ n26 : Int, ∃ n27 : Int, ∃ n28 : Int, ∃ n29 : Int, ∃ n30 : Int, ∃ n31 : Int, ∃ n32 : Int, ∃ n33 : Int, ∃ b34 : Bool, ∃ n35 : Int, PH.cells u5 b21 (o22 + (x1 : Int).toNat * 13) [.int .i64 n23, .int .i64 n24, .int .i64 n25, .int .i64 n26, .int .i64 n27, .int .i64 n28, .int .i64 n29, .int .i64 n30, .int .i64 n31, .int .i64 n32, .int .i64 n33, .bool b34, .int .i64 n35] ∧
 CallV Try.prog x4 [.agg #[.int .i64 n8, .int .i64 n9, .int .i64 n10, .int .i64 n11, .int .i64 n12, .int .i64 n13, .int .i64 n14, .int .i64 n15, .int .i64 n16, .int .i64 n17, .int .i64 n18, .bool b19, .int .i64 n20], .agg #[.int .i64 n23, .int .i64 n24, .int .i64 n25, .int .i64 n26, .int .i64 n27, .int .i64 n28, .int .i64 n29, .int .i64 n30, .int .i64 n31, .int .i64 n32, .int .i64 n33, .bool b34, .int .i64 n35]] u5 (fun v36 u37 =>
 ∃ n38 : Int, v36 = .int .i64 n38 ∧
 ((decide ((n38 : Int) < 0)) = true →
 I1 (IntKind.wrap .i64 ((IntKind.wrap .i64 ((Int.fdiv (IntKind.wrap .u64 (IntKind.wrap .i64 (n3 + n4))) (2 ^ (min (Int.toNat 1) (IntKind.bits .u64)))))) + 1)) n4 u37 ∧ M2 (IntKind.wrap .i64 ((IntKind.wrap .i64 ((Int.fdiv (IntKind.wrap .u64 (IntKind.wrap .i64 (n3 + n4))) (2 ^ (min (Int.toNat 1) (IntKind.bits .u64)))))) + 1)) n4 u37 < M2 n3 n4 u5) ∧
 ((decide ((n38 : Int) < 0)) = false →
 I1 n3 (IntKind.wrap .i64 ((Int.fdiv (IntKind.wrap .u64 (IntKind.wrap .i64 (n3 + n4))) (2 ^ (min (Int.toNat 1) (IntKind.bits .u64)))))) u37 ∧ M2 n3 (IntKind.wrap .i64 ((Int.fdiv (IntKind.wrap .u64 (IntKind.wrap .i64 (n3 + n4))) (2 ^ (min (Int.toNat 1) (IntKind.bits .u64)))))) u37 < M2 n3 n4 u5))) ∧
 ((decide ((n3 : Int) < n4)) = false →
 ∃ (I39 : Int → PH → Prop) (M40 : Int → PH → Nat), I39 x1 u5 ∧
 ∀ n41 : Int, ∀ u42 : PH, I39 n41 u42 →
 ((decide ((n41 : Int) < (IntKind.wrap .i64 (n3 - 1)))) = true →
 ∃ b43 o44 : Nat, (x0 : Option Addr) = some ⟨b43, o44, none⟩ ∧ ((0 : Int) ≤ (IntKind.wrap .i64 (n41 + 1)) ∧ ((IntKind.wrap .i64 (n41 + 1)) : Int) < ((x0_l : Nat) : Int)) ∧
 ∃ n45 : Int, ∃ n46 : Int, ∃ n47 : Int, ∃ n48 : Int, ∃ n49 : Int, ∃ n50 : Int, ∃ n51 : Int, ∃ n52 : Int, ∃ n53 : Int, ∃ n54 : Int, ∃ n55 : Int, ∃ b56 : Bool, ∃ n57 : Int, PH.cells u42 b43 (o44 + ((IntKind.wrap .i64 (n41 + 1)) : Int).toNat * 13) [.int .i64 n45, .int .i64 n46, .int .i64 n47, .int .i64 n48, .int .i64 n49, .int .i64 n50, .int .i64 n51, .int .i64 n52, .int .i64 n53, .int .i64 n54, .int .i64 n55, .bool b56, .int .i64 n57] ∧
 ∃ b58 o59 : Nat, (x0 : Option Addr) = some ⟨b58, o59, none⟩ ∧ ((0 : Int) ≤ n41 ∧ (n41 : Int) < ((x0_l : Nat) : Int)) ∧
 ∃ n60 : Int, ∃ n61 : Int, ∃ n62 : Int, ∃ n63 : Int, ∃ n64 : Int, ∃ n65 : Int, ∃ n66 : Int, ∃ n67 : Int, ∃ n68 : Int, ∃ n69 : Int, ∃ n70 : Int, ∃ b71 : Bool, ∃ n72 : Int, PH.cells u42 b58 (o59 + (n41 : Int).toNat * 13) [.int .i64 n60, .int .i64 n61, .int .i64 n62, .int .i64 n63, .int .i64 n64, .int .i64 n65, .int .i64 n66, .int .i64 n67, .int .i64 n68, .int .i64 n69, .int .i64 n70, .bool b71, .int .i64 n72] ∧
 ∃ b73 o74 : Nat, (x0 : Option Addr) = some ⟨b73, o74, none⟩ ∧ ((0 : Int) ≤ n41 ∧ (n41 : Int) < ((x0_l : Nat) : Int)) ∧
 PH.free u42 b73 (o74 + (n41 : Int).toNat * 13) 13 ∧
 ∃ b75 o76 : Nat, (x0 : Option Addr) = some ⟨b75, o76, none⟩ ∧ ((0 : Int) ≤ (IntKind.wrap .i64 (n41 + 1)) ∧ ((IntKind.wrap .i64 (n41 + 1)) : Int) < ((x0_l : Nat) : Int)) ∧
 PH.free (PH.write u42 b73 (o74 + (n41 : Int).toNat * 13) [.int .i64 n45, .int .i64 n46, .int .i64 n47, .int .i64 n48, .int .i64 n49, .int .i64 n50, .int .i64 n51, .int .i64 n52, .int .i64 n53, .int .i64 n54, .int .i64 n55, .bool b56, .int .i64 n57]) b75 (o76 + ((IntKind.wrap .i64 (n41 + 1)) : Int).toNat * 13) 13 ∧
 I39 (IntKind.wrap .i64 (n41 + 1)) (PH.write (PH.write u42 b73 (o74 + (n41 : Int).toNat * 13) [.int .i64 n45, .int .i64 n46, .int .i64 n47, .int .i64 n48, .int .i64 n49, .int .i64 n50, .int .i64 n51, .int .i64 n52, .int .i64 n53, .int .i64 n54, .int .i64 n55, .bool b56, .int .i64 n57]) b75 (o76 + ((IntKind.wrap .i64 (n41 + 1)) : Int).toNat * 13) [.int .i64 n60, .int .i64 n61, .int .i64 n62, .int .i64 n63, .int .i64 n64, .int .i64 n65, .int .i64 n66, .int .i64 n67, .int .i64 n68, .int .i64 n69, .int .i64 n70, .bool b71, .int .i64 n72]) ∧ M40 (IntKind.wrap .i64 (n41 + 1)) (PH.write (PH.write u42 b73 (o74 + (n41 : Int).toNat * 13) [.int .i64 n45, .int .i64 n46, .int .i64 n47, .int .i64 n48, .int .i64 n49, .int .i64 n50, .int .i64 n51, .int .i64 n52, .int .i64 n53, .int .i64 n54, .int .i64 n55, .bool b56, .int .i64 n57]) b75 (o76 + ((IntKind.wrap .i64 (n41 + 1)) : Int).toNat * 13) [.int .i64 n60, .int .i64 n61, .int .i64 n62, .int .i64 n63, .int .i64 n64, .int .i64 n65, .int .i64 n66, .int .i64 n67, .int .i64 n68, .int .i64 n69, .int .i64 n70, .bool b71, .int .i64 n72]) < M40 n41 u42) ∧
 ((decide ((n41 : Int) < (IntKind.wrap .i64 (n3 - 1)))) = false →
 Q (.tuple #[]) u42))) ∧
 ((((IntKind.wrap .i64 (x2 - x1)) : Int) == 1) = false →
 ((((IntKind.wrap .i64 (x3 - x2)) : Int) == 1) = true →
 ∃ (I77 : Int → Int → PH → Prop) (M78 : Int → Int → PH → Nat), I77 x1 x2 u ∧
 ∀ n79 : Int, ∀ n80 : Int, ∀ u81 : PH, I77 n79 n80 u81 →
 ((decide ((n79 : Int) < n80)) = true →
 (0 : Int) ≤ 1 ∧
 ∃ b82 o83 : Nat, (x0 : Option Addr) = some ⟨b82, o83, none⟩ ∧ ((0 : Int) ≤ x2 ∧ (x2 : Int) < ((x0_l : Nat) : Int)) ∧
 ∃ n84 : Int, ∃ n85 : Int, ∃ n86 : Int, ∃ n87 : Int, ∃ n88 : Int, ∃ n89 : Int, ∃ n90 : Int, ∃ n91 : Int, ∃ n92 : Int, ∃ n93 : Int, ∃ n94 : Int, ∃ b95 : Bool, ∃ n96 : Int, PH.cells u81 b82 (o83 + (x2 : Int).toNat * 13) [.int .i64 n84, .int .i64 n85, .int .i64 n86, .int .i64 n87, .int .i64 n88, .int .i64 n89, .int .i64 n90, .int .i64 n91, .int .i64 n92, .int .i64 n93, .int .i64 n94, .bool b95, .int .i64 n96] ∧
 ∃ b97 o98 : Nat, (x0 : Option Addr) = some ⟨b97, o98, none⟩ ∧ ((0 : Int) ≤ (IntKind.wrap .i64 ((Int.fdiv (IntKind.wrap .u64 (IntKind.wrap .i64 (n79 + n80))) (2 ^ (min (Int.toNat 1) (IntKind.bits .u64)))))) ∧ ((IntKind.wrap .i64 ((Int.fdiv (IntKind.wrap .u64 (IntKind.wrap .i64 (n79 + n80))) (2 ^ (min (Int.toNat 1) (IntKind.bits .u64)))))) : Int) < ((x0_l : Nat) : Int)) ∧
 ∃ n99 : Int, ∃ n100 : Int, ∃ n101 : Int, ∃ n102 : Int, ∃ n103 : Int, ∃ n104 : Int, ∃ n105 : Int, ∃ n106 : Int, ∃ n107 : Int, ∃ n108 : Int, ∃ n109 : Int, ∃ b110 : Bool, ∃ n111 : Int, PH.cells u81 b97 (o98 + ((IntKind.wrap .i64 ((Int.fdiv (IntKind.wrap .u64 (IntKind.wrap .i64 (n79 + n80))) (2 ^ (min (Int.toNat 1) (IntKind.bits .u64)))))) : Int).toNat * 13) [.int .i64 n99, .int .i64 n100, .int .i64 n101, .int .i64 n102, .int .i64 n103, .int .i64 n104, .int .i64 n105, .int .i64 n106, .int .i64 n107, .int .i64 n108, .int .i64 n109, .bool b110, .int .i64 n111] ∧
 CallV Try.prog x4 [.agg #[.int .i64 n84, .int .i64 n85, .int .i64 n86, .int .i64 n87, .int .i64 n88, .int .i64 n89, .int .i64 n90, .int .i64 n91, .int .i64 n92, .int .i64 n93, .int .i64 n94, .bool b95, .int .i64 n96], .agg #[.int .i64 n99, .int .i64 n100, .int .i64 n101, .int .i64 n102, .int .i64 n103, .int .i64 n104, .int .i64 n105, .int .i64 n106, .int .i64 n107, .int .i64 n108, .int .i64 n109, .bool b110, .int .i64 n111]] u81 (fun v112 u113 =>
 ∃ n114 : Int, v112 = .int .i64 n114 ∧
 ((!(decide ((n114 : Int) < 0))) = true →
 I77 (IntKind.wrap .i64 ((IntKind.wrap .i64 ((Int.fdiv (IntKind.wrap .u64 (IntKind.wrap .i64 (n79 + n80))) (2 ^ (min (Int.toNat 1) (IntKind.bits .u64)))))) + 1)) n80 u113 ∧ M78 (IntKind.wrap .i64 ((IntKind.wrap .i64 ((Int.fdiv (IntKind.wrap .u64 (IntKind.wrap .i64 (n79 + n80))) (2 ^ (min (Int.toNat 1) (IntKind.bits .u64)))))) + 1)) n80 u113 < M78 n79 n80 u81) ∧
 ((!(decide ((n114 : Int) < 0))) = false →
 I77 n79 (IntKind.wrap .i64 ((Int.fdiv (IntKind.wrap .u64 (IntKind.wrap .i64 (n79 + n80))) (2 ^ (min (Int.toNat 1) (IntKind.bits .u64)))))) u113 ∧ M78 n79 (IntKind.wrap .i64 ((Int.fdiv (IntKind.wrap .u64 (IntKind.wrap .i64 (n79 + n80))) (2 ^ (min (Int.toNat 1) (IntKind.bits .u64)))))) u113 < M78 n79 n80 u81))) ∧
 ((decide ((n79 : Int) < n80)) = false →
 ∃ (I115 : Int → PH → Prop) (M116 : Int → PH → Nat), I115 x2 u81 ∧
 ∀ n117 : Int, ∀ u118 : PH, I115 n117 u118 →
 ((decide ((n117 : Int) > n79)) = true →
 ∃ b119 o120 : Nat, (x0 : Option Addr) = some ⟨b119, o120, none⟩ ∧ ((0 : Int) ≤ (IntKind.wrap .i64 (n117 - 1)) ∧ ((IntKind.wrap .i64 (n117 - 1)) : Int) < ((x0_l : Nat) : Int)) ∧
 ∃ n121 : Int, ∃ n122 : Int, ∃ n123 : Int, ∃ n124 : Int, ∃ n125 : Int, ∃ n126 : Int, ∃ n127 : Int, ∃ n128 : Int, ∃ n129 : Int, ∃ n130 : Int, ∃ n131 : Int, ∃ b132 : Bool, ∃ n133 : Int, PH.cells u118 b119 (o120 + ((IntKind.wrap .i64 (n117 - 1)) : Int).toNat * 13) [.int .i64 n121, .int .i64 n122, .int .i64 n123, .int .i64 n124, .int .i64 n125, .int .i64 n126, .int .i64 n127, .int .i64 n128, .int .i64 n129, .int .i64 n130, .int .i64 n131, .bool b132, .int .i64 n133] ∧
 ∃ b134 o135 : Nat, (x0 : Option Addr) = some ⟨b134, o135, none⟩ ∧ ((0 : Int) ≤ n117 ∧ (n117 : Int) < ((x0_l : Nat) : Int)) ∧
 ∃ n136 : Int, ∃ n137 : Int, ∃ n138 : Int, ∃ n139 : Int, ∃ n140 : Int, ∃ n141 : Int, ∃ n142 : Int, ∃ n143 : Int, ∃ n144 : Int, ∃ n145 : Int, ∃ n146 : Int, ∃ b147 : Bool, ∃ n148 : Int, PH.cells u118 b134 (o135 + (n117 : Int).toNat * 13) [.int .i64 n136, .int .i64 n137, .int .i64 n138, .int .i64 n139, .int .i64 n140, .int .i64 n141, .int .i64 n142, .int .i64 n143, .int .i64 n144, .int .i64 n145, .int .i64 n146, .bool b147, .int .i64 n148] ∧
 ∃ b149 o150 : Nat, (x0 : Option Addr) = some ⟨b149, o150, none⟩ ∧ ((0 : Int) ≤ n117 ∧ (n117 : Int) < ((x0_l : Nat) : Int)) ∧
 PH.free u118 b149 (o150 + (n117 : Int).toNat * 13) 13 ∧
 ∃ b151 o152 : Nat, (x0 : Option Addr) = some ⟨b151, o152, none⟩ ∧ ((0 : Int) ≤ (IntKind.wrap .i64 (n117 - 1)) ∧ ((IntKind.wrap .i64 (n117 - 1)) : Int) < ((x0_l : Nat) : Int)) ∧
 PH.free (PH.write u118 b149 (o150 + (n117 : Int).toNat * 13) [.int .i64 n121, .int .i64 n122, .int .i64 n123, .int .i64 n124, .int .i64 n125, .int .i64 n126, .int .i64 n127, .int .i64 n128, .int .i64 n129, .int .i64 n130, .int .i64 n131, .bool b132, .int .i64 n133]) b151 (o152 + ((IntKind.wrap .i64 (n117 - 1)) : Int).toNat * 13) 13 ∧
 I115 (IntKind.wrap .i64 (n117 - 1)) (PH.write (PH.write u118 b149 (o150 + (n117 : Int).toNat * 13) [.int .i64 n121, .int .i64 n122, .int .i64 n123, .int .i64 n124, .int .i64 n125, .int .i64 n126, .int .i64 n127, .int .i64 n128, .int .i64 n129, .int .i64 n130, .int .i64 n131, .bool b132, .int .i64 n133]) b151 (o152 + ((IntKind.wrap .i64 (n117 - 1)) : Int).toNat * 13) [.int .i64 n136, .int .i64 n137, .int .i64 n138, .int .i64 n139, .int .i64 n140, .int .i64 n141, .int .i64 n142, .int .i64 n143, .int .i64 n144, .int .i64 n145, .int .i64 n146, .bool b147, .int .i64 n148]) ∧ M116 (IntKind.wrap .i64 (n117 - 1)) (PH.write (PH.write u118 b149 (o150 + (n117 : Int).toNat * 13) [.int .i64 n121, .int .i64 n122, .int .i64 n123, .int .i64 n124, .int .i64 n125, .int .i64 n126, .int .i64 n127, .int .i64 n128, .int .i64 n129, .int .i64 n130, .int .i64 n131, .bool b132, .int .i64 n133]) b151 (o152 + ((IntKind.wrap .i64 (n117 - 1)) : Int).toNat * 13) [.int .i64 n136, .int .i64 n137, .int .i64 n138, .int .i64 n139, .int .i64 n140, .int .i64 n141, .int .i64 n142, .int .i64 n143, .int .i64 n144, .int .i64 n145, .int .i64 n146, .bool b147, .int .i64 n148]) < M116 n117 u118) ∧
 ((decide ((n117 : Int) > n79)) = false →
 Q (.tuple #[]) u118))) ∧
 ((((IntKind.wrap .i64 (x3 - x2)) : Int) == 1) = false →
 (0 : Int) ≤ 1 ∧
 ∃ J153 : Int → Int → PH → Prop, (((decide ((x2 : Int) > (IntKind.wrap .i64 ((Int.fdiv (IntKind.wrap .u64 (IntKind.wrap .i64 (x1 + x3))) (2 ^ (min (Int.toNat 1) (IntKind.bits .u64)))))))) = true →
 J153 (IntKind.wrap .i64 ((IntKind.wrap .i64 ((IntKind.wrap .i64 ((Int.fdiv (IntKind.wrap .u64 (IntKind.wrap .i64 (x1 + x3))) (2 ^ (min (Int.toNat 1) (IntKind.bits .u64)))))) + x2)) - x3)) (IntKind.wrap .i64 ((Int.fdiv (IntKind.wrap .u64 (IntKind.wrap .i64 (x1 + x3))) (2 ^ (min (Int.toNat 1) (IntKind.bits .u64)))))) u) ∧
 ((decide ((x2 : Int) > (IntKind.wrap .i64 ((Int.fdiv (IntKind.wrap .u64 (IntKind.wrap .i64 (x1 + x3))) (2 ^ (min (Int.toNat 1) (IntKind.bits .u64)))))))) = false →
 J153 x1 x2 u)) ∧
 (∀ n154 : Int, ∀ n155 : Int, ∀ u156 : PH, J153 n154 n155 u156 →
 ∃ (I157 : Int → Int → PH → Prop) (M158 : Int → Int → PH → Nat), I157 n154 n155 u156 ∧
 ∀ n159 : Int, ∀ n160 : Int, ∀ u161 : PH, I157 n159 n160 u161 →
 ((decide ((n159 : Int) < n160)) = true →
 (0 : Int) ≤ 1 ∧
 ∃ b162 o163 : Nat, (x0 : Option Addr) = some ⟨b162, o163, none⟩ ∧ ((0 : Int) ≤ (IntKind.wrap .i64 ((IntKind.wrap .i64 ((IntKind.wrap .i64 ((IntKind.wrap .i64 ((Int.fdiv (IntKind.wrap .u64 (IntKind.wrap .i64 (x1 + x3))) (2 ^ (min (Int.toNat 1) (IntKind.bits .u64)))))) + x2)) - 1)) - (IntKind.wrap .i64 ((Int.fdiv (IntKind.wrap .u64 (IntKind.wrap .i64 (n159 + n160))) (2 ^ (min (Int.toNat 1) (IntKind.bits .u64)))))))) ∧ ((IntKind.wrap .i64 ((IntKind.wrap .i64 ((IntKind.wrap .i64 ((IntKind.wrap .i64 ((Int.fdiv (IntKind.wrap .u64 (IntKind.wrap .i64 (x1 + x3))) (2 ^ (min (Int.toNat 1) (IntKind.bits .u64)))))) + x2)) - 1)) - (IntKind.wrap .i64 ((Int.fdiv (IntKind.wrap .u64 (IntKind.wrap .i64 (n159 + n160))) (2 ^ (min (Int.toNat 1) (IntKind.bits .u64)))))))) : Int) < ((x0_l : Nat) : Int)) ∧
 ∃ n164 : Int, ∃ n165 : Int, ∃ n166 : Int, ∃ n167 : Int, ∃ n168 : Int, ∃ n169 : Int, ∃ n170 : Int, ∃ n171 : Int, ∃ n172 : Int, ∃ n173 : Int, ∃ n174 : Int, ∃ b175 : Bool, ∃ n176 : Int, PH.cells u161 b162 (o163 + ((IntKind.wrap .i64 ((IntKind.wrap .i64 ((IntKind.wrap .i64 ((IntKind.wrap .i64 ((Int.fdiv (IntKind.wrap .u64 (IntKind.wrap .i64 (x1 + x3))) (2 ^ (min (Int.toNat 1) (IntKind.bits .u64)))))) + x2)) - 1)) - (IntKind.wrap .i64 ((Int.fdiv (IntKind.wrap .u64 (IntKind.wrap .i64 (n159 + n160))) (2 ^ (min (Int.toNat 1) (IntKind.bits .u64)))))))) : Int).toNat * 13) [.int .i64 n164, .int .i64 n165, .int .i64 n166, .int .i64 n167, .int .i64 n168, .int .i64 n169, .int .i64 n170, .int .i64 n171, .int .i64 n172, .int .i64 n173, .int .i64 n174, .bool b175, .int .i64 n176] ∧
 ∃ b177 o178 : Nat, (x0 : Option Addr) = some ⟨b177, o178, none⟩ ∧ ((0 : Int) ≤ (IntKind.wrap .i64 ((Int.fdiv (IntKind.wrap .u64 (IntKind.wrap .i64 (n159 + n160))) (2 ^ (min (Int.toNat 1) (IntKind.bits .u64)))))) ∧ ((IntKind.wrap .i64 ((Int.fdiv (IntKind.wrap .u64 (IntKind.wrap .i64 (n159 + n160))) (2 ^ (min (Int.toNat 1) (IntKind.bits .u64)))))) : Int) < ((x0_l : Nat) : Int)) ∧
 ∃ n179 : Int, ∃ n180 : Int, ∃ n181 : Int, ∃ n182 : Int, ∃ n183 : Int, ∃ n184 : Int, ∃ n185 : Int, ∃ n186 : Int, ∃ n187 : Int, ∃ n188 : Int, ∃ n189 : Int, ∃ b190 : Bool, ∃ n191 : Int, PH.cells u161 b177 (o178 + ((IntKind.wrap .i64 ((Int.fdiv (IntKind.wrap .u64 (IntKind.wrap .i64 (n159 + n160))) (2 ^ (min (Int.toNat 1) (IntKind.bits .u64)))))) : Int).toNat * 13) [.int .i64 n179, .int .i64 n180, .int .i64 n181, .int .i64 n182, .int .i64 n183, .int .i64 n184, .int .i64 n185, .int .i64 n186, .int .i64 n187, .int .i64 n188, .int .i64 n189, .bool b190, .int .i64 n191] ∧
 CallV Try.prog x4 [.agg #[.int .i64 n164, .int .i64 n165, .int .i64 n166, .int .i64 n167, .int .i64 n168, .int .i64 n169, .int .i64 n170, .int .i64 n171, .int .i64 n172, .int .i64 n173, .int .i64 n174, .bool b175, .int .i64 n176], .agg #[.int .i64 n179, .int .i64 n180, .int .i64 n181, .int .i64 n182, .int .i64 n183, .int .i64 n184, .int .i64 n185, .int .i64 n186, .int .i64 n187, .int .i64 n188, .int .i64 n189, .bool b190, .int .i64 n191]] u161 (fun v192 u193 =>
 ∃ n194 : Int, v192 = .int .i64 n194 ∧
 ((!(decide ((n194 : Int) < 0))) = true →
 I157 (IntKind.wrap .i64 ((IntKind.wrap .i64 ((Int.fdiv (IntKind.wrap .u64 (IntKind.wrap .i64 (n159 + n160))) (2 ^ (min (Int.toNat 1) (IntKind.bits .u64)))))) + 1)) n160 u193 ∧ M158 (IntKind.wrap .i64 ((IntKind.wrap .i64 ((Int.fdiv (IntKind.wrap .u64 (IntKind.wrap .i64 (n159 + n160))) (2 ^ (min (Int.toNat 1) (IntKind.bits .u64)))))) + 1)) n160 u193 < M158 n159 n160 u161) ∧
 ((!(decide ((n194 : Int) < 0))) = false →
 I157 n159 (IntKind.wrap .i64 ((Int.fdiv (IntKind.wrap .u64 (IntKind.wrap .i64 (n159 + n160))) (2 ^ (min (Int.toNat 1) (IntKind.bits .u64)))))) u193 ∧ M158 n159 (IntKind.wrap .i64 ((Int.fdiv (IntKind.wrap .u64 (IntKind.wrap .i64 (n159 + n160))) (2 ^ (min (Int.toNat 1) (IntKind.bits .u64)))))) u193 < M158 n159 n160 u161))) ∧
 ((decide ((n159 : Int) < n160)) = false →
 ∃ J195 : PH → Prop, ((((decide ((n159 : Int) < x2)) && (decide ((x2 : Int) < (IntKind.wrap .i64 ((IntKind.wrap .i64 ((IntKind.wrap .i64 ((Int.fdiv (IntKind.wrap .u64 (IntKind.wrap .i64 (x1 + x3))) (2 ^ (min (Int.toNat 1) (IntKind.bits .u64)))))) + x2)) - n159))))) = true →
 Spec Try.prog 103 #[.slice x0 x0_l x0_c, .int .i64 n159, .int .i64 x2, .int .i64 (IntKind.wrap .i64 ((IntKind.wrap .i64 ((IntKind.wrap .i64 ((Int.fdiv (IntKind.wrap .u64 (IntKind.wrap .i64 (x1 + x3))) (2 ^ (min (Int.toNat 1) (IntKind.bits .u64)))))) + x2)) - n159)), x4] u161 (fun v196 u197 =>
 v196 = .tuple #[] ∧
 J195 u197)) ∧
 (((decide ((n159 : Int) < x2)) && (decide ((x2 : Int) < (IntKind.wrap .i64 ((IntKind.wrap .i64 ((IntKind.wrap .i64 ((Int.fdiv (IntKind.wrap .u64 (IntKind.wrap .i64 (x1 + x3))) (2 ^ (min (Int.toNat 1) (IntKind.bits .u64)))))) + x2)) - n159))))) = false →
 J195 u161)) ∧
 (∀ u198 : PH, J195 u198 →
 ∃ J199 : PH → Prop, ((((decide ((x1 : Int) < n159)) && (decide ((n159 : Int) < (IntKind.wrap .i64 ((Int.fdiv (IntKind.wrap .u64 (IntKind.wrap .i64 (x1 + x3))) (2 ^ (min (Int.toNat 1) (IntKind.bits .u64))))))))) = true →
 Spec Try.prog 82 #[.slice x0 x0_l x0_c, .int .i64 x1, .int .i64 n159, .int .i64 (IntKind.wrap .i64 ((Int.fdiv (IntKind.wrap .u64 (IntKind.wrap .i64 (x1 + x3))) (2 ^ (min (Int.toNat 1) (IntKind.bits .u64)))))), x4] u198 (fun v200 u201 =>
 v200 = .tuple #[] ∧
 J199 u201)) ∧
 (((decide ((x1 : Int) < n159)) && (decide ((n159 : Int) < (IntKind.wrap .i64 ((Int.fdiv (IntKind.wrap .u64 (IntKind.wrap .i64 (x1 + x3))) (2 ^ (min (Int.toNat 1) (IntKind.bits .u64))))))))) = false →
 J199 u198)) ∧
 (∀ u202 : PH, J199 u202 →
 (((decide (((IntKind.wrap .i64 ((Int.fdiv (IntKind.wrap .u64 (IntKind.wrap .i64 (x1 + x3))) (2 ^ (min (Int.toNat 1) (IntKind.bits .u64)))))) : Int) < (IntKind.wrap .i64 ((IntKind.wrap .i64 ((IntKind.wrap .i64 ((Int.fdiv (IntKind.wrap .u64 (IntKind.wrap .i64 (x1 + x3))) (2 ^ (min (Int.toNat 1) (IntKind.bits .u64)))))) + x2)) - n159)))) && (decide (((IntKind.wrap .i64 ((IntKind.wrap .i64 ((IntKind.wrap .i64 ((Int.fdiv (IntKind.wrap .u64 (IntKind.wrap .i64 (x1 + x3))) (2 ^ (min (Int.toNat 1) (IntKind.bits .u64)))))) + x2)) - n159)) : Int) < x3))) = true →
 Spec Try.prog 82 #[.slice x0 x0_l x0_c, .int .i64 (IntKind.wrap .i64 ((Int.fdiv (IntKind.wrap .u64 (IntKind.wrap .i64 (x1 + x3))) (2 ^ (min (Int.toNat 1) (IntKind.bits .u64)))))), .int .i64 (IntKind.wrap .i64 ((IntKind.wrap .i64 ((IntKind.wrap .i64 ((Int.fdiv (IntKind.wrap .u64 (IntKind.wrap .i64 (x1 + x3))) (2 ^ (min (Int.toNat 1) (IntKind.bits .u64)))))) + x2)) - n159)), .int .i64 x3, x4] u202 (fun v203 u204 =>
 v203 = .tuple #[] ∧
 Q (.tuple #[]) u204)) ∧
 (((decide (((IntKind.wrap .i64 ((Int.fdiv (IntKind.wrap .u64 (IntKind.wrap .i64 (x1 + x3))) (2 ^ (min (Int.toNat 1) (IntKind.bits .u64)))))) : Int) < (IntKind.wrap .i64 ((IntKind.wrap .i64 ((IntKind.wrap .i64 ((Int.fdiv (IntKind.wrap .u64 (IntKind.wrap .i64 (x1 + x3))) (2 ^ (min (Int.toNat 1) (IntKind.bits .u64)))))) + x2)) - n159)))) && (decide (((IntKind.wrap .i64 ((IntKind.wrap .i64 ((IntKind.wrap .i64 ((Int.fdiv (IntKind.wrap .u64 (IntKind.wrap .i64 (x1 + x3))) (2 ^ (min (Int.toNat 1) (IntKind.bits .u64)))))) + x2)) - n159)) : Int) < x3))) = false →
 Q (.tuple #[]) u202))))))))
set_option maxRecDepth 100000 in
theorem f82_vc (x0 : Option Addr) (x0_l x0_c : Nat) (x1 : Int) (x2 : Int) (x3 : Int) (x4 : Value) (hx4 : notAgg x4 = true) (u : PH) (Q : Value → PH → Prop) : fnVC Try.prog f82_h Try.f82 [.c (.v (.slice x0 x0_l x0_c)), .c (.v (.int .i64 x1)), .c (.v (.int .i64 x2)), .c (.v (.int .i64 x3)), .c (.vv ⟨x4, hx4⟩)] u Q = f82_V x0 x0_l x0_c x1 x2 x3 x4 hx4 u Q := by kernel_rfl
theorem f82_of {x0 : Option Addr} {x0_l x0_c : Nat} {x1 : Int} {x2 : Int} {x3 : Int} {x4 : Value} {hx4 : notAgg x4 = true} {u : PH} {Q : Value → PH → Prop} (h : f82_V x0 x0_l x0_c x1 x2 x3 x4 hx4 u Q) : Spec Try.prog 82 #[.slice x0 x0_l x0_c, .int .i64 x1, .int .i64 x2, .int .i64 x3, x4] u Q :=
  spec_of_vc (H := f82_h) (ps := [.c (.v (.slice x0 x0_l x0_c)), .c (.v (.int .i64 x1)), .c (.v (.int .i64 x2)), .c (.v (.int .i64 x3)), .c (.vv ⟨x4, hx4⟩)]) Try.func82 rfl (by rw [f82_vc]; exact h)
/-- slices.stableCmpFunc[cortado/api.Call] -/
def f67_h : Hints := ⟨[(2, ⟨[(7, .int .i64), (8, .int .i64)], [], []⟩), (7, ⟨[(6, .int .i64), (7, .int .i64), (8, .int .i64)], [], []⟩), (9, ⟨[(7, .int .i64), (8, .int .i64)], [], []⟩)], []⟩
set_option maxRecDepth 100000 in
def f67_V (data : Option Addr) (data_l data_c : Nat) (n : Int) (cmp : Value) (hcmp : notAgg cmp = true) (u : PH) (Q : Value → PH → Prop) : Prop :=
 (∃ (I1 : Int → Int → PH → Prop) (M2 : Int → Int → PH → Nat), I1 0 20 u ∧
 ∀ n3 : Int, ∀ n4 : Int, ∀ u5 : PH, I1 n3 n4 u5 →
 ((decide ((n4 : Int) ≤ n)) = true →
 Spec Try.prog 81 #[.slice data data_l data_c, .int .i64 n3, .int .i64 n4, cmp] u5 (fun v6 u7 =>
 v6 = .tuple #[] ∧
 I1 n4 (IntKind.wrap .i64 (n4 + 20)) u7 ∧ M2 n4 (IntKind.wrap .i64 (n4 + 20)) u7 < M2 n3 n4 u5)) ∧
 ((decide ((n4 : Int) ≤ n)) = false →
 Spec Try.prog 81 #[.slice data data_l data_c, .int .i64 n3, .int .i64 n, cmp] u5 (fun v8 u9 =>
 v8 = .tuple #[] ∧
 ∃ (I10 : Int → Int → Int → PH → Prop) (M11 : Int → Int → Int → PH → Nat), I10 20 n3 n4 u9 ∧
 ∀ n12 : Int, ∀ n13 : Int, ∀ n14 : Int, ∀ u15 : PH, I10 n12 n13 n14 u15 →
 ((decide ((n12 : Int) < n)) = true →
 ∃ (I16 : Int → Int → PH → Prop) (M17 : Int → Int → PH → Nat), I16 0 (IntKind.wrap .i64 (2 * n12)) u15 ∧
 ∀ n18 : Int, ∀ n19 : Int, ∀ u20 : PH, I16 n18 n19 u20 →
 ((decide ((n19 : Int) ≤ n)) = true →
 Spec Try.prog 82 #[.slice data data_l data_c, .int .i64 n18, .int .i64 (IntKind.wrap .i64 (n18 + n12)), .int .i64 n19, cmp] u20 (fun v21 u22 =>
 v21 = .tuple #[] ∧
 I16 n19 (IntKind.wrap .i64 (n19 + (IntKind.wrap .i64 (2 * n12)))) u22 ∧ M17 n19 (IntKind.wrap .i64 (n19 + (IntKind.wrap .i64 (2 * n12)))) u22 < M17 n18 n19 u20)) ∧
 ((decide ((n19 : Int) ≤ n)) = false →
 ((decide (((IntKind.wrap .i64 (n18 + n12)) : Int) < n)) = true →
 Spec Try.prog 82 #[.slice data data_l data_c, .int .i64 n18, .int .i64 (IntKind.wrap .i64 (n18 + n12)), .int .i64 n, cmp] u20 (fun v23 u24 =>
 v23 = .tuple #[] ∧
 I10 (IntKind.wrap .i64 (n12 * 2)) n18 n19 u24 ∧ M11 (IntKind.wrap .i64 (n12 * 2)) n18 n19 u24 < M11 n12 n13 n14 u15)) ∧
 ((decide (((IntKind.wrap .i64 (n18 + n12)) : Int) < n)) = false →
 I10 (IntKind.wrap .i64 (n12 * 2)) n18 n19 u20 ∧ M11 (IntKind.wrap .i64 (n12 * 2)) n18 n19 u20 < M11 n12 n13 n14 u15))) ∧
 ((decide ((n12 : Int) < n)) = false →
 Q (.tuple #[]) u15))))
set_option maxRecDepth 100000 in
theorem f67_vc (data : Option Addr) (data_l data_c : Nat) (n : Int) (cmp : Value) (hcmp : notAgg cmp = true) (u : PH) (Q : Value → PH → Prop) : fnVC Try.prog f67_h Try.f67 [.c (.v (.slice data data_l data_c)), .c (.v (.int .i64 n)), .c (.vv ⟨cmp, hcmp⟩)] u Q = f67_V data data_l data_c n cmp hcmp u Q := by kernel_rfl
theorem f67_of {data : Option Addr} {data_l data_c : Nat} {n : Int} {cmp : Value} {hcmp : notAgg cmp = true} {u : PH} {Q : Value → PH → Prop} (h : f67_V data data_l data_c n cmp hcmp u Q) : Spec Try.prog 67 #[.slice data data_l data_c, .int .i64 n, cmp] u Q :=
  spec_of_vc (H := f67_h) (ps := [.c (.v (.slice data data_l data_c)), .c (.v (.int .i64 n)), .c (.vv ⟨cmp, hcmp⟩)]) Try.func67 rfl (by rw [f67_vc]; exact h)
/-- slices.SortStableFunc[[]cortado/api.Call,cortado/api.Call] -/
def f56_h : Hints := ⟨[], []⟩
set_option maxRecDepth 100000 in
def f56_V (x : Option Addr) (x_l x_c : Nat) (cmp : Value) (hcmp : notAgg cmp = true) (u : PH) (Q : Value → PH → Prop) : Prop :=
 (Spec Try.prog 67 #[.slice x x_l x_c, .int .i64 (((x_l : Nat) : Int)), cmp] u (fun v1 u2 =>
 v1 = .tuple #[] ∧
 Q (.tuple #[]) u2))
set_option maxRecDepth 100000 in
theorem f56_vc (x : Option Addr) (x_l x_c : Nat) (cmp : Value) (hcmp : notAgg cmp = true) (u : PH) (Q : Value → PH → Prop) : fnVC Try.prog f56_h Try.f56 [.c (.v (.slice x x_l x_c)), .c (.vv ⟨cmp, hcmp⟩)] u Q = f56_V x x_l x_c cmp hcmp u Q := by kernel_rfl
theorem f56_of {x : Option Addr} {x_l x_c : Nat} {cmp : Value} {hcmp : notAgg cmp = true} {u : PH} {Q : Value → PH → Prop} (h : f56_V x x_l x_c cmp hcmp u Q) : Spec Try.prog 56 #[.slice x x_l x_c, cmp] u Q :=
  spec_of_vc (H := f56_h) (ps := [.c (.v (.slice x x_l x_c)), .c (.vv ⟨cmp, hcmp⟩)]) Try.func56 rfl (by rw [f56_vc]; exact h)
end Go.Proofs.Ytlmnfhhmgfnbpaa.E
