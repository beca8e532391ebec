import Derived.Test.YtlmnfhhmgfnbpaaDoorE13
import Derived.Test.YtlmnfhhmgfnbpaaDoorB0
namespace Go.Proofs.YtlmnfhhmgfnbpaaDoor.E
open Go
/-- cortado/cortadolaw45.awake -/
def f14_h : Hints := ⟨[], []⟩
set_option maxRecDepth 100000 in
def f14_V  (u : PH) (Q : Value → PH → Prop) : Prop :=
 (Spec Tryd.prog 8 #[.agg #[.int .i64 0, .int .i64 3, .int .i64 2, .int .i64 1, .int .i64 5, .int .i64 3, .int .i64 0, .int .i64 4, .int .i64 6, .int .i64 7, .int .i64 0, .bool true, .int .i64 0]] u (fun v1 u2 =>
 ∃ s3 : ByteArray, v1 = .string s3 ∧
 Q (.bool (ByteArray.toList s3 == ByteArray.toList (ByteArray.mk #[48, 46, 51, 32, 115, 101, 116, 32, 49, 32, 53, 32, 51, 32, 48, 32, 61, 32, 111, 107, 32, 48, 32, 91, 52, 32, 54, 32, 55, 93, 32, 64, 48]))) u2))
set_option maxRecDepth 100000 in
theorem f14_vc  (u : PH) (Q : Value → PH → Prop) : fnVC Tryd.prog f14_h Tryd.f14 [] u Q = f14_V  u Q := by kernel_rfl
theorem f14_of  {u : PH} {Q : Value → PH → Prop} (h : f14_V  u Q) : Spec Tryd.prog 14 #[] u Q :=
  spec_of_vc (H := f14_h) (ps := []) Tryd.func14 rfl (by rw [f14_vc]; exact h)
/-- cortado/trace.Call -/
def f8_h : Hints := ⟨[(5, ⟨[(3, .slice), (26, .int .i64)], [], []⟩)], []⟩
set_option maxRecDepth 100000 in
def f8_V (c : Call) (u : PH) (Q : Value → PH → Prop) : Prop :=
 (Spec Tryd.prog 29 #[.agg #[.int .i64 c.op.kind, .int .i64 c.op.key, .int .i64 c.op.val, .int .i64 c.op.cost, .int .i64 c.op.ttl]] u (fun v1 u2 =>
 ∃ b3 : Bool, v1 = .bool b3 ∧
 ((!b3) = true →
 Q (.string (ByteArray.mk #[])) u2) ∧
 ((!b3) = false →
 ∃ w4 : PH, Ext w4 u2 ∧
 (Spec Tryd.prog 17 #[.int .i64 c.client] u2 (fun v5 u6 =>
 ∃ s7 : ByteArray, v5 = .string s7 ∧
 Ext w4 u6 ∧
 (s7.size + (ByteArray.mk #[46]).size ≤ 9223372036854775807) ∧
 Spec Tryd.prog 17 #[.int .i64 c.id] u6 (fun v8 u9 =>
 ∃ s10 : ByteArray, v8 = .string s10 ∧
 Ext w4 u9 ∧
 (((s7 ++ (ByteArray.mk #[46]))).size + s10.size ≤ 9223372036854775807) ∧
 Spec Tryd.prog 30 #[.int .i64 c.op.kind] u9 (fun v11 u12 =>
 ∃ s13 : ByteArray, v11 = .string s13 ∧
 Ext w4 u12 ∧
 ∀ B14 : Nat, u12 B14 = none →
 Ext w4 (PH.add u12 B14 (.cells #[.string ((((s7 ++ (ByteArray.mk #[46]))) ++ s10)), .string s13] 9)) ∧
 ∀ B15 : Nat, (PH.add u12 B14 (.cells #[.string ((((s7 ++ (ByteArray.mk #[46]))) ++ s10)), .string s13] 9)) B15 = none →
 Spec Tryd.prog 31 #[.pointer (some ⟨B15, 2, none⟩)] (PH.add (PH.add u12 B14 (.cells #[.string ((((s7 ++ (ByteArray.mk #[46]))) ++ s10)), .string s13] 9)) B15 (.cells #[.int .i64 c.client, .int .i64 c.id, .int .i64 c.op.kind, .int .i64 c.op.key, .int .i64 c.op.val, .int .i64 c.op.cost, .int .i64 c.op.ttl, .int .i64 c.beg, .int .i64 c.at_, .int .i64 c.end_, .int .i64 c.tick, .bool c.ok, .int .i64 c.got] 25)) (fun v16 u17 =>
 ∃ (a18 : Option Addr) (l19 c20 : Nat), v16 = .slice a18 l19 c20 ∧
 ∃ (I21 : Option Addr → Nat → Nat → Int → PH → Prop) (M22 : Option Addr → Nat → Nat → Int → PH → Nat), I21 ((some ⟨B14, 0, none⟩)) 2 2 0 u17 ∧
 ∀ (a23 : Option Addr) (l24 c25 : Nat), ∀ n26 : Int, ∀ u27 : PH, I21 a23 l24 c25 n26 u27 →
 ((decide ((n26 : Int) < (((l19 : Nat) : Int)))) = true →
 ∃ b28 o29 : Nat, (a18 : Option Addr) = some ⟨b28, o29, none⟩ ∧ ((0 : Int) ≤ n26 ∧ (n26 : Int) < ((l19 : Nat) : Int)) ∧
 ∃ p30 : Option Addr, PH.cell u27 b28 (o29 + (n26 : Int).toNat * 1) = some (.pointer p30) ∧
 ∃ b31 o32 : Nat, (p30 : Option Addr) = some ⟨b31, o32, none⟩ ∧
 ∃ n33 : Int, PH.cell u27 b31 o32 = some (.int .i64 n33) ∧
 Spec Tryd.prog 17 #[.int .i64 n33] u27 (fun v34 u35 =>
 ∃ s36 : ByteArray, v34 = .string s36 ∧
 ∀ B37 : Nat, u35 B37 = none →
 SemSpec Tryd.prog (Builtin.append_ #[55, 55] 55 #[.slice a23 l24 c25, .slice ((some ⟨B37, 0, none⟩)) 1 1]) (PH.add u35 B37 (.cells #[.string s36] 9)) (fun v38 u39 =>
 ∃ (a40 : Option Addr) (l41 c42 : Nat), v38 = .slice a40 l41 c42 ∧
 I21 a40 l41 c42 (IntKind.wrap .i64 (n26 + 1)) u39 ∧ M22 a40 l41 c42 (IntKind.wrap .i64 (n26 + 1)) u39 < M22 a23 l24 c25 n26 u27))) ∧
 ((decide ((n26 : Int) < (((l19 : Nat) : Int)))) = false →
 ∃ w43 : PH, Ext w43 u27 ∧
 (∃ b44 : Bool, PH.cell w43 B15 (0 + 11) = some (.bool b44) ∧
 ∃ n45 : Int, PH.cell w43 B15 (0 + 12) = some (.int .i64 n45) ∧
 ∃ n46 : Int, PH.cell w43 B15 (0 + 7) = some (.int .i64 n46) ∧
 ∃ n47 : Int, PH.cell w43 B15 (0 + 8) = some (.int .i64 n47) ∧
 ∃ n48 : Int, PH.cell w43 B15 (0 + 9) = some (.int .i64 n48) ∧
 ∃ n49 : Int, PH.cell w43 B15 (0 + 10) = some (.int .i64 n49) ∧
 Spec Tryd.prog 32 #[.bool b44] u27 (fun v50 u51 =>
 ∃ s52 : ByteArray, v50 = .string s52 ∧
 Ext w43 u51 ∧
 Spec Tryd.prog 17 #[.int .i64 n45] u51 (fun v53 u54 =>
 ∃ s55 : ByteArray, v53 = .string s55 ∧
 Ext w43 u54 ∧
 Spec Tryd.prog 17 #[.int .i64 n46] u54 (fun v56 u57 =>
 ∃ s58 : ByteArray, v56 = .string s58 ∧
 Ext w43 u57 ∧
 ((ByteArray.mk #[91]).size + s58.size ≤ 9223372036854775807) ∧
 Spec Tryd.prog 17 #[.int .i64 n47] u57 (fun v59 u60 =>
 ∃ s61 : ByteArray, v59 = .string s61 ∧
 Ext w43 u60 ∧
 Spec Tryd.prog 17 #[.int .i64 n48] u60 (fun v62 u63 =>
 ∃ s64 : ByteArray, v62 = .string s64 ∧
 Ext w43 u63 ∧
 (s64.size + (ByteArray.mk #[93]).size ≤ 9223372036854775807) ∧
 Spec Tryd.prog 17 #[.int .i64 n49] u63 (fun v65 u66 =>
 ∃ s67 : ByteArray, v65 = .string s67 ∧
 Ext w43 u66 ∧
 ((ByteArray.mk #[64]).size + s67.size ≤ 9223372036854775807) ∧
 ∀ B68 : Nat, u66 B68 = none →
 Ext w43 (PH.add u66 B68 (.cells #[.string (ByteArray.mk #[61]), .string s52, .string s55, .string (((ByteArray.mk #[91]) ++ s58)), .string s61, .string ((s64 ++ (ByteArray.mk #[93]))), .string (((ByteArray.mk #[64]) ++ s67))] 9)) ∧
 SemSpec Tryd.prog (Builtin.append_ #[55, 55] 55 #[.slice a23 l24 c25, .slice ((some ⟨B68, 0, none⟩)) 7 7]) (PH.add u66 B68 (.cells #[.string (ByteArray.mk #[61]), .string s52, .string s55, .string (((ByteArray.mk #[91]) ++ s58)), .string s61, .string ((s64 ++ (ByteArray.mk #[93]))), .string (((ByteArray.mk #[64]) ++ s67))] 9)) (fun v69 u70 =>
 ∃ (a71 : Option Addr) (l72 c73 : Nat), v69 = .slice a71 l72 c73 ∧
 Ext w43 u70 ∧
 Spec Tryd.prog 33 #[.slice a71 l72 c73, .string (ByteArray.mk #[32])] u70 (fun v74 u75 =>
 ∃ s76 : ByteArray, v74 = .string s76 ∧
 Q (.string s76) u75))))))))))))))))))
set_option maxRecDepth 100000 in
theorem f8_vc (c : Call) (u : PH) (Q : Value → PH → Prop) : fnVC Tryd.prog f8_h Tryd.f8 [.agg [.v (.int .i64 c.client), .v (.int .i64 c.id), .v (.int .i64 c.op.kind), .v (.int .i64 c.op.key), .v (.int .i64 c.op.val), .v (.int .i64 c.op.cost), .v (.int .i64 c.op.ttl), .v (.int .i64 c.beg), .v (.int .i64 c.at_), .v (.int .i64 c.end_), .v (.int .i64 c.tick), .v (.bool c.ok), .v (.int .i64 c.got)]] u Q = f8_V c u Q := by kernel_rfl
theorem f8_of {c : Call} {u : PH} {Q : Value → PH → Prop} (h : f8_V c u Q) : Spec Tryd.prog 8 #[.agg #[.int .i64 c.client, .int .i64 c.id, .int .i64 c.op.kind, .int .i64 c.op.key, .int .i64 c.op.val, .int .i64 c.op.cost, .int .i64 c.op.ttl, .int .i64 c.beg, .int .i64 c.at_, .int .i64 c.end_, .int .i64 c.tick, .bool c.ok, .int .i64 c.got]] u Q :=
  spec_of_vc (H := f8_h) (ps := [.agg [.v (.int .i64 c.client), .v (.int .i64 c.id), .v (.int .i64 c.op.kind), .v (.int .i64 c.op.key), .v (.int .i64 c.op.val), .v (.int .i64 c.op.cost), .v (.int .i64 c.op.ttl), .v (.int .i64 c.beg), .v (.int .i64 c.at_), .v (.int .i64 c.end_), .v (.int .i64 c.tick), .v (.bool c.ok), .v (.int .i64 c.got)]]) Tryd.func8 rfl (by rw [f8_vc]; exact h)
/-- cortado/cortadoref45.Call -/
def f9_h : Hints := ⟨[(7, ⟨[(4, .str), (6, .int .i64)], [], []⟩)], []⟩
set_option maxRecDepth 100000 in
def f9_V (x0 : Call) (u : PH) (Q : Value → PH → Prop) : Prop :=
 (Spec Tryd.prog 28 #[.agg #[.int .i64 x0.op.kind, .int .i64 x0.op.key, .int .i64 x0.op.val, .int .i64 x0.op.cost, .int .i64 x0.op.ttl]] u (fun v1 u2 =>
 ∃ b3 : Bool, v1 = .bool b3 ∧
 ((!b3) = true →
 Q (.string (ByteArray.mk #[])) u2) ∧
 ((!b3) = false →
 ∀ B4 : Nat, u2 B4 = none →
 ∃ w5 : PH, Ext w5 (PH.add u2 B4 (.cells #[.string (ByteArray.mk #[110, 111, 110, 101]), .string (ByteArray.mk #[103, 101, 116]), .string (ByteArray.mk #[115, 101, 116]), .string (ByteArray.mk #[100, 101, 108]), .string (ByteArray.mk #[119, 97, 105, 116]), .string (ByteArray.mk #[99, 108, 101, 97, 114]), .string (ByteArray.mk #[99, 108, 111, 115, 101]), .string (ByteArray.mk #[108, 105, 109, 105, 116])] 9)) ∧
 (∃ b6 o7 : Nat, ((some ⟨B4, 0, none⟩) : Option Addr) = some ⟨b6, o7, none⟩ ∧ ((0 : Int) ≤ x0.op.kind ∧ (x0.op.kind : Int) < ((8 : Nat) : Int)) ∧
 ∃ s8 : ByteArray, PH.cell w5 b6 (o7 + (x0.op.kind : Int).toNat * 1) = some (.string s8) ∧
 Spec Tryd.prog 18 #[.int .i64 x0.client] (PH.add u2 B4 (.cells #[.string (ByteArray.mk #[110, 111, 110, 101]), .string (ByteArray.mk #[103, 101, 116]), .string (ByteArray.mk #[115, 101, 116]), .string (ByteArray.mk #[100, 101, 108]), .string (ByteArray.mk #[119, 97, 105, 116]), .string (ByteArray.mk #[99, 108, 101, 97, 114]), .string (ByteArray.mk #[99, 108, 111, 115, 101]), .string (ByteArray.mk #[108, 105, 109, 105, 116])] 9)) (fun v9 u10 =>
 ∃ s11 : ByteArray, v9 = .string s11 ∧
 Ext w5 u10 ∧
 (s11.size + (ByteArray.mk #[46]).size ≤ 9223372036854775807) ∧
 Spec Tryd.prog 18 #[.int .i64 x0.id] u10 (fun v12 u13 =>
 ∃ s14 : ByteArray, v12 = .string s14 ∧
 Ext w5 u13 ∧
 (((s11 ++ (ByteArray.mk #[46]))).size + s14.size ≤ 9223372036854775807) ∧
 (((((s11 ++ (ByteArray.mk #[46]))) ++ s14)).size + (ByteArray.mk #[32]).size ≤ 9223372036854775807) ∧
 (((((((s11 ++ (ByteArray.mk #[46]))) ++ s14)) ++ (ByteArray.mk #[32]))).size + s8.size ≤ 9223372036854775807) ∧
 Spec Tryd.prog 34 #[.agg #[.int .i64 x0.op.kind, .int .i64 x0.op.key, .int .i64 x0.op.val, .int .i64 x0.op.cost, .int .i64 x0.op.ttl]] u13 (fun v15 u16 =>
 ∃ (a17 : Option Addr) (l18 c19 : Nat), v15 = .slice a17 l18 c19 ∧
 ∃ (I20 : ByteArray → Int → PH → Prop) (M21 : ByteArray → Int → PH → Nat), I20 ((((((((s11 ++ (ByteArray.mk #[46]))) ++ s14)) ++ (ByteArray.mk #[32]))) ++ s8)) 0 u16 ∧
 ∀ s22 : ByteArray, ∀ n23 : Int, ∀ u24 : PH, I20 s22 n23 u24 →
 ((decide ((n23 : Int) < (((l18 : Nat) : Int)))) = true →
 ∃ b25 o26 : Nat, (a17 : Option Addr) = some ⟨b25, o26, none⟩ ∧ ((0 : Int) ≤ n23 ∧ (n23 : Int) < ((l18 : Nat) : Int)) ∧
 ∃ n27 : Int, PH.cell u24 b25 (o26 + (n23 : Int).toNat * 1) = some (.int .i64 n27) ∧
 Spec Tryd.prog 18 #[.int .i64 n27] u24 (fun v28 u29 =>
 ∃ s30 : ByteArray, v28 = .string s30 ∧
 ((ByteArray.mk #[32]).size + s30.size ≤ 9223372036854775807) ∧
 (s22.size + (((ByteArray.mk #[32]) ++ s30)).size ≤ 9223372036854775807) ∧
 I20 ((s22 ++ (((ByteArray.mk #[32]) ++ s30)))) (IntKind.wrap .i64 (n23 + 1)) u29 ∧ M21 ((s22 ++ (((ByteArray.mk #[32]) ++ s30)))) (IntKind.wrap .i64 (n23 + 1)) u29 < M21 s22 n23 u24)) ∧
 ((decide ((n23 : Int) < (((l18 : Nat) : Int)))) = false →
 (x0.ok = true →
 (s22.size + (ByteArray.mk #[32, 61, 32, 111, 107, 32]).size ≤ 9223372036854775807) ∧
 ∃ w31 : PH, Ext w31 u24 ∧
 (Spec Tryd.prog 18 #[.int .i64 x0.got] u24 (fun v32 u33 =>
 ∃ s34 : ByteArray, v32 = .string s34 ∧
 Ext w31 u33 ∧
 (((s22 ++ (ByteArray.mk #[32, 61, 32, 111, 107, 32]))).size + s34.size ≤ 9223372036854775807) ∧
 (((((s22 ++ (ByteArray.mk #[32, 61, 32, 111, 107, 32]))) ++ s34)).size + (ByteArray.mk #[32, 91]).size ≤ 9223372036854775807) ∧
 Spec Tryd.prog 18 #[.int .i64 x0.beg] u33 (fun v35 u36 =>
 ∃ s37 : ByteArray, v35 = .string s37 ∧
 Ext w31 u36 ∧
 (((((((s22 ++ (ByteArray.mk #[32, 61, 32, 111, 107, 32]))) ++ s34)) ++ (ByteArray.mk #[32, 91]))).size + s37.size ≤ 9223372036854775807) ∧
 (((((((((s22 ++ (ByteArray.mk #[32, 61, 32, 111, 107, 32]))) ++ s34)) ++ (ByteArray.mk #[32, 91]))) ++ s37)).size + (ByteArray.mk #[32]).size ≤ 9223372036854775807) ∧
 Spec Tryd.prog 18 #[.int .i64 x0.at_] u36 (fun v38 u39 =>
 ∃ s40 : ByteArray, v38 = .string s40 ∧
 Ext w31 u39 ∧
 (((((((((((s22 ++ (ByteArray.mk #[32, 61, 32, 111, 107, 32]))) ++ s34)) ++ (ByteArray.mk #[32, 91]))) ++ s37)) ++ (ByteArray.mk #[32]))).size + s40.size ≤ 9223372036854775807) ∧
 (((((((((((((s22 ++ (ByteArray.mk #[32, 61, 32, 111, 107, 32]))) ++ s34)) ++ (ByteArray.mk #[32, 91]))) ++ s37)) ++ (ByteArray.mk #[32]))) ++ s40)).size + (ByteArray.mk #[32]).size ≤ 9223372036854775807) ∧
 Spec Tryd.prog 18 #[.int .i64 x0.end_] u39 (fun v41 u42 =>
 ∃ s43 : ByteArray, v41 = .string s43 ∧
 Ext w31 u42 ∧
 (((((((((((((((s22 ++ (ByteArray.mk #[32, 61, 32, 111, 107, 32]))) ++ s34)) ++ (ByteArray.mk #[32, 91]))) ++ s37)) ++ (ByteArray.mk #[32]))) ++ s40)) ++ (ByteArray.mk #[32]))).size + s43.size ≤ 9223372036854775807) ∧
 (((((((((((((((((s22 ++ (ByteArray.mk #[32, 61, 32, 111, 107, 32]))) ++ s34)) ++ (ByteArray.mk #[32, 91]))) ++ s37)) ++ (ByteArray.mk #[32]))) ++ s40)) ++ (ByteArray.mk #[32]))) ++ s43)).size + (ByteArray.mk #[93, 32, 64]).size ≤ 9223372036854775807) ∧
 Spec Tryd.prog 18 #[.int .i64 x0.tick] u42 (fun v44 u45 =>
 ∃ s46 : ByteArray, v44 = .string s46 ∧
 Ext w31 u45 ∧
 (((((((((((((((((((s22 ++ (ByteArray.mk #[32, 61, 32, 111, 107, 32]))) ++ s34)) ++ (ByteArray.mk #[32, 91]))) ++ s37)) ++ (ByteArray.mk #[32]))) ++ s40)) ++ (ByteArray.mk #[32]))) ++ s43)) ++ (ByteArray.mk #[93, 32, 64]))).size + s46.size ≤ 9223372036854775807) ∧
 Q (.string ((((((((((((((((((((s22 ++ (ByteArray.mk #[32, 61, 32, 111, 107, 32]))) ++ s34)) ++ (ByteArray.mk #[32, 91]))) ++ s37)) ++ (ByteArray.mk #[32]))) ++ s40)) ++ (ByteArray.mk #[32]))) ++ s43)) ++ (ByteArray.mk #[93, 32, 64]))) ++ s46))) u45))))))) ∧
 (x0.ok = false →
 (s22.size + (ByteArray.mk #[32, 61, 32, 110, 111, 32]).size ≤ 9223372036854775807) ∧
 ∃ w47 : PH, Ext w47 u24 ∧
 (Spec Tryd.prog 18 #[.int .i64 x0.got] u24 (fun v48 u49 =>
 ∃ s50 : ByteArray, v48 = .string s50 ∧
 Ext w47 u49 ∧
 (((s22 ++ (ByteArray.mk #[32, 61, 32, 110, 111, 32]))).size + s50.size ≤ 9223372036854775807) ∧
 (((((s22 ++ (ByteArray.mk #[32, 61, 32, 110, 111, 32]))) ++ s50)).size + (ByteArray.mk #[32, 91]).size ≤ 9223372036854775807) ∧
 Spec Tryd.prog 18 #[.int .i64 x0.beg] u49 (fun v51 u52 =>
 ∃ s53 : ByteArray, v51 = .string s53 ∧
 Ext w47 u52 ∧
 (((((((s22 ++ (ByteArray.mk #[32, 61, 32, 110, 111, 32]))) ++ s50)) ++ (ByteArray.mk #[32, 91]))).size + s53.size ≤ 9223372036854775807) ∧
 (((((((((s22 ++ (ByteArray.mk #[32, 61, 32, 110, 111, 32]))) ++ s50)) ++ (ByteArray.mk #[32, 91]))) ++ s53)).size + (ByteArray.mk #[32]).size ≤ 9223372036854775807) ∧
 Spec Tryd.prog 18 #[.int .i64 x0.at_] u52 (fun v54 u55 =>
 ∃ s56 : ByteArray, v54 = .string s56 ∧
 Ext w47 u55 ∧
 (((((((((((s22 ++ (ByteArray.mk #[32, 61, 32, 110, 111, 32]))) ++ s50)) ++ (ByteArray.mk #[32, 91]))) ++ s53)) ++ (ByteArray.mk #[32]))).size + s56.size ≤ 9223372036854775807) ∧
 (((((((((((((s22 ++ (ByteArray.mk #[32, 61, 32, 110, 111, 32]))) ++ s50)) ++ (ByteArray.mk #[32, 91]))) ++ s53)) ++ (ByteArray.mk #[32]))) ++ s56)).size + (ByteArray.mk #[32]).size ≤ 9223372036854775807) ∧
 Spec Tryd.prog 18 #[.int .i64 x0.end_] u55 (fun v57 u58 =>
 ∃ s59 : ByteArray, v57 = .string s59 ∧
 Ext w47 u58 ∧
 (((((((((((((((s22 ++ (ByteArray.mk #[32, 61, 32, 110, 111, 32]))) ++ s50)) ++ (ByteArray.mk #[32, 91]))) ++ s53)) ++ (ByteArray.mk #[32]))) ++ s56)) ++ (ByteArray.mk #[32]))).size + s59.size ≤ 9223372036854775807) ∧
 (((((((((((((((((s22 ++ (ByteArray.mk #[32, 61, 32, 110, 111, 32]))) ++ s50)) ++ (ByteArray.mk #[32, 91]))) ++ s53)) ++ (ByteArray.mk #[32]))) ++ s56)) ++ (ByteArray.mk #[32]))) ++ s59)).size + (ByteArray.mk #[93, 32, 64]).size ≤ 9223372036854775807) ∧
 Spec Tryd.prog 18 #[.int .i64 x0.tick] u58 (fun v60 u61 =>
 ∃ s62 : ByteArray, v60 = .string s62 ∧
 Ext w47 u61 ∧
 (((((((((((((((((((s22 ++ (ByteArray.mk #[32, 61, 32, 110, 111, 32]))) ++ s50)) ++ (ByteArray.mk #[32, 91]))) ++ s53)) ++ (ByteArray.mk #[32]))) ++ s56)) ++ (ByteArray.mk #[32]))) ++ s59)) ++ (ByteArray.mk #[93, 32, 64]))).size + s62.size ≤ 9223372036854775807) ∧
 Q (.string ((((((((((((((((((((s22 ++ (ByteArray.mk #[32, 61, 32, 110, 111, 32]))) ++ s50)) ++ (ByteArray.mk #[32, 91]))) ++ s53)) ++ (ByteArray.mk #[32]))) ++ s56)) ++ (ByteArray.mk #[32]))) ++ s59)) ++ (ByteArray.mk #[93, 32, 64]))) ++ s62))) u61)))))))))))))))
set_option maxRecDepth 100000 in
theorem f9_vc (x0 : Call) (u : PH) (Q : Value → PH → Prop) : fnVC Tryd.prog f9_h Tryd.f9 [.agg [.v (.int .i64 x0.client), .v (.int .i64 x0.id), .v (.int .i64 x0.op.kind), .v (.int .i64 x0.op.key), .v (.int .i64 x0.op.val), .v (.int .i64 x0.op.cost), .v (.int .i64 x0.op.ttl), .v (.int .i64 x0.beg), .v (.int .i64 x0.at_), .v (.int .i64 x0.end_), .v (.int .i64 x0.tick), .v (.bool x0.ok), .v (.int .i64 x0.got)]] u Q = f9_V x0 u Q := by kernel_rfl
theorem f9_of {x0 : Call} {u : PH} {Q : Value → PH → Prop} (h : f9_V x0 u Q) : Spec Tryd.prog 9 #[.agg #[.int .i64 x0.client, .int .i64 x0.id, .int .i64 x0.op.kind, .int .i64 x0.op.key, .int .i64 x0.op.val, .int .i64 x0.op.cost, .int .i64 x0.op.ttl, .int .i64 x0.beg, .int .i64 x0.at_, .int .i64 x0.end_, .int .i64 x0.tick, .bool x0.ok, .int .i64 x0.got]] u Q :=
  spec_of_vc (H := f9_h) (ps := [.agg [.v (.int .i64 x0.client), .v (.int .i64 x0.id), .v (.int .i64 x0.op.kind), .v (.int .i64 x0.op.key), .v (.int .i64 x0.op.val), .v (.int .i64 x0.op.cost), .v (.int .i64 x0.op.ttl), .v (.int .i64 x0.beg), .v (.int .i64 x0.at_), .v (.int .i64 x0.end_), .v (.int .i64 x0.tick), .v (.bool x0.ok), .v (.int .i64 x0.got)]]) Tryd.func9 rfl (by rw [f9_vc]; exact h)
/-- cortado/trace.Turn -/
def f10_h : Hints := ⟨[], []⟩
set_option maxRecDepth 100000 in
def f10_V (x0 : Int) (t_0 : Int) (t_1 : Int) (t_2 : Int) (t_3 : Option Addr) (t_3_l t_3_c : Nat) (u : PH) (Q : Value → PH → Prop) : Prop :=
 ((((t_0 : Int) == 1) = true →
 ∀ B1 : Nat, u B1 = none →
 Spec Tryd.prog 35 #[.slice ((some ⟨B1, 0, none⟩)) 4 4, .int .i64 t_1] (PH.add u B1 (.cells #[.string (ByteArray.mk #[105, 100, 108, 101]), .string (ByteArray.mk #[108, 111, 99, 107]), .string (ByteArray.mk #[97, 99, 116]), .string (ByteArray.mk #[102, 114, 101, 101])] 9)) (fun v2 u3 =>
 ∃ s4 : ByteArray, v2 = .string s4 ∧
 ((ByteArray.mk #[107, 101, 101, 112, 101, 114, 32]).size + s4.size ≤ 9223372036854775807) ∧
 ∃ w5 : PH, Ext w5 u3 ∧
 (Spec Tryd.prog 17 #[.int .i64 x0] u3 (fun v6 u7 =>
 ∃ s8 : ByteArray, v6 = .string s8 ∧
 Ext w5 u7 ∧
 (s8.size + (ByteArray.mk #[32]).size ≤ 9223372036854775807) ∧
 (((s8 ++ (ByteArray.mk #[32]))).size + (((ByteArray.mk #[107, 101, 101, 112, 101, 114, 32]) ++ s4)).size ≤ 9223372036854775807) ∧
 (((((s8 ++ (ByteArray.mk #[32]))) ++ (((ByteArray.mk #[107, 101, 101, 112, 101, 114, 32]) ++ s4)))).size + (ByteArray.mk #[32, 64]).size ≤ 9223372036854775807) ∧
 Spec Tryd.prog 17 #[.int .i64 t_2] u7 (fun v9 u10 =>
 ∃ s11 : ByteArray, v9 = .string s11 ∧
 (((((((s8 ++ (ByteArray.mk #[32]))) ++ (((ByteArray.mk #[107, 101, 101, 112, 101, 114, 32]) ++ s4)))) ++ (ByteArray.mk #[32, 64]))).size + s11.size ≤ 9223372036854775807) ∧
 Q (.string ((((((((s8 ++ (ByteArray.mk #[32]))) ++ (((ByteArray.mk #[107, 101, 101, 112, 101, 114, 32]) ++ s4)))) ++ (ByteArray.mk #[32, 64]))) ++ s11))) u10))))) ∧
 (((t_0 : Int) == 1) = false →
 ((decide ((t_0 : Int) > 1)) = true →
 ∃ w12 : PH, Ext w12 u ∧
 ((Spec Tryd.prog 17 #[.int .i64 (IntKind.wrap .i64 (t_0 - 2))] u (fun v13 u14 =>
 ∃ s15 : ByteArray, v13 = .string s15 ∧
 Ext w12 u14 ∧
 ((ByteArray.mk #[99, 108, 105, 101, 110, 116, 32]).size + s15.size ≤ 9223372036854775807) ∧
 ((((ByteArray.mk #[99, 108, 105, 101, 110, 116, 32]) ++ s15)).size + (ByteArray.mk #[32]).size ≤ 9223372036854775807) ∧
 ∀ B16 : Nat, u14 B16 = none →
 Ext w12 (PH.add u14 B16 (.cells #[.string (ByteArray.mk #[98, 101, 103, 105, 110]), .string (ByteArray.mk #[108, 111, 99, 107]), .string (ByteArray.mk #[97, 99, 116]), .string (ByteArray.mk #[102, 114, 101, 101]), .string (ByteArray.mk #[108, 97, 115, 116])] 9)) ∧
 Spec Tryd.prog 35 #[.slice ((some ⟨B16, 0, none⟩)) 5 5, .int .i64 t_1] (PH.add u14 B16 (.cells #[.string (ByteArray.mk #[98, 101, 103, 105, 110]), .string (ByteArray.mk #[108, 111, 99, 107]), .string (ByteArray.mk #[97, 99, 116]), .string (ByteArray.mk #[102, 114, 101, 101]), .string (ByteArray.mk #[108, 97, 115, 116])] 9)) (fun v17 u18 =>
 ∃ s19 : ByteArray, v17 = .string s19 ∧
 Ext w12 u18 ∧
 ((((((ByteArray.mk #[99, 108, 105, 101, 110, 116, 32]) ++ s15)) ++ (ByteArray.mk #[32]))).size + s19.size ≤ 9223372036854775807) ∧
 ∃ w20 : PH, Ext w20 u18 ∧
 (Spec Tryd.prog 17 #[.int .i64 x0] u18 (fun v21 u22 =>
 ∃ s23 : ByteArray, v21 = .string s23 ∧
 Ext w20 u22 ∧
 (s23.size + (ByteArray.mk #[32]).size ≤ 9223372036854775807) ∧
 (((s23 ++ (ByteArray.mk #[32]))).size + (((((((ByteArray.mk #[99, 108, 105, 101, 110, 116, 32]) ++ s15)) ++ (ByteArray.mk #[32]))) ++ s19)).size ≤ 9223372036854775807) ∧
 (((((s23 ++ (ByteArray.mk #[32]))) ++ (((((((ByteArray.mk #[99, 108, 105, 101, 110, 116, 32]) ++ s15)) ++ (ByteArray.mk #[32]))) ++ s19)))).size + (ByteArray.mk #[32, 64]).size ≤ 9223372036854775807) ∧
 Spec Tryd.prog 17 #[.int .i64 t_2] u22 (fun v24 u25 =>
 ∃ s26 : ByteArray, v24 = .string s26 ∧
 (((((((s23 ++ (ByteArray.mk #[32]))) ++ (((((((ByteArray.mk #[99, 108, 105, 101, 110, 116, 32]) ++ s15)) ++ (ByteArray.mk #[32]))) ++ s19)))) ++ (ByteArray.mk #[32, 64]))).size + s26.size ≤ 9223372036854775807) ∧
 Q (.string ((((((((s23 ++ (ByteArray.mk #[32]))) ++ (((((((ByteArray.mk #[99, 108, 105, 101, 110, 116, 32]) ++ s15)) ++ (ByteArray.mk #[32]))) ++ s19)))) ++ (ByteArray.mk #[32, 64]))) ++ s26))) u25))))))
 ∧ (∀ B27 : Nat, u B27 = none →
 Ext w12 (PH.add u B27 (.cells #[.string (ByteArray.mk #[98, 101, 103, 105, 110]), .string (ByteArray.mk #[108, 111, 99, 107]), .string (ByteArray.mk #[97, 99, 116]), .string (ByteArray.mk #[102, 114, 101, 101]), .string (ByteArray.mk #[108, 97, 115, 116])] 9)) ∧
 Spec Tryd.prog 17 #[.int .i64 (IntKind.wrap .i64 (t_0 - 2))] (PH.add u B27 (.cells #[.string (ByteArray.mk #[98, 101, 103, 105, 110]), .string (ByteArray.mk #[108, 111, 99, 107]), .string (ByteArray.mk #[97, 99, 116]), .string (ByteArray.mk #[102, 114, 101, 101]), .string (ByteArray.mk #[108, 97, 115, 116])] 9)) (fun v28 u29 =>
 ∃ s30 : ByteArray, v28 = .string s30 ∧
 Ext w12 u29 ∧
 ((ByteArray.mk #[99, 108, 105, 101, 110, 116, 32]).size + s30.size ≤ 9223372036854775807) ∧
 ((((ByteArray.mk #[99, 108, 105, 101, 110, 116, 32]) ++ s30)).size + (ByteArray.mk #[32]).size ≤ 9223372036854775807) ∧
 Spec Tryd.prog 35 #[.slice ((some ⟨B27, 0, none⟩)) 5 5, .int .i64 t_1] u29 (fun v31 u32 =>
 ∃ s33 : ByteArray, v31 = .string s33 ∧
 Ext w12 u32 ∧
 ((((((ByteArray.mk #[99, 108, 105, 101, 110, 116, 32]) ++ s30)) ++ (ByteArray.mk #[32]))).size + s33.size ≤ 9223372036854775807) ∧
 ∃ w34 : PH, Ext w34 u32 ∧
 (Spec Tryd.prog 17 #[.int .i64 x0] u32 (fun v35 u36 =>
 ∃ s37 : ByteArray, v35 = .string s37 ∧
 Ext w34 u36 ∧
 (s37.size + (ByteArray.mk #[32]).size ≤ 9223372036854775807) ∧
 (((s37 ++ (ByteArray.mk #[32]))).size + (((((((ByteArray.mk #[99, 108, 105, 101, 110, 116, 32]) ++ s30)) ++ (ByteArray.mk #[32]))) ++ s33)).size ≤ 9223372036854775807) ∧
 (((((s37 ++ (ByteArray.mk #[32]))) ++ (((((((ByteArray.mk #[99, 108, 105, 101, 110, 116, 32]) ++ s30)) ++ (ByteArray.mk #[32]))) ++ s33)))).size + (ByteArray.mk #[32, 64]).size ≤ 9223372036854775807) ∧
 Spec Tryd.prog 17 #[.int .i64 t_2] u36 (fun v38 u39 =>
 ∃ s40 : ByteArray, v38 = .string s40 ∧
 (((((((s37 ++ (ByteArray.mk #[32]))) ++ (((((((ByteArray.mk #[99, 108, 105, 101, 110, 116, 32]) ++ s30)) ++ (ByteArray.mk #[32]))) ++ s33)))) ++ (ByteArray.mk #[32, 64]))).size + s40.size ≤ 9223372036854775807) ∧
 Q (.string ((((((((s37 ++ (ByteArray.mk #[32]))) ++ (((((((ByteArray.mk #[99, 108, 105, 101, 110, 116, 32]) ++ s30)) ++ (ByteArray.mk #[32]))) ++ s33)))) ++ (ByteArray.mk #[32, 64]))) ++ s40))) u39)))))))) ∧
 ((decide ((t_0 : Int) > 1)) = false →
 ∃ w41 : PH, Ext w41 u ∧
 (Spec Tryd.prog 17 #[.int .i64 x0] u (fun v42 u43 =>
 ∃ s44 : ByteArray, v42 = .string s44 ∧
 Ext w41 u43 ∧
 (s44.size + (ByteArray.mk #[32]).size ≤ 9223372036854775807) ∧
 (((s44 ++ (ByteArray.mk #[32]))).size + (ByteArray.mk #[99, 108, 111, 99, 107]).size ≤ 9223372036854775807) ∧
 (((((s44 ++ (ByteArray.mk #[32]))) ++ (ByteArray.mk #[99, 108, 111, 99, 107]))).size + (ByteArray.mk #[32, 64]).size ≤ 9223372036854775807) ∧
 Spec Tryd.prog 17 #[.int .i64 t_2] u43 (fun v45 u46 =>
 ∃ s47 : ByteArray, v45 = .string s47 ∧
 (((((((s44 ++ (ByteArray.mk #[32]))) ++ (ByteArray.mk #[99, 108, 111, 99, 107]))) ++ (ByteArray.mk #[32, 64]))).size + s47.size ≤ 9223372036854775807) ∧
 Q (.string ((((((((s44 ++ (ByteArray.mk #[32]))) ++ (ByteArray.mk #[99, 108, 111, 99, 107]))) ++ (ByteArray.mk #[32, 64]))) ++ s47))) u46))))))
set_option maxRecDepth 100000 in
theorem f10_vc (x0 : Int) (t_0 : Int) (t_1 : Int) (t_2 : Int) (t_3 : Option Addr) (t_3_l t_3_c : Nat) (u : PH) (Q : Value → PH → Prop) : fnVC Tryd.prog f10_h Tryd.f10 [.c (.v (.int .i64 x0)), .agg [.v (.int .i64 t_0), .v (.int .i64 t_1), .v (.int .i64 t_2), .v (.slice t_3 t_3_l t_3_c)]] u Q = f10_V x0 t_0 t_1 t_2 t_3 t_3_l t_3_c u Q := by kernel_rfl
theorem f10_of {x0 : Int} {t_0 : Int} {t_1 : Int} {t_2 : Int} {t_3 : Option Addr} {t_3_l t_3_c : Nat} {u : PH} {Q : Value → PH → Prop} (h : f10_V x0 t_0 t_1 t_2 t_3 t_3_l t_3_c u Q) : Spec Tryd.prog 10 #[.int .i64 x0, .agg #[.int .i64 t_0, .int .i64 t_1, .int .i64 t_2, .slice t_3 t_3_l t_3_c]] u Q :=
  spec_of_vc (H := f10_h) (ps := [.c (.v (.int .i64 x0)), .agg [.v (.int .i64 t_0), .v (.int .i64 t_1), .v (.int .i64 t_2), .v (.slice t_3 t_3_l t_3_c)]]) Tryd.func10 rfl (by rw [f10_vc]; exact h)
/-- cortado/cortadoref45.Turn -/
def f11_h : Hints := ⟨[], []⟩
set_option maxRecDepth 100000 in
def f11_V (x0 : Int) (t_0 : Int) (t_1 : Int) (t_2 : Int) (t_3 : Option Addr) (t_3_l t_3_c : Nat) (u : PH) (Q : Value → PH → Prop) : Prop :=
 (Spec Tryd.prog 18 #[.int .i64 x0] u (fun v1 u2 =>
 ∃ s3 : ByteArray, v1 = .string s3 ∧
 (s3.size + (ByteArray.mk #[32]).size ≤ 9223372036854775807) ∧
 (((t_0 : Int) == 1) = true →
 ∀ B4 : Nat, u2 B4 = none →
 Spec Tryd.prog 36 #[.slice ((some ⟨B4, 0, none⟩)) 4 4, .int .i64 t_1] (PH.add u2 B4 (.cells #[.string (ByteArray.mk #[105, 100, 108, 101]), .string (ByteArray.mk #[108, 111, 99, 107]), .string (ByteArray.mk #[97, 99, 116]), .string (ByteArray.mk #[102, 114, 101, 101])] 9)) (fun v5 u6 =>
 ∃ s7 : ByteArray, v5 = .string s7 ∧
 ((ByteArray.mk #[107, 101, 101, 112, 101, 114, 32]).size + s7.size ≤ 9223372036854775807) ∧
 (((s3 ++ (ByteArray.mk #[32]))).size + (((ByteArray.mk #[107, 101, 101, 112, 101, 114, 32]) ++ s7)).size ≤ 9223372036854775807) ∧
 (((((s3 ++ (ByteArray.mk #[32]))) ++ (((ByteArray.mk #[107, 101, 101, 112, 101, 114, 32]) ++ s7)))).size + (ByteArray.mk #[32, 64]).size ≤ 9223372036854775807) ∧
 Spec Tryd.prog 18 #[.int .i64 t_2] u6 (fun v8 u9 =>
 ∃ s10 : ByteArray, v8 = .string s10 ∧
 (((((((s3 ++ (ByteArray.mk #[32]))) ++ (((ByteArray.mk #[107, 101, 101, 112, 101, 114, 32]) ++ s7)))) ++ (ByteArray.mk #[32, 64]))).size + s10.size ≤ 9223372036854775807) ∧
 Q (.string ((((((((s3 ++ (ByteArray.mk #[32]))) ++ (((ByteArray.mk #[107, 101, 101, 112, 101, 114, 32]) ++ s7)))) ++ (ByteArray.mk #[32, 64]))) ++ s10))) u9))) ∧
 (((t_0 : Int) == 1) = false →
 ((decide ((t_0 : Int) > 1)) = true →
 ∃ w11 : PH, Ext w11 u2 ∧
 ((Spec Tryd.prog 18 #[.int .i64 (IntKind.wrap .i64 (t_0 - 2))] u2 (fun v12 u13 =>
 ∃ s14 : ByteArray, v12 = .string s14 ∧
 Ext w11 u13 ∧
 ((ByteArray.mk #[99, 108, 105, 101, 110, 116, 32]).size + s14.size ≤ 9223372036854775807) ∧
 ((((ByteArray.mk #[99, 108, 105, 101, 110, 116, 32]) ++ s14)).size + (ByteArray.mk #[32]).size ≤ 9223372036854775807) ∧
 ∀ B15 : Nat, u13 B15 = none →
 Ext w11 (PH.add u13 B15 (.cells #[.string (ByteArray.mk #[98, 101, 103, 105, 110]), .string (ByteArray.mk #[108, 111, 99, 107]), .string (ByteArray.mk #[97, 99, 116]), .string (ByteArray.mk #[102, 114, 101, 101]), .string (ByteArray.mk #[108, 97, 115, 116])] 9)) ∧
 Spec Tryd.prog 36 #[.slice ((some ⟨B15, 0, none⟩)) 5 5, .int .i64 t_1] (PH.add u13 B15 (.cells #[.string (ByteArray.mk #[98, 101, 103, 105, 110]), .string (ByteArray.mk #[108, 111, 99, 107]), .string (ByteArray.mk #[97, 99, 116]), .string (ByteArray.mk #[102, 114, 101, 101]), .string (ByteArray.mk #[108, 97, 115, 116])] 9)) (fun v16 u17 =>
 ∃ s18 : ByteArray, v16 = .string s18 ∧
 Ext w11 u17 ∧
 ((((((ByteArray.mk #[99, 108, 105, 101, 110, 116, 32]) ++ s14)) ++ (ByteArray.mk #[32]))).size + s18.size ≤ 9223372036854775807) ∧
 (((s3 ++ (ByteArray.mk #[32]))).size + (((((((ByteArray.mk #[99, 108, 105, 101, 110, 116, 32]) ++ s14)) ++ (ByteArray.mk #[32]))) ++ s18)).size ≤ 9223372036854775807) ∧
 (((((s3 ++ (ByteArray.mk #[32]))) ++ (((((((ByteArray.mk #[99, 108, 105, 101, 110, 116, 32]) ++ s14)) ++ (ByteArray.mk #[32]))) ++ s18)))).size + (ByteArray.mk #[32, 64]).size ≤ 9223372036854775807) ∧
 Spec Tryd.prog 18 #[.int .i64 t_2] u17 (fun v19 u20 =>
 ∃ s21 : ByteArray, v19 = .string s21 ∧
 (((((((s3 ++ (ByteArray.mk #[32]))) ++ (((((((ByteArray.mk #[99, 108, 105, 101, 110, 116, 32]) ++ s14)) ++ (ByteArray.mk #[32]))) ++ s18)))) ++ (ByteArray.mk #[32, 64]))).size + s21.size ≤ 9223372036854775807) ∧
 Q (.string ((((((((s3 ++ (ByteArray.mk #[32]))) ++ (((((((ByteArray.mk #[99, 108, 105, 101, 110, 116, 32]) ++ s14)) ++ (ByteArray.mk #[32]))) ++ s18)))) ++ (ByteArray.mk #[32, 64]))) ++ s21))) u20))))
 ∧ (∀ B22 : Nat, u2 B22 = none →
 Ext w11 (PH.add u2 B22 (.cells #[.string (ByteArray.mk #[98, 101, 103, 105, 110]), .string (ByteArray.mk #[108, 111, 99, 107]), .string (ByteArray.mk #[97, 99, 116]), .string (ByteArray.mk #[102, 114, 101, 101]), .string (ByteArray.mk #[108, 97, 115, 116])] 9)) ∧
 Spec Tryd.prog 18 #[.int .i64 (IntKind.wrap .i64 (t_0 - 2))] (PH.add u2 B22 (.cells #[.string (ByteArray.mk #[98, 101, 103, 105, 110]), .string (ByteArray.mk #[108, 111, 99, 107]), .string (ByteArray.mk #[97, 99, 116]), .string (ByteArray.mk #[102, 114, 101, 101]), .string (ByteArray.mk #[108, 97, 115, 116])] 9)) (fun v23 u24 =>
 ∃ s25 : ByteArray, v23 = .string s25 ∧
 Ext w11 u24 ∧
 ((ByteArray.mk #[99, 108, 105, 101, 110, 116, 32]).size + s25.size ≤ 9223372036854775807) ∧
 ((((ByteArray.mk #[99, 108, 105, 101, 110, 116, 32]) ++ s25)).size + (ByteArray.mk #[32]).size ≤ 9223372036854775807) ∧
 Spec Tryd.prog 36 #[.slice ((some ⟨B22, 0, none⟩)) 5 5, .int .i64 t_1] u24 (fun v26 u27 =>
 ∃ s28 : ByteArray, v26 = .string s28 ∧
 Ext w11 u27 ∧
 ((((((ByteArray.mk #[99, 108, 105, 101, 110, 116, 32]) ++ s25)) ++ (ByteArray.mk #[32]))).size + s28.size ≤ 9223372036854775807) ∧
 (((s3 ++ (ByteArray.mk #[32]))).size + (((((((ByteArray.mk #[99, 108, 105, 101, 110, 116, 32]) ++ s25)) ++ (ByteArray.mk #[32]))) ++ s28)).size ≤ 9223372036854775807) ∧
 (((((s3 ++ (ByteArray.mk #[32]))) ++ (((((((ByteArray.mk #[99, 108, 105, 101, 110, 116, 32]) ++ s25)) ++ (ByteArray.mk #[32]))) ++ s28)))).size + (ByteArray.mk #[32, 64]).size ≤ 9223372036854775807) ∧
 Spec Tryd.prog 18 #[.int .i64 t_2] u27 (fun v29 u30 =>
 ∃ s31 : ByteArray, v29 = .string s31 ∧
 (((((((s3 ++ (ByteArray.mk #[32]))) ++ (((((((ByteArray.mk #[99, 108, 105, 101, 110, 116, 32]) ++ s25)) ++ (ByteArray.mk #[32]))) ++ s28)))) ++ (ByteArray.mk #[32, 64]))).size + s31.size ≤ 9223372036854775807) ∧
 Q (.string ((((((((s3 ++ (ByteArray.mk #[32]))) ++ (((((((ByteArray.mk #[99, 108, 105, 101, 110, 116, 32]) ++ s25)) ++ (ByteArray.mk #[32]))) ++ s28)))) ++ (ByteArray.mk #[32, 64]))) ++ s31))) u30)))))) ∧
 ((decide ((t_0 : Int) > 1)) = false →
 (((s3 ++ (ByteArray.mk #[32]))).size + (ByteArray.mk #[99, 108, 111, 99, 107]).size ≤ 9223372036854775807) ∧
 (((((s3 ++ (ByteArray.mk #[32]))) ++ (ByteArray.mk #[99, 108, 111, 99, 107]))).size + (ByteArray.mk #[32, 64]).size ≤ 9223372036854775807) ∧
 Spec Tryd.prog 18 #[.int .i64 t_2] u2 (fun v32 u33 =>
 ∃ s34 : ByteArray, v32 = .string s34 ∧
 (((((((s3 ++ (ByteArray.mk #[32]))) ++ (ByteArray.mk #[99, 108, 111, 99, 107]))) ++ (ByteArray.mk #[32, 64]))).size + s34.size ≤ 9223372036854775807) ∧
 Q (.string ((((((((s3 ++ (ByteArray.mk #[32]))) ++ (ByteArray.mk #[99, 108, 111, 99, 107]))) ++ (ByteArray.mk #[32, 64]))) ++ s34))) u33)))))
set_option maxRecDepth 100000 in
theorem f11_vc (x0 : Int) (t_0 : Int) (t_1 : Int) (t_2 : Int) (t_3 : Option Addr) (t_3_l t_3_c : Nat) (u : PH) (Q : Value → PH → Prop) : fnVC Tryd.prog f11_h Tryd.f11 [.c (.v (.int .i64 x0)), .agg [.v (.int .i64 t_0), .v (.int .i64 t_1), .v (.int .i64 t_2), .v (.slice t_3 t_3_l t_3_c)]] u Q = f11_V x0 t_0 t_1 t_2 t_3 t_3_l t_3_c u Q := by kernel_rfl
theorem f11_of {x0 : Int} {t_0 : Int} {t_1 : Int} {t_2 : Int} {t_3 : Option Addr} {t_3_l t_3_c : Nat} {u : PH} {Q : Value → PH → Prop} (h : f11_V x0 t_0 t_1 t_2 t_3 t_3_l t_3_c u Q) : Spec Tryd.prog 11 #[.int .i64 x0, .agg #[.int .i64 t_0, .int .i64 t_1, .int .i64 t_2, .slice t_3 t_3_l t_3_c]] u Q :=
  spec_of_vc (H := f11_h) (ps := [.c (.v (.int .i64 x0)), .agg [.v (.int .i64 t_0), .v (.int .i64 t_1), .v (.int .i64 t_2), .v (.slice t_3 t_3_l t_3_c)]]) Tryd.func11 rfl (by rw [f11_vc]; exact h)
/-- cortado/trace.Event -/
def f12_h : Hints := ⟨[], []⟩
set_option maxRecDepth 100000 in
def f12_V (e_0 : Int) (e_1 : Int) (e_2 : Int) (e_3 : Int) (e_4 : Int) (u : PH) (Q : Value → PH → Prop) : Prop :=
 (∃ w1 : PH, Ext w1 u ∧
 (Spec Tryd.prog 37 #[.int .i64 e_0] u (fun v2 u3 =>
 ∃ s4 : ByteArray, v2 = .string s4 ∧
 Ext w1 u3 ∧
 (s4.size + (ByteArray.mk #[32]).size ≤ 9223372036854775807) ∧
 Spec Tryd.prog 38 #[.int .u64 e_1, .int .i64 10] u3 (fun v5 u6 =>
 ∃ s7 : ByteArray, v5 = .string s7 ∧
 Ext w1 u6 ∧
 (((s4 ++ (ByteArray.mk #[32]))).size + s7.size ≤ 9223372036854775807) ∧
 (((((s4 ++ (ByteArray.mk #[32]))) ++ s7)).size + (ByteArray.mk #[32]).size ≤ 9223372036854775807) ∧
 Spec Tryd.prog 17 #[.int .i64 e_4] u6 (fun v8 u9 =>
 ∃ s10 : ByteArray, v8 = .string s10 ∧
 Ext w1 u9 ∧
 (((((((s4 ++ (ByteArray.mk #[32]))) ++ s7)) ++ (ByteArray.mk #[32]))).size + s10.size ≤ 9223372036854775807) ∧
 (((((((((s4 ++ (ByteArray.mk #[32]))) ++ s7)) ++ (ByteArray.mk #[32]))) ++ s10)).size + (ByteArray.mk #[32]).size ≤ 9223372036854775807) ∧
 Spec Tryd.prog 17 #[.int .i64 e_3] u9 (fun v11 u12 =>
 ∃ s13 : ByteArray, v11 = .string s13 ∧
 Ext w1 u12 ∧
 (((((((((((s4 ++ (ByteArray.mk #[32]))) ++ s7)) ++ (ByteArray.mk #[32]))) ++ s10)) ++ (ByteArray.mk #[32]))).size + s13.size ≤ 9223372036854775807) ∧
 Q (.string ((((((((((((s4 ++ (ByteArray.mk #[32]))) ++ s7)) ++ (ByteArray.mk #[32]))) ++ s10)) ++ (ByteArray.mk #[32]))) ++ s13))) u12))))))
set_option maxRecDepth 100000 in
theorem f12_vc (e_0 : Int) (e_1 : Int) (e_2 : Int) (e_3 : Int) (e_4 : Int) (u : PH) (Q : Value → PH → Prop) : fnVC Tryd.prog f12_h Tryd.f12 [.agg [.v (.int .i64 e_0), .v (.int .u64 e_1), .v (.int .u64 e_2), .v (.int .i64 e_3), .v (.int .i64 e_4)]] u Q = f12_V e_0 e_1 e_2 e_3 e_4 u Q := by kernel_rfl
theorem f12_of {e_0 : Int} {e_1 : Int} {e_2 : Int} {e_3 : Int} {e_4 : Int} {u : PH} {Q : Value → PH → Prop} (h : f12_V e_0 e_1 e_2 e_3 e_4 u Q) : Spec Tryd.prog 12 #[.agg #[.int .i64 e_0, .int .u64 e_1, .int .u64 e_2, .int .i64 e_3, .int .i64 e_4]] u Q :=
  spec_of_vc (H := f12_h) (ps := [.agg [.v (.int .i64 e_0), .v (.int .u64 e_1), .v (.int .u64 e_2), .v (.int .i64 e_3), .v (.int .i64 e_4)]]) Tryd.func12 rfl (by rw [f12_vc]; exact h)
/-- cortado/cortadoref45.Event -/
def f13_h : Hints := ⟨[], []⟩
set_option maxRecDepth 100000 in
def f13_V (e_0 : Int) (e_1 : Int) (e_2 : Int) (e_3 : Int) (e_4 : Int) (u : PH) (Q : Value → PH → Prop) : Prop :=
 ((((decide ((e_0 : Int) ≥ 1)) && (decide ((e_0 : Int) ≤ 6))) = true →
 ∀ B1 : Nat, u B1 = none →
 ∃ b2 o3 : Nat, ((some ⟨B1, 0, none⟩) : Option Addr) = some ⟨b2, o3, none⟩ ∧ ((0 : Int) ≤ (IntKind.wrap .i64 (e_0 - 1)) ∧ ((IntKind.wrap .i64 (e_0 - 1)) : Int) < ((6 : Nat) : Int)) ∧
 ∃ s4 : ByteArray, PH.cell (PH.add u B1 (.cells #[.string (ByteArray.mk #[101, 118, 105, 99, 116]), .string (ByteArray.mk #[101, 120, 112, 105, 114, 101]), .string (ByteArray.mk #[100, 101, 108]), .string (ByteArray.mk #[99, 108, 101, 97, 114]), .string (ByteArray.mk #[99, 108, 111, 115, 101]), .string (ByteArray.mk #[114, 101, 106, 101, 99, 116])] 9)) b2 (o3 + ((IntKind.wrap .i64 (e_0 - 1)) : Int).toNat * 1) = some (.string s4) ∧
 ∃ w5 : PH, Ext w5 (PH.add u B1 (.cells #[.string (ByteArray.mk #[101, 118, 105, 99, 116]), .string (ByteArray.mk #[101, 120, 112, 105, 114, 101]), .string (ByteArray.mk #[100, 101, 108]), .string (ByteArray.mk #[99, 108, 101, 97, 114]), .string (ByteArray.mk #[99, 108, 111, 115, 101]), .string (ByteArray.mk #[114, 101, 106, 101, 99, 116])] 9)) ∧
 ((s4.size + (ByteArray.mk #[32]).size ≤ 9223372036854775807) ∧
 Spec Tryd.prog 39 #[.int .u64 e_1] (PH.add u B1 (.cells #[.string (ByteArray.mk #[101, 118, 105, 99, 116]), .string (ByteArray.mk #[101, 120, 112, 105, 114, 101]), .string (ByteArray.mk #[100, 101, 108]), .string (ByteArray.mk #[99, 108, 101, 97, 114]), .string (ByteArray.mk #[99, 108, 111, 115, 101]), .string (ByteArray.mk #[114, 101, 106, 101, 99, 116])] 9)) (fun v6 u7 =>
 ∃ s8 : ByteArray, v6 = .string s8 ∧
 Ext w5 u7 ∧
 (((s4 ++ (ByteArray.mk #[32]))).size + s8.size ≤ 9223372036854775807) ∧
 (((((s4 ++ (ByteArray.mk #[32]))) ++ s8)).size + (ByteArray.mk #[32]).size ≤ 9223372036854775807) ∧
 Spec Tryd.prog 18 #[.int .i64 e_4] u7 (fun v9 u10 =>
 ∃ s11 : ByteArray, v9 = .string s11 ∧
 Ext w5 u10 ∧
 (((((((s4 ++ (ByteArray.mk #[32]))) ++ s8)) ++ (ByteArray.mk #[32]))).size + s11.size ≤ 9223372036854775807) ∧
 (((((((((s4 ++ (ByteArray.mk #[32]))) ++ s8)) ++ (ByteArray.mk #[32]))) ++ s11)).size + (ByteArray.mk #[32]).size ≤ 9223372036854775807) ∧
 Spec Tryd.prog 18 #[.int .i64 e_3] u10 (fun v12 u13 =>
 ∃ s14 : ByteArray, v12 = .string s14 ∧
 Ext w5 u13 ∧
 (((((((((((s4 ++ (ByteArray.mk #[32]))) ++ s8)) ++ (ByteArray.mk #[32]))) ++ s11)) ++ (ByteArray.mk #[32]))).size + s14.size ≤ 9223372036854775807) ∧
 Q (.string ((((((((((((s4 ++ (ByteArray.mk #[32]))) ++ s8)) ++ (ByteArray.mk #[32]))) ++ s11)) ++ (ByteArray.mk #[32]))) ++ s14))) u13))))) ∧
 (((decide ((e_0 : Int) ≥ 1)) && (decide ((e_0 : Int) ≤ 6))) = false →
 ∃ w15 : PH, Ext w15 u ∧
 (((ByteArray.mk #[]).size + (ByteArray.mk #[32]).size ≤ 9223372036854775807) ∧
 Spec Tryd.prog 39 #[.int .u64 e_1] u (fun v16 u17 =>
 ∃ s18 : ByteArray, v16 = .string s18 ∧
 Ext w15 u17 ∧
 ((((ByteArray.mk #[]) ++ (ByteArray.mk #[32]))).size + s18.size ≤ 9223372036854775807) ∧
 ((((((ByteArray.mk #[]) ++ (ByteArray.mk #[32]))) ++ s18)).size + (ByteArray.mk #[32]).size ≤ 9223372036854775807) ∧
 Spec Tryd.prog 18 #[.int .i64 e_4] u17 (fun v19 u20 =>
 ∃ s21 : ByteArray, v19 = .string s21 ∧
 Ext w15 u20 ∧
 ((((((((ByteArray.mk #[]) ++ (ByteArray.mk #[32]))) ++ s18)) ++ (ByteArray.mk #[32]))).size + s21.size ≤ 9223372036854775807) ∧
 ((((((((((ByteArray.mk #[]) ++ (ByteArray.mk #[32]))) ++ s18)) ++ (ByteArray.mk #[32]))) ++ s21)).size + (ByteArray.mk #[32]).size ≤ 9223372036854775807) ∧
 Spec Tryd.prog 18 #[.int .i64 e_3] u20 (fun v22 u23 =>
 ∃ s24 : ByteArray, v22 = .string s24 ∧
 Ext w15 u23 ∧
 ((((((((((((ByteArray.mk #[]) ++ (ByteArray.mk #[32]))) ++ s18)) ++ (ByteArray.mk #[32]))) ++ s21)) ++ (ByteArray.mk #[32]))).size + s24.size ≤ 9223372036854775807) ∧
 Q (.string (((((((((((((ByteArray.mk #[]) ++ (ByteArray.mk #[32]))) ++ s18)) ++ (ByteArray.mk #[32]))) ++ s21)) ++ (ByteArray.mk #[32]))) ++ s24))) u23))))))
set_option maxRecDepth 100000 in
theorem f13_vc (e_0 : Int) (e_1 : Int) (e_2 : Int) (e_3 : Int) (e_4 : Int) (u : PH) (Q : Value → PH → Prop) : fnVC Tryd.prog f13_h Tryd.f13 [.agg [.v (.int .i64 e_0), .v (.int .u64 e_1), .v (.int .u64 e_2), .v (.int .i64 e_3), .v (.int .i64 e_4)]] u Q = f13_V e_0 e_1 e_2 e_3 e_4 u Q := by kernel_rfl
theorem f13_of {e_0 : Int} {e_1 : Int} {e_2 : Int} {e_3 : Int} {e_4 : Int} {u : PH} {Q : Value → PH → Prop} (h : f13_V e_0 e_1 e_2 e_3 e_4 u Q) : Spec Tryd.prog 13 #[.agg #[.int .i64 e_0, .int .u64 e_1, .int .u64 e_2, .int .i64 e_3, .int .i64 e_4]] u Q :=
  spec_of_vc (H := f13_h) (ps := [.agg [.v (.int .i64 e_0), .v (.int .u64 e_1), .v (.int .u64 e_2), .v (.int .i64 e_3), .v (.int .i64 e_4)]]) Tryd.func13 rfl (by rw [f13_vc]; exact h)
/-- cortado/trace.Int -/
def f17_h : Hints := ⟨[], []⟩
set_option maxRecDepth 100000 in
def f17_V (n : Int) (u : PH) (Q : Value → PH → Prop) : Prop :=
 (Spec Tryd.prog 41 #[.int .i64 n] u (fun v1 u2 =>
 ∃ s3 : ByteArray, v1 = .string s3 ∧
 Q (.string s3) u2))
set_option maxRecDepth 100000 in
theorem f17_vc (n : Int) (u : PH) (Q : Value → PH → Prop) : fnVC Tryd.prog f17_h Tryd.f17 [.c (.v (.int .i64 n))] u Q = f17_V n u Q := by kernel_rfl
theorem f17_of {n : Int} {u : PH} {Q : Value → PH → Prop} (h : f17_V n u Q) : Spec Tryd.prog 17 #[.int .i64 n] u Q :=
  spec_of_vc (H := f17_h) (ps := [.c (.v (.int .i64 n))]) Tryd.func17 rfl (by rw [f17_vc]; exact h)
/-- cortado/cortadoref29.Int -/
def f18_h : Hints := ⟨[], []⟩
set_option maxRecDepth 100000 in
def f18_V (n : Int) (u : PH) (Q : Value → PH → Prop) : Prop :=
 (((decide ((n : Int) < 0)) = true →
 Spec Tryd.prog 39 #[.int .u64 (IntKind.wrap .u64 (0 - (IntKind.wrap .u64 n)))] u (fun v1 u2 =>
 ∃ s3 : ByteArray, v1 = .string s3 ∧
 ((ByteArray.mk #[45]).size + s3.size ≤ 9223372036854775807) ∧
 Q (.string (((ByteArray.mk #[45]) ++ s3))) u2)) ∧
 ((decide ((n : Int) < 0)) = false →
 Spec Tryd.prog 39 #[.int .u64 (IntKind.wrap .u64 n)] u (fun v4 u5 =>
 ∃ s6 : ByteArray, v4 = .string s6 ∧
 Q (.string s6) u5)))
set_option maxRecDepth 100000 in
theorem f18_vc (n : Int) (u : PH) (Q : Value → PH → Prop) : fnVC Tryd.prog f18_h Tryd.f18 [.c (.v (.int .i64 n))] u Q = f18_V n u Q := by kernel_rfl
theorem f18_of {n : Int} {u : PH} {Q : Value → PH → Prop} (h : f18_V n u Q) : Spec Tryd.prog 18 #[.int .i64 n] u Q :=
  spec_of_vc (H := f18_h) (ps := [.c (.v (.int .i64 n))]) Tryd.func18 rfl (by rw [f18_vc]; exact h)
/-- cortado/cortadoref17.Right -/
def f28_h : Hints := ⟨[], []⟩
set_option maxRecDepth 100000 in
def f28_V (op : Op) (u : PH) (Q : Value → PH → Prop) : Prop :=
 (∃ w1 : PH, Ext w1 u ∧
 ((((decide ((op.kind : Int) ≥ 0)) && (decide ((op.kind : Int) ≤ 7))) = true →
 Spec Tryd.prog 55 #[.agg #[.int .i64 op.kind, .int .i64 op.key, .int .i64 op.val, .int .i64 op.cost, .int .i64 op.ttl]] u (fun v2 u3 =>
 ∃ n4 : Int, ∃ n5 : Int, ∃ n6 : Int, ∃ n7 : Int, ∃ n8 : Int, v2 = .agg #[.int .i64 n4, .int .i64 n5, .int .i64 n6, .int .i64 n7, .int .i64 n8] ∧
 Ext w1 u3 ∧
 Q (.bool (((n4 : Int) == op.kind) && (((n5 : Int) == op.key) && (((n6 : Int) == op.val) && (((n7 : Int) == op.cost) && ((n8 : Int) == op.ttl)))))) u3)) ∧
 (((decide ((op.kind : Int) ≥ 0)) && (decide ((op.kind : Int) ≤ 7))) = false →
 Ext w1 u ∧
 Q (.bool false) u)))
set_option maxRecDepth 100000 in
theorem f28_vc (op : Op) (u : PH) (Q : Value → PH → Prop) : fnVC Tryd.prog f28_h Tryd.f28 [.agg [.v (.int .i64 op.kind), .v (.int .i64 op.key), .v (.int .i64 op.val), .v (.int .i64 op.cost), .v (.int .i64 op.ttl)]] u Q = f28_V op u Q := by kernel_rfl
theorem f28_of {op : Op} {u : PH} {Q : Value → PH → Prop} (h : f28_V op u Q) : Spec Tryd.prog 28 #[.agg #[.int .i64 op.kind, .int .i64 op.key, .int .i64 op.val, .int .i64 op.cost, .int .i64 op.ttl]] u Q :=
  spec_of_vc (H := f28_h) (ps := [.agg [.v (.int .i64 op.kind), .v (.int .i64 op.key), .v (.int .i64 op.val), .v (.int .i64 op.cost), .v (.int .i64 op.ttl)]]) Tryd.func28 rfl (by rw [f28_vc]; exact h)
/-- cortado/prog.Right -/
def f29_h : Hints := ⟨[], []⟩
set_option maxRecDepth 100000 in
def f29_V (op : Op) (u : PH) (Q : Value → PH → Prop) : Prop :=
 (∃ w1 : PH, Ext w1 u ∧
 (Spec Tryd.prog 56 #[.int .i64 op.kind] u (fun v2 u3 =>
 ∃ b4 : Bool, v2 = .bool b4 ∧
 Ext w1 u3 ∧
 (Ext w1 u3 ∧
 ((b4 = true →
 Spec Tryd.prog 57 #[.agg #[.int .i64 op.kind, .int .i64 op.key, .int .i64 op.val, .int .i64 op.cost, .int .i64 op.ttl]] u3 (fun v5 u6 =>
 ∃ n7 : Int, ∃ n8 : Int, ∃ n9 : Int, ∃ n10 : Int, ∃ n11 : Int, v5 = .agg #[.int .i64 n7, .int .i64 n8, .int .i64 n9, .int .i64 n10, .int .i64 n11] ∧
 Ext w1 u6 ∧
 Ext w1 u6 ∧
 Q (.bool (((n7 : Int) == op.kind) && (((n8 : Int) == op.key) && (((n9 : Int) == op.val) && (((n10 : Int) == op.cost) && ((n11 : Int) == op.ttl)))))) u6)) ∧
 (b4 = false →
 Ext w1 u3 ∧
 Ext w1 u3 ∧
 Q (.bool false) u3))
 ∧ (Ext w1 u3 ∧
 (b4 = true →
 Spec Tryd.prog 57 #[.agg #[.int .i64 op.kind, .int .i64 op.key, .int .i64 op.val, .int .i64 op.cost, .int .i64 op.ttl]] u3 (fun v12 u13 =>
 ∃ n14 : Int, ∃ n15 : Int, ∃ n16 : Int, ∃ n17 : Int, ∃ n18 : Int, v12 = .agg #[.int .i64 n14, .int .i64 n15, .int .i64 n16, .int .i64 n17, .int .i64 n18] ∧
 Ext w1 u13 ∧
 Q (.bool (((n14 : Int) == op.kind) && (((n15 : Int) == op.key) && (((n16 : Int) == op.val) && (((n17 : Int) == op.cost) && ((n18 : Int) == op.ttl)))))) u13)) ∧
 (b4 = false →
 Ext w1 u3 ∧
 Q (.bool false) u3)))
 ∧ (Ext w1 u3 ∧
 Ext w1 u3 ∧
 (b4 = true →
 Spec Tryd.prog 57 #[.agg #[.int .i64 op.kind, .int .i64 op.key, .int .i64 op.val, .int .i64 op.cost, .int .i64 op.ttl]] u3 (fun v19 u20 =>
 ∃ n21 : Int, ∃ n22 : Int, ∃ n23 : Int, ∃ n24 : Int, ∃ n25 : Int, v19 = .agg #[.int .i64 n21, .int .i64 n22, .int .i64 n23, .int .i64 n24, .int .i64 n25] ∧
 Ext w1 u20 ∧
 Q (.bool (((n21 : Int) == op.kind) && (((n22 : Int) == op.key) && (((n23 : Int) == op.val) && (((n24 : Int) == op.cost) && ((n25 : Int) == op.ttl)))))) u20)) ∧
 (b4 = false →
 Ext w1 u3 ∧
 Q (.bool false) u3)))))
set_option maxRecDepth 100000 in
theorem f29_vc (op : Op) (u : PH) (Q : Value → PH → Prop) : fnVC Tryd.prog f29_h Tryd.f29 [.agg [.v (.int .i64 op.kind), .v (.int .i64 op.key), .v (.int .i64 op.val), .v (.int .i64 op.cost), .v (.int .i64 op.ttl)]] u Q = f29_V op u Q := by kernel_rfl
theorem f29_of {op : Op} {u : PH} {Q : Value → PH → Prop} (h : f29_V op u Q) : Spec Tryd.prog 29 #[.agg #[.int .i64 op.kind, .int .i64 op.key, .int .i64 op.val, .int .i64 op.cost, .int .i64 op.ttl]] u Q :=
  spec_of_vc (H := f29_h) (ps := [.agg [.v (.int .i64 op.kind), .v (.int .i64 op.key), .v (.int .i64 op.val), .v (.int .i64 op.cost), .v (.int .i64 op.ttl)]]) Tryd.func29 rfl (by rw [f29_vc]; exact h)
/-- cortado/prog.Name -/
def f30_h : Hints := ⟨[], []⟩
set_option maxRecDepth 100000 in
def f30_V (kind : Int) (u : PH) (Q : Value → PH → Prop) : Prop :=
 (Spec Tryd.prog 56 #[.int .i64 kind] u (fun v1 u2 =>
 ∃ b3 : Bool, v1 = .bool b3 ∧
 ((!b3) = true →
 Q (.string (ByteArray.mk #[])) u2) ∧
 ((!b3) = false →
 ((0 : Int) ≤ kind ∧ (kind : Int) < (8 : Int)) ∧
 ∃ s4 : ByteArray, PH.cell u2 0 (0 + (kind : Int).toNat * 1) = some (.string s4) ∧
 Q (.string s4) u2)))
set_option maxRecDepth 100000 in
theorem f30_vc (kind : Int) (u : PH) (Q : Value → PH → Prop) : fnVC Tryd.prog f30_h Tryd.f30 [.c (.v (.int .i64 kind))] u Q = f30_V kind u Q := by kernel_rfl
theorem f30_of {kind : Int} {u : PH} {Q : Value → PH → Prop} (h : f30_V kind u Q) : Spec Tryd.prog 30 #[.int .i64 kind] u Q :=
  spec_of_vc (H := f30_h) (ps := [.c (.v (.int .i64 kind))]) Tryd.func30 rfl (by rw [f30_vc]; exact h)
/-- cortado/trace.own -/
def f31_h : Hints := ⟨[], []⟩
set_option maxRecDepth 100000 in
def f31_V (op : Option Addr) (u : PH) (Q : Value → PH → Prop) : Prop :=
 (∃ b1 o2 : Nat, (op : Option Addr) = some ⟨b1, o2, none⟩ ∧
 ∃ n3 : Int, PH.cell u b1 (o2 + 0) = some (.int .i64 n3) ∧
 (((n3 : Int) == 1) = true →
 ∃ b4 o5 : Nat, (op : Option Addr) = some ⟨b4, o5, none⟩ ∧
 ∀ B6 : Nat, u B6 = none →
 Q (.slice ((some ⟨B6, 0, none⟩)) 1 1) (PH.add u B6 (.cells #[.pointer (some ⟨b4, o5 + 1, none⟩)] 68))) ∧
 (((n3 : Int) == 1) = false →
 (((n3 : Int) == 3) = true →
 ∃ b7 o8 : Nat, (op : Option Addr) = some ⟨b7, o8, none⟩ ∧
 ∀ B9 : Nat, u B9 = none →
 Q (.slice ((some ⟨B9, 0, none⟩)) 1 1) (PH.add u B9 (.cells #[.pointer (some ⟨b7, o8 + 1, none⟩)] 68))) ∧
 (((n3 : Int) == 3) = false →
 (((n3 : Int) == 2) = true →
 ∃ b10 o11 : Nat, (op : Option Addr) = some ⟨b10, o11, none⟩ ∧
 ∃ b12 o13 : Nat, (op : Option Addr) = some ⟨b12, o13, none⟩ ∧
 ∃ b14 o15 : Nat, (op : Option Addr) = some ⟨b14, o15, none⟩ ∧
 ∃ b16 o17 : Nat, (op : Option Addr) = some ⟨b16, o17, none⟩ ∧
 ∀ B18 : Nat, u B18 = none →
 Q (.slice ((some ⟨B18, 0, none⟩)) 4 4) (PH.add u B18 (.cells #[.pointer (some ⟨b10, o11 + 1, none⟩), .pointer (some ⟨b12, o13 + 2, none⟩), .pointer (some ⟨b14, o15 + 3, none⟩), .pointer (some ⟨b16, o17 + 4, none⟩)] 68))) ∧
 (((n3 : Int) == 2) = false →
 (((n3 : Int) == 7) = true →
 ∃ b19 o20 : Nat, (op : Option Addr) = some ⟨b19, o20, none⟩ ∧
 ∀ B21 : Nat, u B21 = none →
 Q (.slice ((some ⟨B21, 0, none⟩)) 1 1) (PH.add u B21 (.cells #[.pointer (some ⟨b19, o20 + 3, none⟩)] 68))) ∧
 (((n3 : Int) == 7) = false →
 Q (.slice none 0 0) u)))))
set_option maxRecDepth 100000 in
theorem f31_vc (op : Option Addr) (u : PH) (Q : Value → PH → Prop) : fnVC Tryd.prog f31_h Tryd.f31 [.c (.v (.pointer op))] u Q = f31_V op u Q := by kernel_rfl
theorem f31_of {op : Option Addr} {u : PH} {Q : Value → PH → Prop} (h : f31_V op u Q) : Spec Tryd.prog 31 #[.pointer op] u Q :=
  spec_of_vc (H := f31_h) (ps := [.c (.v (.pointer op))]) Tryd.func31 rfl (by rw [f31_vc]; exact h)
/-- cortado/trace.answer -/
def f32_h : Hints := ⟨[], []⟩
set_option maxRecDepth 100000 in
def f32_V (ok : Bool) (u : PH) (Q : Value → PH → Prop) : Prop :=
 ((ok = true →
 Q (.string (ByteArray.mk #[111, 107])) u) ∧
 (ok = false →
 Q (.string (ByteArray.mk #[110, 111])) u))
set_option maxRecDepth 100000 in
theorem f32_vc (ok : Bool) (u : PH) (Q : Value → PH → Prop) : fnVC Tryd.prog f32_h Tryd.f32 [.c (.v (.bool ok))] u Q = f32_V ok u Q := by kernel_rfl
theorem f32_of {ok : Bool} {u : PH} {Q : Value → PH → Prop} (h : f32_V ok u Q) : Spec Tryd.prog 32 #[.bool ok] u Q :=
  spec_of_vc (H := f32_h) (ps := [.c (.v (.bool ok))]) Tryd.func32 rfl (by rw [f32_vc]; exact h)
/-- cortado/cortadoref17.Numbers -/
def f34_h : Hints := ⟨[], []⟩
set_option maxRecDepth 100000 in
def f34_V (op : Op) (u : PH) (Q : Value → PH → Prop) : Prop :=
 ((((op.kind : Int) == 1) = true →
 ∀ B1 : Nat, u B1 = none →
 Q (.slice ((some ⟨B1, 0, none⟩)) 1 1) (PH.add u B1 (.cells #[.int .i64 op.key] 3))) ∧
 (((op.kind : Int) == 1) = false →
 (((op.kind : Int) == 3) = true →
 ∀ B2 : Nat, u B2 = none →
 Q (.slice ((some ⟨B2, 0, none⟩)) 1 1) (PH.add u B2 (.cells #[.int .i64 op.key] 3))) ∧
 (((op.kind : Int) == 3) = false →
 (((op.kind : Int) == 2) = true →
 ∀ B3 : Nat, u B3 = none →
 Q (.slice ((some ⟨B3, 0, none⟩)) 4 4) (PH.add u B3 (.cells #[.int .i64 op.key, .int .i64 op.val, .int .i64 op.cost, .int .i64 op.ttl] 3))) ∧
 (((op.kind : Int) == 2) = false →
 (((op.kind : Int) == 7) = true →
 ∀ B4 : Nat, u B4 = none →
 Q (.slice ((some ⟨B4, 0, none⟩)) 1 1) (PH.add u B4 (.cells #[.int .i64 op.cost] 3))) ∧
 (((op.kind : Int) == 7) = false →
 Q (.slice none 0 0) u)))))
set_option maxRecDepth 100000 in
theorem f34_vc (op : Op) (u : PH) (Q : Value → PH → Prop) : fnVC Tryd.prog f34_h Tryd.f34 [.agg [.v (.int .i64 op.kind), .v (.int .i64 op.key), .v (.int .i64 op.val), .v (.int .i64 op.cost), .v (.int .i64 op.ttl)]] u Q = f34_V op u Q := by kernel_rfl
theorem f34_of {op : Op} {u : PH} {Q : Value → PH → Prop} (h : f34_V op u Q) : Spec Tryd.prog 34 #[.agg #[.int .i64 op.kind, .int .i64 op.key, .int .i64 op.val, .int .i64 op.cost, .int .i64 op.ttl]] u Q :=
  spec_of_vc (H := f34_h) (ps := [.agg [.v (.int .i64 op.kind), .v (.int .i64 op.key), .v (.int .i64 op.val), .v (.int .i64 op.cost), .v (.int .i64 op.ttl)]]) Tryd.func34 rfl (by rw [f34_vc]; exact h)
/-- cortado/trace.stage -/
def f35_h : Hints := ⟨[], []⟩
set_option maxRecDepth 100000 in
def f35_V (names : Option Addr) (names_l names_c : Nat) (i : Int) (u : PH) (Q : Value → PH → Prop) : Prop :=
 ((((decide ((i : Int) < 0)) || (decide ((i : Int) ≥ (((names_l : Nat) : Int))))) = true →
 Q (.string (ByteArray.mk #[])) u) ∧
 (((decide ((i : Int) < 0)) || (decide ((i : Int) ≥ (((names_l : Nat) : Int))))) = false →
 ∃ b1 o2 : Nat, (names : Option Addr) = some ⟨b1, o2, none⟩ ∧ ((0 : Int) ≤ i ∧ (i : Int) < ((names_l : Nat) : Int)) ∧
 ∃ s3 : ByteArray, PH.cell u b1 (o2 + (i : Int).toNat * 1) = some (.string s3) ∧
 Q (.string s3) u))
set_option maxRecDepth 100000 in
theorem f35_vc (names : Option Addr) (names_l names_c : Nat) (i : Int) (u : PH) (Q : Value → PH → Prop) : fnVC Tryd.prog f35_h Tryd.f35 [.c (.v (.slice names names_l names_c)), .c (.v (.int .i64 i))] u Q = f35_V names names_l names_c i u Q := by kernel_rfl
theorem f35_of {names : Option Addr} {names_l names_c : Nat} {i : Int} {u : PH} {Q : Value → PH → Prop} (h : f35_V names names_l names_c i u Q) : Spec Tryd.prog 35 #[.slice names names_l names_c, .int .i64 i] u Q :=
  spec_of_vc (H := f35_h) (ps := [.c (.v (.slice names names_l names_c)), .c (.v (.int .i64 i))]) Tryd.func35 rfl (by rw [f35_vc]; exact h)
/-- cortado/cortadoref45.word -/
def f36_h : Hints := ⟨[], []⟩
set_option maxRecDepth 100000 in
def f36_V (l : Option Addr) (l_l l_c : Nat) (i : Int) (u : PH) (Q : Value → PH → Prop) : Prop :=
 ((((decide ((i : Int) < 0)) || (decide ((i : Int) ≥ (((l_l : Nat) : Int))))) = true →
 Q (.string (ByteArray.mk #[])) u) ∧
 (((decide ((i : Int) < 0)) || (decide ((i : Int) ≥ (((l_l : Nat) : Int))))) = false →
 ∃ b1 o2 : Nat, (l : Option Addr) = some ⟨b1, o2, none⟩ ∧ ((0 : Int) ≤ i ∧ (i : Int) < ((l_l : Nat) : Int)) ∧
 ∃ s3 : ByteArray, PH.cell u b1 (o2 + (i : Int).toNat * 1) = some (.string s3) ∧
 Q (.string s3) u))
set_option maxRecDepth 100000 in
theorem f36_vc (l : Option Addr) (l_l l_c : Nat) (i : Int) (u : PH) (Q : Value → PH → Prop) : fnVC Tryd.prog f36_h Tryd.f36 [.c (.v (.slice l l_l l_c)), .c (.v (.int .i64 i))] u Q = f36_V l l_l l_c i u Q := by kernel_rfl
theorem f36_of {l : Option Addr} {l_l l_c : Nat} {i : Int} {u : PH} {Q : Value → PH → Prop} (h : f36_V l l_l l_c i u Q) : Spec Tryd.prog 36 #[.slice l l_l l_c, .int .i64 i] u Q :=
  spec_of_vc (H := f36_h) (ps := [.c (.v (.slice l l_l l_c)), .c (.v (.int .i64 i))]) Tryd.func36 rfl (by rw [f36_vc]; exact h)
/-- cortado/event.Name -/
def f37_h : Hints := ⟨[], []⟩
set_option maxRecDepth 100000 in
def f37_V (cause : Int) (u : PH) (Q : Value → PH → Prop) : Prop :=
 (Spec Tryd.prog 61 #[.int .i64 cause] u (fun v1 u2 =>
 ∃ b3 : Bool, v1 = .bool b3 ∧
 ((!b3) = true →
 Q (.string (ByteArray.mk #[])) u2) ∧
 ((!b3) = false →
 SemSpec Tryd.prog (Instr.index 113 (.agg #[.string (ByteArray.mk #[101, 118, 105, 99, 116]), .string (ByteArray.mk #[101, 120, 112, 105, 114, 101]), .string (ByteArray.mk #[100, 101, 108]), .string (ByteArray.mk #[99, 108, 101, 97, 114]), .string (ByteArray.mk #[99, 108, 111, 115, 101]), .string (ByteArray.mk #[114, 101, 106, 101, 99, 116])]) (.int .i64 (IntKind.wrap .i64 (cause - 1)))) u2 (fun v4 u5 =>
 ∃ s6 : ByteArray, v4 = .string s6 ∧
 Q (.string s6) u5))))
set_option maxRecDepth 100000 in
theorem f37_vc (cause : Int) (u : PH) (Q : Value → PH → Prop) : fnVC Tryd.prog f37_h Tryd.f37 [.c (.v (.int .i64 cause))] u Q = f37_V cause u Q := by kernel_rfl
theorem f37_of {cause : Int} {u : PH} {Q : Value → PH → Prop} (h : f37_V cause u Q) : Spec Tryd.prog 37 #[.int .i64 cause] u Q :=
  spec_of_vc (H := f37_h) (ps := [.c (.v (.int .i64 cause))]) Tryd.func37 rfl (by rw [f37_vc]; exact h)
/-- strconv.FormatUint -/
def f38_h : Hints := ⟨[], []⟩
set_option maxRecDepth 100000 in
def f38_V (i : Int) (base : Int) (u : PH) (Q : Value → PH → Prop) : Prop :=
 (Spec Tryd.prog 62 #[.int .u64 i, .int .i64 base] u (fun v1 u2 =>
 ∃ s3 : ByteArray, v1 = .string s3 ∧
 Q (.string s3) u2))
set_option maxRecDepth 100000 in
theorem f38_vc (i : Int) (base : Int) (u : PH) (Q : Value → PH → Prop) : fnVC Tryd.prog f38_h Tryd.f38 [.c (.v (.int .u64 i)), .c (.v (.int .i64 base))] u Q = f38_V i base u Q := by kernel_rfl
theorem f38_of {i : Int} {base : Int} {u : PH} {Q : Value → PH → Prop} (h : f38_V i base u Q) : Spec Tryd.prog 38 #[.int .u64 i, .int .i64 base] u Q :=
  spec_of_vc (H := f38_h) (ps := [.c (.v (.int .u64 i)), .c (.v (.int .i64 base))]) Tryd.func38 rfl (by rw [f38_vc]; exact h)
/-- cortado/cortadoref29.Dec -/
def f39_h : Hints := ⟨[(2, ⟨[(0, .int .u64), (3, .str)], [], []⟩)], []⟩
set_option maxRecDepth 100000 in
def f39_V (n : Int) (u : PH) (Q : Value → PH → Prop) : Prop :=
 (∃ (I1 : Int → ByteArray → PH → Prop) (M2 : Int → ByteArray → PH → Nat), I1 n (ByteArray.mk #[]) u ∧
 ∀ n3 : Int, ∀ s4 : ByteArray, ∀ u5 : PH, I1 n3 s4 u5 →
 ((decide ((n3 : Int) > 9)) = true →
 (10 : Int) ≠ 0 ∧
 ∀ B6 : Nat, u5 B6 = none →
 SemSpec Tryd.prog (convert 107 9 (.slice ((some ⟨B6, 0, none⟩)) 1 1)) (PH.add u5 B6 (.cells #[.int .u8 (IntKind.wrap .u8 (IntKind.wrap .u64 (48 + ((Int.tmod n3 10)))))] 5)) (fun v7 u8 =>
 ∃ s9 : ByteArray, v7 = .string s9 ∧
 (s9.size + s4.size ≤ 9223372036854775807) ∧
 (10 : Int) ≠ 0 ∧
 I1 (IntKind.wrap .u64 (Int.tdiv n3 10)) ((s9 ++ s4)) u8 ∧ M2 (IntKind.wrap .u64 (Int.tdiv n3 10)) ((s9 ++ s4)) u8 < M2 n3 s4 u5)) ∧
 ((decide ((n3 : Int) > 9)) = false →
 ∀ B10 : Nat, u5 B10 = none →
 SemSpec Tryd.prog (convert 107 9 (.slice ((some ⟨B10, 0, none⟩)) 1 1)) (PH.add u5 B10 (.cells #[.int .u8 (IntKind.wrap .u8 (IntKind.wrap .u64 (48 + n3)))] 5)) (fun v11 u12 =>
 ∃ s13 : ByteArray, v11 = .string s13 ∧
 (s13.size + s4.size ≤ 9223372036854775807) ∧
 Q (.string ((s13 ++ s4))) u12)))
set_option maxRecDepth 100000 in
theorem f39_vc (n : Int) (u : PH) (Q : Value → PH → Prop) : fnVC Tryd.prog f39_h Tryd.f39 [.c (.v (.int .u64 n))] u Q = f39_V n u Q := by kernel_rfl
theorem f39_of {n : Int} {u : PH} {Q : Value → PH → Prop} (h : f39_V n u Q) : Spec Tryd.prog 39 #[.int .u64 n] u Q :=
  spec_of_vc (H := f39_h) (ps := [.c (.v (.int .u64 n))]) Tryd.func39 rfl (by rw [f39_vc]; exact h)
/-- cortado/cortadoref17.Bare -/
def f55_h : Hints := ⟨[], []⟩
set_option maxRecDepth 100000 in
def f55_V (op : Op) (u : PH) (Q : Value → PH → Prop) : Prop :=
 ((((op.kind : Int) == 1) = true →
 Q (.agg #[.int .i64 op.kind, .int .i64 op.key, .int .i64 0, .int .i64 0, .int .i64 0]) u) ∧
 (((op.kind : Int) == 1) = false →
 (((op.kind : Int) == 3) = true →
 Q (.agg #[.int .i64 op.kind, .int .i64 op.key, .int .i64 0, .int .i64 0, .int .i64 0]) u) ∧
 (((op.kind : Int) == 3) = false →
 (((op.kind : Int) == 2) = true →
 Q (.agg #[.int .i64 op.kind, .int .i64 op.key, .int .i64 op.val, .int .i64 op.cost, .int .i64 op.ttl]) u) ∧
 (((op.kind : Int) == 2) = false →
 (((op.kind : Int) == 4) = true →
 Q (.agg #[.int .i64 op.kind, .int .i64 0, .int .i64 0, .int .i64 0, .int .i64 0]) u) ∧
 (((op.kind : Int) == 4) = false →
 (((op.kind : Int) == 5) = true →
 Q (.agg #[.int .i64 op.kind, .int .i64 0, .int .i64 0, .int .i64 0, .int .i64 0]) u) ∧
 (((op.kind : Int) == 5) = false →
 (((op.kind : Int) == 6) = true →
 Q (.agg #[.int .i64 op.kind, .int .i64 0, .int .i64 0, .int .i64 0, .int .i64 0]) u) ∧
 (((op.kind : Int) == 6) = false →
 (((op.kind : Int) == 7) = true →
 Q (.agg #[.int .i64 7, .int .i64 0, .int .i64 0, .int .i64 op.cost, .int .i64 0]) u) ∧
 (((op.kind : Int) == 7) = false →
 Q (.agg #[.int .i64 0, .int .i64 0, .int .i64 0, .int .i64 0, .int .i64 0]) u))))))))
set_option maxRecDepth 100000 in
theorem f55_vc (op : Op) (u : PH) (Q : Value → PH → Prop) : fnVC Tryd.prog f55_h Tryd.f55 [.agg [.v (.int .i64 op.kind), .v (.int .i64 op.key), .v (.int .i64 op.val), .v (.int .i64 op.cost), .v (.int .i64 op.ttl)]] u Q = f55_V op u Q := by kernel_rfl
theorem f55_of {op : Op} {u : PH} {Q : Value → PH → Prop} (h : f55_V op u Q) : Spec Tryd.prog 55 #[.agg #[.int .i64 op.kind, .int .i64 op.key, .int .i64 op.val, .int .i64 op.cost, .int .i64 op.ttl]] u Q :=
  spec_of_vc (H := f55_h) (ps := [.agg [.v (.int .i64 op.kind), .v (.int .i64 op.key), .v (.int .i64 op.val), .v (.int .i64 op.cost), .v (.int .i64 op.ttl)]]) Tryd.func55 rfl (by rw [f55_vc]; exact h)
/-- cortado/prog.known -/
def f56_h : Hints := ⟨[], []⟩
set_option maxRecDepth 100000 in
def f56_V (kind : Int) (u : PH) (Q : Value → PH → Prop) : Prop :=
 (Q (.bool ((decide ((kind : Int) ≥ 0)) && (decide ((kind : Int) ≤ 7)))) u)
set_option maxRecDepth 100000 in
theorem f56_vc (kind : Int) (u : PH) (Q : Value → PH → Prop) : fnVC Tryd.prog f56_h Tryd.f56 [.c (.v (.int .i64 kind))] u Q = f56_V kind u Q := by kernel_rfl
theorem f56_of {kind : Int} {u : PH} {Q : Value → PH → Prop} (h : f56_V kind u Q) : Spec Tryd.prog 56 #[.int .i64 kind] u Q :=
  spec_of_vc (H := f56_h) (ps := [.c (.v (.int .i64 kind))]) Tryd.func56 rfl (by rw [f56_vc]; exact h)
/-- cortado/prog.Bare -/
def f57_h : Hints := ⟨[], []⟩
set_option maxRecDepth 100000 in
def f57_V (op : Op) (u : PH) (Q : Value → PH → Prop) : Prop :=
 (Spec Tryd.prog 56 #[.int .i64 op.kind] u (fun v1 u2 =>
 ∃ b3 : Bool, v1 = .bool b3 ∧
 ((!b3) = true →
 Q (.agg #[.int .i64 0, .int .i64 0, .int .i64 0, .int .i64 0, .int .i64 0]) u2) ∧
 ((!b3) = false →
 ∀ B4 : Nat, u2 B4 = none →
 Spec Tryd.prog 83 #[.pointer (some ⟨B4, 0, none⟩)] (PH.add u2 B4 (.cells #[.int .i64 op.kind, .int .i64 op.key, .int .i64 op.val, .int .i64 op.cost, .int .i64 op.ttl] 23)) (fun v5 u6 =>
 ∃ (v7 : Value) (h8 : notAgg v7 = true), v5 = v7 ∧
 ∀ B9 : Nat, u6 B9 = none →
 ∀ B10 : Nat, (PH.add u6 B9 (.cells #[.slice none 0 0] 48)) B10 = none →
 ∀ B11 : Nat, (PH.add (PH.add u6 B9 (.cells #[.slice none 0 0] 48)) B10 (.cells #[.int .i64 op.kind, .int .i64 0, .int .i64 0, .int .i64 0, .int .i64 0] 23)) B11 = none →
 True ∧
 ∀ (L12 : Nat) (O13 O14 O15 : Obj) (O16 : Nat → Obj), (PH.add (PH.add (PH.add u6 B9 (.cells #[.slice none 0 0] 48)) B10 (.cells #[.int .i64 op.kind, .int .i64 0, .int .i64 0, .int .i64 0, .int .i64 0] 23)) B11 (.cells #[.int .i64 0, .int .i64 0, .int .i64 0, .int .i64 0, .int .i64 0] 23)) L12 = none →
 (∀ x19 : Value, ∀ (u17 : PH) (R18 : Value → PH → Prop),
 (u17 L12 = some O13 ∧
 ∃ p20 : Option Addr, x19 = .pointer p20 ∧
 u17 L12 = some O13 ∧
 ∃ w21 : PH, Ext w21 (PH.add u17 L12 O14) ∧
 (∃ (a22 : Option Addr) (l23 c24 : Nat), PH.cell w21 B9 0 = some (.slice a22 l23 c24) ∧
 ∃ b25 o26 : Nat, (p20 : Option Addr) = some ⟨b25, o26, none⟩ ∧
 ∃ n27 : Int, PH.cell w21 b25 o26 = some (.int .i64 n27) ∧
 ∀ B28 : Nat, (PH.add u17 L12 O14) B28 = none →
 Ext w21 (PH.add (PH.add u17 L12 O14) B28 (.cells #[.int .i64 n27] 3)) ∧
 SemSpec Tryd.prog (Builtin.append_ #[48, 48] 48 #[.slice a22 l23 c24, .slice ((some ⟨B28, 0, none⟩)) 1 1]) (PH.add (PH.add u17 L12 O14) B28 (.cells #[.int .i64 n27] 3)) (fun v29 u30 =>
 ∃ (a31 : Option Addr) (l32 c33 : Nat), v29 = .slice a31 l32 c33 ∧
 Ext w21 u30 ∧
 PH.free u30 B9 0 1 ∧
 (PH.write u30 B9 0 [.slice a31 l32 c33]) L12 = some O14 ∧
 R18 (.bool true) (PH.add (PH.write u30 B9 0 [.slice a31 l32 c33]) L12 O13)))) →
 CallV Tryd.prog (.func (.yield L12) #[] #[]) [x19] u17 R18) →
 CallF Tryd.prog v7 [.func (.yield L12) #[] #[]] (PH.add (PH.add (PH.add (PH.add u6 B9 (.cells #[.slice none 0 0] 48)) B10 (.cells #[.int .i64 op.kind, .int .i64 0, .int .i64 0, .int .i64 0, .int .i64 0] 23)) B11 (.cells #[.int .i64 0, .int .i64 0, .int .i64 0, .int .i64 0, .int .i64 0] 23)) L12 O13) (fun _ u34 =>
 u34 L12 = some O13 ∧
 Spec Tryd.prog 83 #[.pointer (some ⟨B10, 0, none⟩)] (PH.del u34 L12) (fun v35 u36 =>
 ∃ (v37 : Value) (h38 : notAgg v37 = true), v35 = v37 ∧
 True ∧
 ∀ (L39 : Nat) (O40 O41 O42 : Obj) (O43 : Nat → Obj), u36 L39 = none →
 (∀ x46 : Value, ∀ (u44 : PH) (R45 : Value → PH → Prop),
 (u44 L39 = some O40 ∧
 ∃ p47 : Option Addr, x46 = .pointer p47 ∧
 u44 L39 = some O40 ∧
 ∃ w48 : PH, Ext w48 (PH.add u44 L39 O41) ∧
 (∃ (a49 : Option Addr) (l50 c51 : Nat), PH.cell w48 B9 0 = some (.slice a49 l50 c51) ∧
 ∃ b52 o53 : Nat, (a49 : Option Addr) = some ⟨b52, o53, none⟩ ∧ ((0 : Int) ≤ 0 ∧ (0 : Int) < ((l50 : Nat) : Int)) ∧
 ∃ n54 : Int, PH.cell w48 b52 (o53 + (0 : Int).toNat * 1) = some (.int .i64 n54) ∧
 ∃ (a55 : Option Addr) (l56 c57 : Nat), PH.cell w48 B9 0 = some (.slice a55 l56 c57) ∧
 ((0 : Int) ≤ 1 ∧ (1 : Int) ≤ ((l56 : Nat) : Int) ∧ ((l56 : Nat) : Int) ≤ ((c57 : Nat) : Int)) ∧
 ∃ b58 o59 : Nat, (p47 : Option Addr) = some ⟨b58, o59, none⟩ ∧
 PH.free (PH.add u44 L39 O41) b58 o59 1 ∧
 Ext w48 (PH.write (PH.add u44 L39 O41) b58 o59 [.int .i64 n54]) ∧
 PH.free (PH.write (PH.add u44 L39 O41) b58 o59 [.int .i64 n54]) B9 0 1 ∧
 (PH.write (PH.write (PH.add u44 L39 O41) b58 o59 [.int .i64 n54]) B9 0 [.slice ((subA a55 (1 : Int).toNat c57 1)) (((((l56 : Nat) : Int) : Int).toNat - (1 : Int).toNat)) ((c57 - (1 : Int).toNat))]) L39 = some O41 ∧
 R45 (.bool true) (PH.add (PH.write (PH.write (PH.add u44 L39 O41) b58 o59 [.int .i64 n54]) B9 0 [.slice ((subA a55 (1 : Int).toNat c57 1)) (((((l56 : Nat) : Int) : Int).toNat - (1 : Int).toNat)) ((c57 - (1 : Int).toNat))]) L39 O40))) →
 CallV Tryd.prog (.func (.yield L39) #[] #[]) [x46] u44 R45) →
 CallF Tryd.prog v37 [.func (.yield L39) #[] #[]] (PH.add u36 L39 O40) (fun _ u60 =>
 u60 L39 = some O40 ∧
 ∃ n61 : Int, ∃ n62 : Int, ∃ n63 : Int, ∃ n64 : Int, ∃ n65 : Int, PH.cells (PH.del u60 L39) B10 0 [.int .i64 n61, .int .i64 n62, .int .i64 n63, .int .i64 n64, .int .i64 n65] ∧
 PH.free (PH.del u60 L39) B11 0 5 ∧
 ∃ n66 : Int, ∃ n67 : Int, ∃ n68 : Int, ∃ n69 : Int, ∃ n70 : Int, PH.cells (PH.write (PH.del u60 L39) B11 0 [.int .i64 n61, .int .i64 n62, .int .i64 n63, .int .i64 n64, .int .i64 n65]) B11 0 [.int .i64 n66, .int .i64 n67, .int .i64 n68, .int .i64 n69, .int .i64 n70] ∧
 Q (.agg #[.int .i64 n66, .int .i64 n67, .int .i64 n68, .int .i64 n69, .int .i64 n70]) (PH.write (PH.del u60 L39) B11 0 [.int .i64 n61, .int .i64 n62, .int .i64 n63, .int .i64 n64, .int .i64 n65]))))))))
set_option maxRecDepth 100000 in
theorem f57_vc (op : Op) (u : PH) (Q : Value → PH → Prop) : fnVC Tryd.prog f57_h Tryd.f57 [.agg [.v (.int .i64 op.kind), .v (.int .i64 op.key), .v (.int .i64 op.val), .v (.int .i64 op.cost), .v (.int .i64 op.ttl)]] u Q = f57_V op u Q := by kernel_rfl
theorem f57_of {op : Op} {u : PH} {Q : Value → PH → Prop} (h : f57_V op u Q) : Spec Tryd.prog 57 #[.agg #[.int .i64 op.kind, .int .i64 op.key, .int .i64 op.val, .int .i64 op.cost, .int .i64 op.ttl]] u Q :=
  spec_of_vc (H := f57_h) (ps := [.agg [.v (.int .i64 op.kind), .v (.int .i64 op.key), .v (.int .i64 op.val), .v (.int .i64 op.cost), .v (.int .i64 op.ttl)]]) Tryd.func57 rfl (by rw [f57_vc]; exact h)
/-- cortado/event.Known -/
def f61_h : Hints := ⟨[], []⟩
set_option maxRecDepth 100000 in
def f61_V (cause : Int) (u : PH) (Q : Value → PH → Prop) : Prop :=
 (Q (.bool ((decide ((cause : Int) ≥ 1)) && (decide ((cause : Int) ≤ 6)))) u)
set_option maxRecDepth 100000 in
theorem f61_vc (cause : Int) (u : PH) (Q : Value → PH → Prop) : fnVC Tryd.prog f61_h Tryd.f61 [.c (.v (.int .i64 cause))] u Q = f61_V cause u Q := by kernel_rfl
theorem f61_of {cause : Int} {u : PH} {Q : Value → PH → Prop} (h : f61_V cause u Q) : Spec Tryd.prog 61 #[.int .i64 cause] u Q :=
  spec_of_vc (H := f61_h) (ps := [.c (.v (.int .i64 cause))]) Tryd.func61 rfl (by rw [f61_vc]; exact h)
/-- internal/strconv.FormatUint -/
def f62_h : Hints := ⟨[], []⟩
set_option maxRecDepth 100000 in
def f62_V (i : Int) (base : Int) (u : PH) (Q : Value → PH → Prop) : Prop :=
 ((((base : Int) == 10) = true →
 ((decide ((i : Int) < 100)) = true →
 Spec Tryd.prog 86 #[.int .i64 (IntKind.wrap .i64 i)] u (fun v1 u2 =>
 ∃ s3 : ByteArray, v1 = .string s3 ∧
 Q (.string s3) u2)) ∧
 ((decide ((i : Int) < 100)) = false →
 Spec Tryd.prog 87 #[.int .u64 i] u (fun v4 u5 =>
 ∃ n6 : Int, v4 = .int .i64 n6 ∧
 ∀ B7 : Nat, u5 B7 = none →
 SemSpec Tryd.prog (Instr.sliceAt 131 (.pointer (some ⟨B7, 0, none⟩)) none (some (.int .i64 n6)) none) (PH.add u5 B7 (.cells #[.int .u8 0, .int .u8 0, .int .u8 0, .int .u8 0, .int .u8 0, .int .u8 0, .int .u8 0, .int .u8 0, .int .u8 0, .int .u8 0, .int .u8 0, .int .u8 0, .int .u8 0, .int .u8 0, .int .u8 0, .int .u8 0, .int .u8 0, .int .u8 0, .int .u8 0, .int .u8 0, .int .u8 0, .int .u8 0, .int .u8 0, .int .u8 0] 131)) (fun v8 u9 =>
 ∃ (a10 : Option Addr) (l11 c12 : Nat), v8 = .slice a10 l11 c12 ∧
 Spec Tryd.prog 88 #[.slice a10 l11 c12, .int .u64 i] u9 (fun v13 u14 =>
 v13 = .tuple #[] ∧
 SemSpec Tryd.prog (Instr.sliceAt 131 (.pointer (some ⟨B7, 0, none⟩)) none (some (.int .i64 n6)) none) u14 (fun v15 u16 =>
 ∃ (a17 : Option Addr) (l18 c19 : Nat), v15 = .slice a17 l18 c19 ∧
 SemSpec Tryd.prog (convert 107 9 (.slice a17 l18 c19)) u16 (fun v20 u21 =>
 ∃ s22 : ByteArray, v20 = .string s22 ∧
 Q (.string s22) u21))))))) ∧
 (((base : Int) == 10) = false →
 Spec Tryd.prog 89 #[.slice none 0 0, .int .u64 i, .int .i64 base, .bool false, .bool false] u (fun v23 u24 =>
 ∃ (a25 : Option Addr) (l26 c27 : Nat), ∃ s28 : ByteArray, v23 = .tuple #[.slice a25 l26 c27, .string s28] ∧
 Q (.string s28) u24)))
set_option maxRecDepth 100000 in
theorem f62_vc (i : Int) (base : Int) (u : PH) (Q : Value → PH → Prop) : fnVC Tryd.prog f62_h Tryd.f62 [.c (.v (.int .u64 i)), .c (.v (.int .i64 base))] u Q = f62_V i base u Q := by kernel_rfl
theorem f62_of {i : Int} {base : Int} {u : PH} {Q : Value → PH → Prop} (h : f62_V i base u Q) : Spec Tryd.prog 62 #[.int .u64 i, .int .i64 base] u Q :=
  spec_of_vc (H := f62_h) (ps := [.c (.v (.int .u64 i)), .c (.v (.int .i64 base))]) Tryd.func62 rfl (by rw [f62_vc]; exact h)
/-- cortado/prog.own -/
def f83_h : Hints := ⟨[], []⟩
set_option maxRecDepth 100000 in
def f83_V (op : Option Addr) (u : PH) (Q : Value → PH → Prop) : Prop :=
 (∀ B1 : Nat, u B1 = none →
 Q (.func (.func 105) #[] #[.pointer (some ⟨B1, 0, none⟩)]) (PH.add u B1 (.cells #[.pointer op] 67)))
set_option maxRecDepth 100000 in
theorem f83_vc (op : Option Addr) (u : PH) (Q : Value → PH → Prop) : fnVC Tryd.prog f83_h Tryd.f83 [.c (.v (.pointer op))] u Q = f83_V op u Q := by kernel_rfl
theorem f83_of {op : Option Addr} {u : PH} {Q : Value → PH → Prop} (h : f83_V op u Q) : Spec Tryd.prog 83 #[.pointer op] u Q :=
  spec_of_vc (H := f83_h) (ps := [.c (.v (.pointer op))]) Tryd.func83 rfl (by rw [f83_vc]; exact h)
/-- cortado/prog.own$1 -/
def f105_h : Hints := ⟨[(10, ⟨[(40, .int .i64)], [], []⟩)], []⟩
set_option maxRecDepth 100000 in
def f105_V (yield : Value) (hyield : notAgg yield = true) (B0 : Nat) (u : PH) (Q : Value → PH → Prop) : Prop :=
 (∃ p1 : Option Addr, PH.cell u B0 0 = some (.pointer p1) ∧
 ∃ b2 o3 : Nat, (p1 : Option Addr) = some ⟨b2, o3, none⟩ ∧
 ∃ n4 : Int, PH.cell u b2 (o3 + 0) = some (.int .i64 n4) ∧
 (((n4 : Int) == 1) = true →
 ∃ p5 : Option Addr, PH.cell u B0 0 = some (.pointer p5) ∧
 ∃ b6 o7 : Nat, (p5 : Option Addr) = some ⟨b6, o7, none⟩ ∧
 ∀ B8 : Nat, u B8 = none →
 ∃ (I9 : Int → PH → Prop) (M10 : Int → PH → Nat), I9 0 (PH.add u B8 (.cells #[.pointer (some ⟨b6, o7 + 1, none⟩)] 68)) ∧
 ∀ n11 : Int, ∀ u12 : PH, I9 n11 u12 →
 ((decide ((n11 : Int) < 1)) = true →
 ∃ b13 o14 : Nat, ((some ⟨B8, 0, none⟩) : Option Addr) = some ⟨b13, o14, none⟩ ∧ ((0 : Int) ≤ n11 ∧ (n11 : Int) < ((1 : Nat) : Int)) ∧
 ∃ p15 : Option Addr, PH.cell u12 b13 (o14 + (n11 : Int).toNat * 1) = some (.pointer p15) ∧
 CallV Tryd.prog yield [.pointer p15] u12 (fun v16 u17 =>
 ∃ b18 : Bool, v16 = .bool b18 ∧
 ((!b18) = true →
 Q (.tuple #[]) u17) ∧
 ((!b18) = false →
 I9 (IntKind.wrap .i64 (n11 + 1)) u17 ∧ M10 (IntKind.wrap .i64 (n11 + 1)) u17 < M10 n11 u12))) ∧
 ((decide ((n11 : Int) < 1)) = false →
 Q (.tuple #[]) u12)) ∧
 (((n4 : Int) == 1) = false →
 (((n4 : Int) == 3) = true →
 ∃ p19 : Option Addr, PH.cell u B0 0 = some (.pointer p19) ∧
 ∃ b20 o21 : Nat, (p19 : Option Addr) = some ⟨b20, o21, none⟩ ∧
 ∀ B22 : Nat, u B22 = none →
 ∃ (I23 : Int → PH → Prop) (M24 : Int → PH → Nat), I23 0 (PH.add u B22 (.cells #[.pointer (some ⟨b20, o21 + 1, none⟩)] 68)) ∧
 ∀ n25 : Int, ∀ u26 : PH, I23 n25 u26 →
 ((decide ((n25 : Int) < 1)) = true →
 ∃ b27 o28 : Nat, ((some ⟨B22, 0, none⟩) : Option Addr) = some ⟨b27, o28, none⟩ ∧ ((0 : Int) ≤ n25 ∧ (n25 : Int) < ((1 : Nat) : Int)) ∧
 ∃ p29 : Option Addr, PH.cell u26 b27 (o28 + (n25 : Int).toNat * 1) = some (.pointer p29) ∧
 CallV Tryd.prog yield [.pointer p29] u26 (fun v30 u31 =>
 ∃ b32 : Bool, v30 = .bool b32 ∧
 ((!b32) = true →
 Q (.tuple #[]) u31) ∧
 ((!b32) = false →
 I23 (IntKind.wrap .i64 (n25 + 1)) u31 ∧ M24 (IntKind.wrap .i64 (n25 + 1)) u31 < M24 n25 u26))) ∧
 ((decide ((n25 : Int) < 1)) = false →
 Q (.tuple #[]) u26)) ∧
 (((n4 : Int) == 3) = false →
 (((n4 : Int) == 2) = true →
 ∃ w33 : PH, Ext w33 u ∧
 (∃ p34 : Option Addr, PH.cell w33 B0 0 = some (.pointer p34) ∧
 ∃ b35 o36 : Nat, (p34 : Option Addr) = some ⟨b35, o36, none⟩ ∧
 ∃ p37 : Option Addr, PH.cell w33 B0 0 = some (.pointer p37) ∧
 ∃ b38 o39 : Nat, (p37 : Option Addr) = some ⟨b38, o39, none⟩ ∧
 ∃ p40 : Option Addr, PH.cell w33 B0 0 = some (.pointer p40) ∧
 ∃ b41 o42 : Nat, (p40 : Option Addr) = some ⟨b41, o42, none⟩ ∧
 ∃ p43 : Option Addr, PH.cell w33 B0 0 = some (.pointer p43) ∧
 ∃ b44 o45 : Nat, (p43 : Option Addr) = some ⟨b44, o45, none⟩ ∧
 ∀ B46 : Nat, u B46 = none →
 Ext w33 (PH.add u B46 (.cells #[.pointer (some ⟨b35, o36 + 1, none⟩), .pointer (some ⟨b38, o39 + 2, none⟩), .pointer (some ⟨b41, o42 + 3, none⟩), .pointer (some ⟨b44, o45 + 4, none⟩)] 68)) ∧
 ∃ (I47 : Int → PH → Prop) (M48 : Int → PH → Nat), I47 0 (PH.add u B46 (.cells #[.pointer (some ⟨b35, o36 + 1, none⟩), .pointer (some ⟨b38, o39 + 2, none⟩), .pointer (some ⟨b41, o42 + 3, none⟩), .pointer (some ⟨b44, o45 + 4, none⟩)] 68)) ∧
 ∀ n49 : Int, ∀ u50 : PH, I47 n49 u50 →
 ((decide ((n49 : Int) < 4)) = true →
 ∃ b51 o52 : Nat, ((some ⟨B46, 0, none⟩) : Option Addr) = some ⟨b51, o52, none⟩ ∧ ((0 : Int) ≤ n49 ∧ (n49 : Int) < ((4 : Nat) : Int)) ∧
 ∃ p53 : Option Addr, PH.cell u50 b51 (o52 + (n49 : Int).toNat * 1) = some (.pointer p53) ∧
 CallV Tryd.prog yield [.pointer p53] u50 (fun v54 u55 =>
 ∃ b56 : Bool, v54 = .bool b56 ∧
 ((!b56) = true →
 Q (.tuple #[]) u55) ∧
 ((!b56) = false →
 I47 (IntKind.wrap .i64 (n49 + 1)) u55 ∧ M48 (IntKind.wrap .i64 (n49 + 1)) u55 < M48 n49 u50))) ∧
 ((decide ((n49 : Int) < 4)) = false →
 Q (.tuple #[]) u50))) ∧
 (((n4 : Int) == 2) = false →
 (((n4 : Int) == 7) = true →
 ∃ p57 : Option Addr, PH.cell u B0 0 = some (.pointer p57) ∧
 ∃ b58 o59 : Nat, (p57 : Option Addr) = some ⟨b58, o59, none⟩ ∧
 ∀ B60 : Nat, u B60 = none →
 ∃ (I61 : Int → PH → Prop) (M62 : Int → PH → Nat), I61 0 (PH.add u B60 (.cells #[.pointer (some ⟨b58, o59 + 3, none⟩)] 68)) ∧
 ∀ n63 : Int, ∀ u64 : PH, I61 n63 u64 →
 ((decide ((n63 : Int) < 1)) = true →
 ∃ b65 o66 : Nat, ((some ⟨B60, 0, none⟩) : Option Addr) = some ⟨b65, o66, none⟩ ∧ ((0 : Int) ≤ n63 ∧ (n63 : Int) < ((1 : Nat) : Int)) ∧
 ∃ p67 : Option Addr, PH.cell u64 b65 (o66 + (n63 : Int).toNat * 1) = some (.pointer p67) ∧
 CallV Tryd.prog yield [.pointer p67] u64 (fun v68 u69 =>
 ∃ b70 : Bool, v68 = .bool b70 ∧
 ((!b70) = true →
 Q (.tuple #[]) u69) ∧
 ((!b70) = false →
 I61 (IntKind.wrap .i64 (n63 + 1)) u69 ∧ M62 (IntKind.wrap .i64 (n63 + 1)) u69 < M62 n63 u64))) ∧
 ((decide ((n63 : Int) < 1)) = false →
 Q (.tuple #[]) u64)) ∧
 (((n4 : Int) == 7) = false →
 ∃ (I71 : Int → PH → Prop) (M72 : Int → PH → Nat), I71 0 u ∧
 ∀ n73 : Int, ∀ u74 : PH, I71 n73 u74 →
 ((decide ((n73 : Int) < 0)) = true →
 ∃ b75 o76 : Nat, (none : Option Addr) = some ⟨b75, o76, none⟩ ∧ ((0 : Int) ≤ n73 ∧ (n73 : Int) < ((0 : Nat) : Int)) ∧
 ∃ p77 : Option Addr, PH.cell u74 b75 (o76 + (n73 : Int).toNat * 1) = some (.pointer p77) ∧
 CallV Tryd.prog yield [.pointer p77] u74 (fun v78 u79 =>
 ∃ b80 : Bool, v78 = .bool b80 ∧
 ((!b80) = true →
 Q (.tuple #[]) u79) ∧
 ((!b80) = false →
 I71 (IntKind.wrap .i64 (n73 + 1)) u79 ∧ M72 (IntKind.wrap .i64 (n73 + 1)) u79 < M72 n73 u74))) ∧
 ((decide ((n73 : Int) < 0)) = false →
 Q (.tuple #[]) u74))))))
set_option maxRecDepth 100000 in
theorem f105_vc (yield : Value) (hyield : notAgg yield = true) (B0 : Nat) (u : PH) (Q : Value → PH → Prop) : fnVC Tryd.prog f105_h Tryd.f105 [.c (.vv ⟨yield, hyield⟩), .c (.ptr B0 0)] u Q = f105_V yield hyield B0 u Q := by kernel_rfl
theorem f105_of {yield : Value} {hyield : notAgg yield = true} {B0 : Nat} {u : PH} {Q : Value → PH → Prop} (h : f105_V yield hyield B0 u Q) : Spec Tryd.prog 105 #[yield, .pointer (some ⟨B0, 0, none⟩)] u Q :=
  spec_of_vc (H := f105_h) (ps := [.c (.vv ⟨yield, hyield⟩), .c (.ptr B0 0)]) Tryd.func105 rfl (by rw [f105_vc]; exact h)
end Go.Proofs.YtlmnfhhmgfnbpaaDoor.E
