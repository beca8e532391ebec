import Derived.Test.YtlmnfhhmgfnbpaaDoorE13
import Derived.Test.YtlmnfhhmgfnbpaaDoorB0
namespace Go.Proofs.YtlmnfhhmgfnbpaaDoor.E
open Go
/-- cortado/cortadolaw45.TraceTells -/
def f3_h : Hints := ⟨[], []⟩
set_option maxRecDepth 100000 in
def f3_V (c : Call) (t_0 : Int) (t_1 : Int) (t_2 : Int) (t_3 : Option Addr) (t_3_l t_3_c : Nat) (e_0 : Int) (e_1 : Int) (e_2 : Int) (e_3 : Int) (e_4 : Int) (u : PH) (Q : Value → PH → Prop) : Prop :=
 (∃ w1 : PH, Ext w1 u ∧
 (Spec Tryd.prog 8 #[.agg #[.int .i64 c.client, .int .i64 c.id, .int .i64 c.op.kind, .int .i64 c.op.key, .int .i64 c.op.val, .int .i64 c.op.cost, .int .i64 c.op.ttl, .int .i64 c.beg, .int .i64 c.at_, .int .i64 c.end_, .int .i64 c.tick, .bool c.ok, .int .i64 c.got]] u (fun v2 u3 =>
 ∃ s4 : ByteArray, v2 = .string s4 ∧
 Ext w1 u3 ∧
 Spec Tryd.prog 9 #[.agg #[.int .i64 c.client, .int .i64 c.id, .int .i64 c.op.kind, .int .i64 c.op.key, .int .i64 c.op.val, .int .i64 c.op.cost, .int .i64 c.op.ttl, .int .i64 c.beg, .int .i64 c.at_, .int .i64 c.end_, .int .i64 c.tick, .bool c.ok, .int .i64 c.got]] u3 (fun v5 u6 =>
 ∃ s7 : ByteArray, v5 = .string s7 ∧
 Ext w1 u6 ∧
 (Ext w1 u6 ∧
 (Ext w1 u6 ∧
 (((ByteArray.toList s4 == ByteArray.toList s7) = true →
 Spec Tryd.prog 10 #[.int .i64 c.at_, .agg #[.int .i64 t_0, .int .i64 t_1, .int .i64 t_2, .slice t_3 t_3_l t_3_c]] u6 (fun v8 u9 =>
 ∃ s10 : ByteArray, v8 = .string s10 ∧
 Ext w1 u9 ∧
 (Ext w1 u9 ∧
 Ext w1 u9 ∧
 Spec Tryd.prog 11 #[.int .i64 c.at_, .agg #[.int .i64 t_0, .int .i64 t_1, .int .i64 t_2, .slice t_3 t_3_l t_3_c]] u9 (fun v11 u12 =>
 ∃ s13 : ByteArray, v11 = .string s13 ∧
 Ext w1 u12 ∧
 (Ext w1 u12 ∧
 (((ByteArray.toList s10 == ByteArray.toList s13) = true →
 Spec Tryd.prog 12 #[.agg #[.int .i64 e_0, .int .u64 e_1, .int .u64 e_2, .int .i64 e_3, .int .i64 e_4]] u12 (fun v14 u15 =>
 ∃ s16 : ByteArray, v14 = .string s16 ∧
 Ext w1 u15 ∧
 Ext w1 u15 ∧
 Spec Tryd.prog 13 #[.agg #[.int .i64 e_0, .int .u64 e_1, .int .u64 e_2, .int .i64 e_3, .int .i64 e_4]] u15 (fun v17 u18 =>
 ∃ s19 : ByteArray, v17 = .string s19 ∧
 Ext w1 u18 ∧
 ((ByteArray.toList s16 == ByteArray.toList s19) = true →
 Spec Tryd.prog 14 #[] u18 (fun v20 u21 =>
 ∃ b22 : Bool, v20 = .bool b22 ∧
 Ext w1 u21 ∧
 Q (.bool b22) u21)) ∧
 ((ByteArray.toList s16 == ByteArray.toList s19) = false →
 Ext w1 u18 ∧
 Q (.bool false) u18)))) ∧
 ((ByteArray.toList s10 == ByteArray.toList s13) = false →
 Ext w1 u12 ∧
 Ext w1 u12 ∧
 Ext w1 u12 ∧
 Ext w1 u12 ∧
 Q (.bool false) u12))
 ∧ (Ext w1 u12 ∧
 ((ByteArray.toList s10 == ByteArray.toList s13) = true →
 Spec Tryd.prog 12 #[.agg #[.int .i64 e_0, .int .u64 e_1, .int .u64 e_2, .int .i64 e_3, .int .i64 e_4]] u12 (fun v23 u24 =>
 ∃ s25 : ByteArray, v23 = .string s25 ∧
 Ext w1 u24 ∧
 Spec Tryd.prog 13 #[.agg #[.int .i64 e_0, .int .u64 e_1, .int .u64 e_2, .int .i64 e_3, .int .i64 e_4]] u24 (fun v26 u27 =>
 ∃ s28 : ByteArray, v26 = .string s28 ∧
 Ext w1 u27 ∧
 ((ByteArray.toList s25 == ByteArray.toList s28) = true →
 Spec Tryd.prog 14 #[] u27 (fun v29 u30 =>
 ∃ b31 : Bool, v29 = .bool b31 ∧
 Ext w1 u30 ∧
 Q (.bool b31) u30)) ∧
 ((ByteArray.toList s25 == ByteArray.toList s28) = false →
 Ext w1 u27 ∧
 Q (.bool false) u27)))) ∧
 ((ByteArray.toList s10 == ByteArray.toList s13) = false →
 Ext w1 u12 ∧
 Ext w1 u12 ∧
 Ext w1 u12 ∧
 Q (.bool false) u12)))
 ∧ (Ext w1 u12 ∧
 Ext w1 u12 ∧
 ((ByteArray.toList s10 == ByteArray.toList s13) = true →
 Spec Tryd.prog 12 #[.agg #[.int .i64 e_0, .int .u64 e_1, .int .u64 e_2, .int .i64 e_3, .int .i64 e_4]] u12 (fun v32 u33 =>
 ∃ s34 : ByteArray, v32 = .string s34 ∧
 Ext w1 u33 ∧
 Spec Tryd.prog 13 #[.agg #[.int .i64 e_0, .int .u64 e_1, .int .u64 e_2, .int .i64 e_3, .int .i64 e_4]] u33 (fun v35 u36 =>
 ∃ s37 : ByteArray, v35 = .string s37 ∧
 Ext w1 u36 ∧
 ((ByteArray.toList s34 == ByteArray.toList s37) = true →
 Spec Tryd.prog 14 #[] u36 (fun v38 u39 =>
 ∃ b40 : Bool, v38 = .bool b40 ∧
 Ext w1 u39 ∧
 Q (.bool b40) u39)) ∧
 ((ByteArray.toList s34 == ByteArray.toList s37) = false →
 Ext w1 u36 ∧
 Q (.bool false) u36)))) ∧
 ((ByteArray.toList s10 == ByteArray.toList s13) = false →
 Ext w1 u12 ∧
 Ext w1 u12 ∧
 Ext w1 u12 ∧
 Q (.bool false) u12))))
 ∧ (Ext w1 u9 ∧
 Ext w1 u9 ∧
 Spec Tryd.prog 11 #[.int .i64 c.at_, .agg #[.int .i64 t_0, .int .i64 t_1, .int .i64 t_2, .slice t_3 t_3_l t_3_c]] u9 (fun v41 u42 =>
 ∃ s43 : ByteArray, v41 = .string s43 ∧
 Ext w1 u42 ∧
 (Ext w1 u42 ∧
 (((ByteArray.toList s10 == ByteArray.toList s43) = true →
 Spec Tryd.prog 12 #[.agg #[.int .i64 e_0, .int .u64 e_1, .int .u64 e_2, .int .i64 e_3, .int .i64 e_4]] u42 (fun v44 u45 =>
 ∃ s46 : ByteArray, v44 = .string s46 ∧
 Ext w1 u45 ∧
 Ext w1 u45 ∧
 Spec Tryd.prog 13 #[.agg #[.int .i64 e_0, .int .u64 e_1, .int .u64 e_2, .int .i64 e_3, .int .i64 e_4]] u45 (fun v47 u48 =>
 ∃ s49 : ByteArray, v47 = .string s49 ∧
 Ext w1 u48 ∧
 ((ByteArray.toList s46 == ByteArray.toList s49) = true →
 Spec Tryd.prog 14 #[] u48 (fun v50 u51 =>
 ∃ b52 : Bool, v50 = .bool b52 ∧
 Ext w1 u51 ∧
 Q (.bool b52) u51)) ∧
 ((ByteArray.toList s46 == ByteArray.toList s49) = false →
 Ext w1 u48 ∧
 Q (.bool false) u48)))) ∧
 ((ByteArray.toList s10 == ByteArray.toList s43) = false →
 Ext w1 u42 ∧
 Ext w1 u42 ∧
 Ext w1 u42 ∧
 Ext w1 u42 ∧
 Q (.bool false) u42))
 ∧ (Ext w1 u42 ∧
 ((ByteArray.toList s10 == ByteArray.toList s43) = true →
 Spec Tryd.prog 12 #[.agg #[.int .i64 e_0, .int .u64 e_1, .int .u64 e_2, .int .i64 e_3, .int .i64 e_4]] u42 (fun v53 u54 =>
 ∃ s55 : ByteArray, v53 = .string s55 ∧
 Ext w1 u54 ∧
 Spec Tryd.prog 13 #[.agg #[.int .i64 e_0, .int .u64 e_1, .int .u64 e_2, .int .i64 e_3, .int .i64 e_4]] u54 (fun v56 u57 =>
 ∃ s58 : ByteArray, v56 = .string s58 ∧
 Ext w1 u57 ∧
 ((ByteArray.toList s55 == ByteArray.toList s58) = true →
 Spec Tryd.prog 14 #[] u57 (fun v59 u60 =>
 ∃ b61 : Bool, v59 = .bool b61 ∧
 Ext w1 u60 ∧
 Q (.bool b61) u60)) ∧
 ((ByteArray.toList s55 == ByteArray.toList s58) = false →
 Ext w1 u57 ∧
 Q (.bool false) u57)))) ∧
 ((ByteArray.toList s10 == ByteArray.toList s43) = false →
 Ext w1 u42 ∧
 Ext w1 u42 ∧
 Ext w1 u42 ∧
 Q (.bool false) u42)))
 ∧ (Ext w1 u42 ∧
 Ext w1 u42 ∧
 ((ByteArray.toList s10 == ByteArray.toList s43) = true →
 Spec Tryd.prog 12 #[.agg #[.int .i64 e_0, .int .u64 e_1, .int .u64 e_2, .int .i64 e_3, .int .i64 e_4]] u42 (fun v62 u63 =>
 ∃ s64 : ByteArray, v62 = .string s64 ∧
 Ext w1 u63 ∧
 Spec Tryd.prog 13 #[.agg #[.int .i64 e_0, .int .u64 e_1, .int .u64 e_2, .int .i64 e_3, .int .i64 e_4]] u63 (fun v65 u66 =>
 ∃ s67 : ByteArray, v65 = .string s67 ∧
 Ext w1 u66 ∧
 ((ByteArray.toList s64 == ByteArray.toList s67) = true →
 Spec Tryd.prog 14 #[] u66 (fun v68 u69 =>
 ∃ b70 : Bool, v68 = .bool b70 ∧
 Ext w1 u69 ∧
 Q (.bool b70) u69)) ∧
 ((ByteArray.toList s64 == ByteArray.toList s67) = false →
 Ext w1 u66 ∧
 Q (.bool false) u66)))) ∧
 ((ByteArray.toList s10 == ByteArray.toList s43) = false →
 Ext w1 u42 ∧
 Ext w1 u42 ∧
 Ext w1 u42 ∧
 Q (.bool false) u42)))))) ∧
 ((ByteArray.toList s4 == ByteArray.toList s7) = false →
 Ext w1 u6 ∧
 (Ext w1 u6 ∧
 Ext w1 u6 ∧
 Ext w1 u6 ∧
 (Ext w1 u6 ∧
 (Ext w1 u6 ∧
 Ext w1 u6 ∧
 Ext w1 u6 ∧
 Ext w1 u6 ∧
 Q (.bool false) u6)
 ∧ (Ext w1 u6 ∧
 Ext w1 u6 ∧
 Ext w1 u6 ∧
 Ext w1 u6 ∧
 Q (.bool false) u6))
 ∧ (Ext w1 u6 ∧
 Ext w1 u6 ∧
 Ext w1 u6 ∧
 Ext w1 u6 ∧
 Ext w1 u6 ∧
 Q (.bool false) u6))
 ∧ (Ext w1 u6 ∧
 Ext w1 u6 ∧
 Ext w1 u6 ∧
 (Ext w1 u6 ∧
 (Ext w1 u6 ∧
 Ext w1 u6 ∧
 Ext w1 u6 ∧
 Ext w1 u6 ∧
 Q (.bool false) u6)
 ∧ (Ext w1 u6 ∧
 Ext w1 u6 ∧
 Ext w1 u6 ∧
 Ext w1 u6 ∧
 Q (.bool false) u6))
 ∧ (Ext w1 u6 ∧
 Ext w1 u6 ∧
 Ext w1 u6 ∧
 Ext w1 u6 ∧
 Ext w1 u6 ∧
 Q (.bool false) u6))))
 ∧ (Ext w1 u6 ∧
 (((ByteArray.toList s4 == ByteArray.toList s7) = true →
 Spec Tryd.prog 10 #[.int .i64 c.at_, .agg #[.int .i64 t_0, .int .i64 t_1, .int .i64 t_2, .slice t_3 t_3_l t_3_c]] u6 (fun v71 u72 =>
 ∃ s73 : ByteArray, v71 = .string s73 ∧
 Ext w1 u72 ∧
 Ext w1 u72 ∧
 Spec Tryd.prog 11 #[.int .i64 c.at_, .agg #[.int .i64 t_0, .int .i64 t_1, .int .i64 t_2, .slice t_3 t_3_l t_3_c]] u72 (fun v74 u75 =>
 ∃ s76 : ByteArray, v74 = .string s76 ∧
 Ext w1 u75 ∧
 (Ext w1 u75 ∧
 (((ByteArray.toList s73 == ByteArray.toList s76) = true →
 Spec Tryd.prog 12 #[.agg #[.int .i64 e_0, .int .u64 e_1, .int .u64 e_2, .int .i64 e_3, .int .i64 e_4]] u75 (fun v77 u78 =>
 ∃ s79 : ByteArray, v77 = .string s79 ∧
 Ext w1 u78 ∧
 Ext w1 u78 ∧
 Spec Tryd.prog 13 #[.agg #[.int .i64 e_0, .int .u64 e_1, .int .u64 e_2, .int .i64 e_3, .int .i64 e_4]] u78 (fun v80 u81 =>
 ∃ s82 : ByteArray, v80 = .string s82 ∧
 Ext w1 u81 ∧
 ((ByteArray.toList s79 == ByteArray.toList s82) = true →
 Spec Tryd.prog 14 #[] u81 (fun v83 u84 =>
 ∃ b85 : Bool, v83 = .bool b85 ∧
 Ext w1 u84 ∧
 Q (.bool b85) u84)) ∧
 ((ByteArray.toList s79 == ByteArray.toList s82) = false →
 Ext w1 u81 ∧
 Q (.bool false) u81)))) ∧
 ((ByteArray.toList s73 == ByteArray.toList s76) = false →
 Ext w1 u75 ∧
 Ext w1 u75 ∧
 Ext w1 u75 ∧
 Ext w1 u75 ∧
 Q (.bool false) u75))
 ∧ (Ext w1 u75 ∧
 ((ByteArray.toList s73 == ByteArray.toList s76) = true →
 Spec Tryd.prog 12 #[.agg #[.int .i64 e_0, .int .u64 e_1, .int .u64 e_2, .int .i64 e_3, .int .i64 e_4]] u75 (fun v86 u87 =>
 ∃ s88 : ByteArray, v86 = .string s88 ∧
 Ext w1 u87 ∧
 Spec Tryd.prog 13 #[.agg #[.int .i64 e_0, .int .u64 e_1, .int .u64 e_2, .int .i64 e_3, .int .i64 e_4]] u87 (fun v89 u90 =>
 ∃ s91 : ByteArray, v89 = .string s91 ∧
 Ext w1 u90 ∧
 ((ByteArray.toList s88 == ByteArray.toList s91) = true →
 Spec Tryd.prog 14 #[] u90 (fun v92 u93 =>
 ∃ b94 : Bool, v92 = .bool b94 ∧
 Ext w1 u93 ∧
 Q (.bool b94) u93)) ∧
 ((ByteArray.toList s88 == ByteArray.toList s91) = false →
 Ext w1 u90 ∧
 Q (.bool false) u90)))) ∧
 ((ByteArray.toList s73 == ByteArray.toList s76) = false →
 Ext w1 u75 ∧
 Ext w1 u75 ∧
 Ext w1 u75 ∧
 Q (.bool false) u75)))
 ∧ (Ext w1 u75 ∧
 Ext w1 u75 ∧
 ((ByteArray.toList s73 == ByteArray.toList s76) = true →
 Spec Tryd.prog 12 #[.agg #[.int .i64 e_0, .int .u64 e_1, .int .u64 e_2, .int .i64 e_3, .int .i64 e_4]] u75 (fun v95 u96 =>
 ∃ s97 : ByteArray, v95 = .string s97 ∧
 Ext w1 u96 ∧
 Spec Tryd.prog 13 #[.agg #[.int .i64 e_0, .int .u64 e_1, .int .u64 e_2, .int .i64 e_3, .int .i64 e_4]] u96 (fun v98 u99 =>
 ∃ s100 : ByteArray, v98 = .string s100 ∧
 Ext w1 u99 ∧
 ((ByteArray.toList s97 == ByteArray.toList s100) = true →
 Spec Tryd.prog 14 #[] u99 (fun v101 u102 =>
 ∃ b103 : Bool, v101 = .bool b103 ∧
 Ext w1 u102 ∧
 Q (.bool b103) u102)) ∧
 ((ByteArray.toList s97 == ByteArray.toList s100) = false →
 Ext w1 u99 ∧
 Q (.bool false) u99)))) ∧
 ((ByteArray.toList s73 == ByteArray.toList s76) = false →
 Ext w1 u75 ∧
 Ext w1 u75 ∧
 Ext w1 u75 ∧
 Q (.bool false) u75))))) ∧
 ((ByteArray.toList s4 == ByteArray.toList s7) = false →
 Ext w1 u6 ∧
 Ext w1 u6 ∧
 Ext w1 u6 ∧
 (Ext w1 u6 ∧
 (Ext w1 u6 ∧
 Ext w1 u6 ∧
 Ext w1 u6 ∧
 Ext w1 u6 ∧
 Q (.bool false) u6)
 ∧ (Ext w1 u6 ∧
 Ext w1 u6 ∧
 Ext w1 u6 ∧
 Ext w1 u6 ∧
 Q (.bool false) u6))
 ∧ (Ext w1 u6 ∧
 Ext w1 u6 ∧
 Ext w1 u6 ∧
 Ext w1 u6 ∧
 Ext w1 u6 ∧
 Q (.bool false) u6)))
 ∧ (Ext w1 u6 ∧
 ((ByteArray.toList s4 == ByteArray.toList s7) = true →
 Spec Tryd.prog 10 #[.int .i64 c.at_, .agg #[.int .i64 t_0, .int .i64 t_1, .int .i64 t_2, .slice t_3 t_3_l t_3_c]] u6 (fun v104 u105 =>
 ∃ s106 : ByteArray, v104 = .string s106 ∧
 Ext w1 u105 ∧
 Spec Tryd.prog 11 #[.int .i64 c.at_, .agg #[.int .i64 t_0, .int .i64 t_1, .int .i64 t_2, .slice t_3 t_3_l t_3_c]] u105 (fun v107 u108 =>
 ∃ s109 : ByteArray, v107 = .string s109 ∧
 Ext w1 u108 ∧
 (Ext w1 u108 ∧
 (((ByteArray.toList s106 == ByteArray.toList s109) = true →
 Spec Tryd.prog 12 #[.agg #[.int .i64 e_0, .int .u64 e_1, .int .u64 e_2, .int .i64 e_3, .int .i64 e_4]] u108 (fun v110 u111 =>
 ∃ s112 : ByteArray, v110 = .string s112 ∧
 Ext w1 u111 ∧
 Ext w1 u111 ∧
 Spec Tryd.prog 13 #[.agg #[.int .i64 e_0, .int .u64 e_1, .int .u64 e_2, .int .i64 e_3, .int .i64 e_4]] u111 (fun v113 u114 =>
 ∃ s115 : ByteArray, v113 = .string s115 ∧
 Ext w1 u114 ∧
 ((ByteArray.toList s112 == ByteArray.toList s115) = true →
 Spec Tryd.prog 14 #[] u114 (fun v116 u117 =>
 ∃ b118 : Bool, v116 = .bool b118 ∧
 Ext w1 u117 ∧
 Q (.bool b118) u117)) ∧
 ((ByteArray.toList s112 == ByteArray.toList s115) = false →
 Ext w1 u114 ∧
 Q (.bool false) u114)))) ∧
 ((ByteArray.toList s106 == ByteArray.toList s109) = false →
 Ext w1 u108 ∧
 Ext w1 u108 ∧
 Ext w1 u108 ∧
 Ext w1 u108 ∧
 Q (.bool false) u108))
 ∧ (Ext w1 u108 ∧
 ((ByteArray.toList s106 == ByteArray.toList s109) = true →
 Spec Tryd.prog 12 #[.agg #[.int .i64 e_0, .int .u64 e_1, .int .u64 e_2, .int .i64 e_3, .int .i64 e_4]] u108 (fun v119 u120 =>
 ∃ s121 : ByteArray, v119 = .string s121 ∧
 Ext w1 u120 ∧
 Spec Tryd.prog 13 #[.agg #[.int .i64 e_0, .int .u64 e_1, .int .u64 e_2, .int .i64 e_3, .int .i64 e_4]] u120 (fun v122 u123 =>
 ∃ s124 : ByteArray, v122 = .string s124 ∧
 Ext w1 u123 ∧
 ((ByteArray.toList s121 == ByteArray.toList s124) = true →
 Spec Tryd.prog 14 #[] u123 (fun v125 u126 =>
 ∃ b127 : Bool, v125 = .bool b127 ∧
 Ext w1 u126 ∧
 Q (.bool b127) u126)) ∧
 ((ByteArray.toList s121 == ByteArray.toList s124) = false →
 Ext w1 u123 ∧
 Q (.bool false) u123)))) ∧
 ((ByteArray.toList s106 == ByteArray.toList s109) = false →
 Ext w1 u108 ∧
 Ext w1 u108 ∧
 Ext w1 u108 ∧
 Q (.bool false) u108)))
 ∧ (Ext w1 u108 ∧
 Ext w1 u108 ∧
 ((ByteArray.toList s106 == ByteArray.toList s109) = true →
 Spec Tryd.prog 12 #[.agg #[.int .i64 e_0, .int .u64 e_1, .int .u64 e_2, .int .i64 e_3, .int .i64 e_4]] u108 (fun v128 u129 =>
 ∃ s130 : ByteArray, v128 = .string s130 ∧
 Ext w1 u129 ∧
 Spec Tryd.prog 13 #[.agg #[.int .i64 e_0, .int .u64 e_1, .int .u64 e_2, .int .i64 e_3, .int .i64 e_4]] u129 (fun v131 u132 =>
 ∃ s133 : ByteArray, v131 = .string s133 ∧
 Ext w1 u132 ∧
 ((ByteArray.toList s130 == ByteArray.toList s133) = true →
 Spec Tryd.prog 14 #[] u132 (fun v134 u135 =>
 ∃ b136 : Bool, v134 = .bool b136 ∧
 Ext w1 u135 ∧
 Q (.bool b136) u135)) ∧
 ((ByteArray.toList s130 == ByteArray.toList s133) = false →
 Ext w1 u132 ∧
 Q (.bool false) u132)))) ∧
 ((ByteArray.toList s106 == ByteArray.toList s109) = false →
 Ext w1 u108 ∧
 Ext w1 u108 ∧
 Ext w1 u108 ∧
 Q (.bool false) u108))))) ∧
 ((ByteArray.toList s4 == ByteArray.toList s7) = false →
 Ext w1 u6 ∧
 Ext w1 u6 ∧
 (Ext w1 u6 ∧
 (Ext w1 u6 ∧
 Ext w1 u6 ∧
 Ext w1 u6 ∧
 Ext w1 u6 ∧
 Q (.bool false) u6)
 ∧ (Ext w1 u6 ∧
 Ext w1 u6 ∧
 Ext w1 u6 ∧
 Ext w1 u6 ∧
 Q (.bool false) u6))
 ∧ (Ext w1 u6 ∧
 Ext w1 u6 ∧
 Ext w1 u6 ∧
 Ext w1 u6 ∧
 Ext w1 u6 ∧
 Q (.bool false) u6))))
 ∧ (Ext w1 u6 ∧
 (((ByteArray.toList s4 == ByteArray.toList s7) = true →
 Spec Tryd.prog 10 #[.int .i64 c.at_, .agg #[.int .i64 t_0, .int .i64 t_1, .int .i64 t_2, .slice t_3 t_3_l t_3_c]] u6 (fun v137 u138 =>
 ∃ s139 : ByteArray, v137 = .string s139 ∧
 Ext w1 u138 ∧
 Ext w1 u138 ∧
 Spec Tryd.prog 11 #[.int .i64 c.at_, .agg #[.int .i64 t_0, .int .i64 t_1, .int .i64 t_2, .slice t_3 t_3_l t_3_c]] u138 (fun v140 u141 =>
 ∃ s142 : ByteArray, v140 = .string s142 ∧
 Ext w1 u141 ∧
 (Ext w1 u141 ∧
 (((ByteArray.toList s139 == ByteArray.toList s142) = true →
 Spec Tryd.prog 12 #[.agg #[.int .i64 e_0, .int .u64 e_1, .int .u64 e_2, .int .i64 e_3, .int .i64 e_4]] u141 (fun v143 u144 =>
 ∃ s145 : ByteArray, v143 = .string s145 ∧
 Ext w1 u144 ∧
 Ext w1 u144 ∧
 Spec Tryd.prog 13 #[.agg #[.int .i64 e_0, .int .u64 e_1, .int .u64 e_2, .int .i64 e_3, .int .i64 e_4]] u144 (fun v146 u147 =>
 ∃ s148 : ByteArray, v146 = .string s148 ∧
 Ext w1 u147 ∧
 ((ByteArray.toList s145 == ByteArray.toList s148) = true →
 Spec Tryd.prog 14 #[] u147 (fun v149 u150 =>
 ∃ b151 : Bool, v149 = .bool b151 ∧
 Ext w1 u150 ∧
 Q (.bool b151) u150)) ∧
 ((ByteArray.toList s145 == ByteArray.toList s148) = false →
 Ext w1 u147 ∧
 Q (.bool false) u147)))) ∧
 ((ByteArray.toList s139 == ByteArray.toList s142) = false →
 Ext w1 u141 ∧
 Ext w1 u141 ∧
 Ext w1 u141 ∧
 Ext w1 u141 ∧
 Q (.bool false) u141))
 ∧ (Ext w1 u141 ∧
 ((ByteArray.toList s139 == ByteArray.toList s142) = true →
 Spec Tryd.prog 12 #[.agg #[.int .i64 e_0, .int .u64 e_1, .int .u64 e_2, .int .i64 e_3, .int .i64 e_4]] u141 (fun v152 u153 =>
 ∃ s154 : ByteArray, v152 = .string s154 ∧
 Ext w1 u153 ∧
 Spec Tryd.prog 13 #[.agg #[.int .i64 e_0, .int .u64 e_1, .int .u64 e_2, .int .i64 e_3, .int .i64 e_4]] u153 (fun v155 u156 =>
 ∃ s157 : ByteArray, v155 = .string s157 ∧
 Ext w1 u156 ∧
 ((ByteArray.toList s154 == ByteArray.toList s157) = true →
 Spec Tryd.prog 14 #[] u156 (fun v158 u159 =>
 ∃ b160 : Bool, v158 = .bool b160 ∧
 Ext w1 u159 ∧
 Q (.bool b160) u159)) ∧
 ((ByteArray.toList s154 == ByteArray.toList s157) = false →
 Ext w1 u156 ∧
 Q (.bool false) u156)))) ∧
 ((ByteArray.toList s139 == ByteArray.toList s142) = false →
 Ext w1 u141 ∧
 Ext w1 u141 ∧
 Ext w1 u141 ∧
 Q (.bool false) u141)))
 ∧ (Ext w1 u141 ∧
 Ext w1 u141 ∧
 ((ByteArray.toList s139 == ByteArray.toList s142) = true →
 Spec Tryd.prog 12 #[.agg #[.int .i64 e_0, .int .u64 e_1, .int .u64 e_2, .int .i64 e_3, .int .i64 e_4]] u141 (fun v161 u162 =>
 ∃ s163 : ByteArray, v161 = .string s163 ∧
 Ext w1 u162 ∧
 Spec Tryd.prog 13 #[.agg #[.int .i64 e_0, .int .u64 e_1, .int .u64 e_2, .int .i64 e_3, .int .i64 e_4]] u162 (fun v164 u165 =>
 ∃ s166 : ByteArray, v164 = .string s166 ∧
 Ext w1 u165 ∧
 ((ByteArray.toList s163 == ByteArray.toList s166) = true →
 Spec Tryd.prog 14 #[] u165 (fun v167 u168 =>
 ∃ b169 : Bool, v167 = .bool b169 ∧
 Ext w1 u168 ∧
 Q (.bool b169) u168)) ∧
 ((ByteArray.toList s163 == ByteArray.toList s166) = false →
 Ext w1 u165 ∧
 Q (.bool false) u165)))) ∧
 ((ByteArray.toList s139 == ByteArray.toList s142) = false →
 Ext w1 u141 ∧
 Ext w1 u141 ∧
 Ext w1 u141 ∧
 Q (.bool false) u141))))) ∧
 ((ByteArray.toList s4 == ByteArray.toList s7) = false →
 Ext w1 u6 ∧
 Ext w1 u6 ∧
 Ext w1 u6 ∧
 (Ext w1 u6 ∧
 (Ext w1 u6 ∧
 Ext w1 u6 ∧
 Ext w1 u6 ∧
 Ext w1 u6 ∧
 Q (.bool false) u6)
 ∧ (Ext w1 u6 ∧
 Ext w1 u6 ∧
 Ext w1 u6 ∧
 Ext w1 u6 ∧
 Q (.bool false) u6))
 ∧ (Ext w1 u6 ∧
 Ext w1 u6 ∧
 Ext w1 u6 ∧
 Ext w1 u6 ∧
 Ext w1 u6 ∧
 Q (.bool false) u6)))
 ∧ (Ext w1 u6 ∧
 ((ByteArray.toList s4 == ByteArray.toList s7) = true →
 Spec Tryd.prog 10 #[.int .i64 c.at_, .agg #[.int .i64 t_0, .int .i64 t_1, .int .i64 t_2, .slice t_3 t_3_l t_3_c]] u6 (fun v170 u171 =>
 ∃ s172 : ByteArray, v170 = .string s172 ∧
 Ext w1 u171 ∧
 Spec Tryd.prog 11 #[.int .i64 c.at_, .agg #[.int .i64 t_0, .int .i64 t_1, .int .i64 t_2, .slice t_3 t_3_l t_3_c]] u171 (fun v173 u174 =>
 ∃ s175 : ByteArray, v173 = .string s175 ∧
 Ext w1 u174 ∧
 (Ext w1 u174 ∧
 (((ByteArray.toList s172 == ByteArray.toList s175) = true →
 Spec Tryd.prog 12 #[.agg #[.int .i64 e_0, .int .u64 e_1, .int .u64 e_2, .int .i64 e_3, .int .i64 e_4]] u174 (fun v176 u177 =>
 ∃ s178 : ByteArray, v176 = .string s178 ∧
 Ext w1 u177 ∧
 Ext w1 u177 ∧
 Spec Tryd.prog 13 #[.agg #[.int .i64 e_0, .int .u64 e_1, .int .u64 e_2, .int .i64 e_3, .int .i64 e_4]] u177 (fun v179 u180 =>
 ∃ s181 : ByteArray, v179 = .string s181 ∧
 Ext w1 u180 ∧
 ((ByteArray.toList s178 == ByteArray.toList s181) = true →
 Spec Tryd.prog 14 #[] u180 (fun v182 u183 =>
 ∃ b184 : Bool, v182 = .bool b184 ∧
 Ext w1 u183 ∧
 Q (.bool b184) u183)) ∧
 ((ByteArray.toList s178 == ByteArray.toList s181) = false →
 Ext w1 u180 ∧
 Q (.bool false) u180)))) ∧
 ((ByteArray.toList s172 == ByteArray.toList s175) = false →
 Ext w1 u174 ∧
 Ext w1 u174 ∧
 Ext w1 u174 ∧
 Ext w1 u174 ∧
 Q (.bool false) u174))
 ∧ (Ext w1 u174 ∧
 ((ByteArray.toList s172 == ByteArray.toList s175) = true →
 Spec Tryd.prog 12 #[.agg #[.int .i64 e_0, .int .u64 e_1, .int .u64 e_2, .int .i64 e_3, .int .i64 e_4]] u174 (fun v185 u186 =>
 ∃ s187 : ByteArray, v185 = .string s187 ∧
 Ext w1 u186 ∧
 Spec Tryd.prog 13 #[.agg #[.int .i64 e_0, .int .u64 e_1, .int .u64 e_2, .int .i64 e_3, .int .i64 e_4]] u186 (fun v188 u189 =>
 ∃ s190 : ByteArray, v188 = .string s190 ∧
 Ext w1 u189 ∧
 ((ByteArray.toList s187 == ByteArray.toList s190) = true →
 Spec Tryd.prog 14 #[] u189 (fun v191 u192 =>
 ∃ b193 : Bool, v191 = .bool b193 ∧
 Ext w1 u192 ∧
 Q (.bool b193) u192)) ∧
 ((ByteArray.toList s187 == ByteArray.toList s190) = false →
 Ext w1 u189 ∧
 Q (.bool false) u189)))) ∧
 ((ByteArray.toList s172 == ByteArray.toList s175) = false →
 Ext w1 u174 ∧
 Ext w1 u174 ∧
 Ext w1 u174 ∧
 Q (.bool false) u174)))
 ∧ (Ext w1 u174 ∧
 Ext w1 u174 ∧
 ((ByteArray.toList s172 == ByteArray.toList s175) = true →
 Spec Tryd.prog 12 #[.agg #[.int .i64 e_0, .int .u64 e_1, .int .u64 e_2, .int .i64 e_3, .int .i64 e_4]] u174 (fun v194 u195 =>
 ∃ s196 : ByteArray, v194 = .string s196 ∧
 Ext w1 u195 ∧
 Spec Tryd.prog 13 #[.agg #[.int .i64 e_0, .int .u64 e_1, .int .u64 e_2, .int .i64 e_3, .int .i64 e_4]] u195 (fun v197 u198 =>
 ∃ s199 : ByteArray, v197 = .string s199 ∧
 Ext w1 u198 ∧
 ((ByteArray.toList s196 == ByteArray.toList s199) = true →
 Spec Tryd.prog 14 #[] u198 (fun v200 u201 =>
 ∃ b202 : Bool, v200 = .bool b202 ∧
 Ext w1 u201 ∧
 Q (.bool b202) u201)) ∧
 ((ByteArray.toList s196 == ByteArray.toList s199) = false →
 Ext w1 u198 ∧
 Q (.bool false) u198)))) ∧
 ((ByteArray.toList s172 == ByteArray.toList s175) = false →
 Ext w1 u174 ∧
 Ext w1 u174 ∧
 Ext w1 u174 ∧
 Q (.bool false) u174))))) ∧
 ((ByteArray.toList s4 == ByteArray.toList s7) = false →
 Ext w1 u6 ∧
 Ext w1 u6 ∧
 (Ext w1 u6 ∧
 (Ext w1 u6 ∧
 Ext w1 u6 ∧
 Ext w1 u6 ∧
 Ext w1 u6 ∧
 Q (.bool false) u6)
 ∧ (Ext w1 u6 ∧
 Ext w1 u6 ∧
 Ext w1 u6 ∧
 Ext w1 u6 ∧
 Q (.bool false) u6))
 ∧ (Ext w1 u6 ∧
 Ext w1 u6 ∧
 Ext w1 u6 ∧
 Ext w1 u6 ∧
 Ext w1 u6 ∧
 Q (.bool false) u6)))))
 ∧ (Ext w1 u6 ∧
 (Ext w1 u6 ∧
 (((ByteArray.toList s4 == ByteArray.toList s7) = true →
 Spec Tryd.prog 10 #[.int .i64 c.at_, .agg #[.int .i64 t_0, .int .i64 t_1, .int .i64 t_2, .slice t_3 t_3_l t_3_c]] u6 (fun v203 u204 =>
 ∃ s205 : ByteArray, v203 = .string s205 ∧
 Ext w1 u204 ∧
 Ext w1 u204 ∧
 Spec Tryd.prog 11 #[.int .i64 c.at_, .agg #[.int .i64 t_0, .int .i64 t_1, .int .i64 t_2, .slice t_3 t_3_l t_3_c]] u204 (fun v206 u207 =>
 ∃ s208 : ByteArray, v206 = .string s208 ∧
 Ext w1 u207 ∧
 (Ext w1 u207 ∧
 (((ByteArray.toList s205 == ByteArray.toList s208) = true →
 Spec Tryd.prog 12 #[.agg #[.int .i64 e_0, .int .u64 e_1, .int .u64 e_2, .int .i64 e_3, .int .i64 e_4]] u207 (fun v209 u210 =>
 ∃ s211 : ByteArray, v209 = .string s211 ∧
 Ext w1 u210 ∧
 Ext w1 u210 ∧
 Spec Tryd.prog 13 #[.agg #[.int .i64 e_0, .int .u64 e_1, .int .u64 e_2, .int .i64 e_3, .int .i64 e_4]] u210 (fun v212 u213 =>
 ∃ s214 : ByteArray, v212 = .string s214 ∧
 Ext w1 u213 ∧
 ((ByteArray.toList s211 == ByteArray.toList s214) = true →
 Spec Tryd.prog 14 #[] u213 (fun v215 u216 =>
 ∃ b217 : Bool, v215 = .bool b217 ∧
 Ext w1 u216 ∧
 Q (.bool b217) u216)) ∧
 ((ByteArray.toList s211 == ByteArray.toList s214) = false →
 Ext w1 u213 ∧
 Q (.bool false) u213)))) ∧
 ((ByteArray.toList s205 == ByteArray.toList s208) = false →
 Ext w1 u207 ∧
 Ext w1 u207 ∧
 Ext w1 u207 ∧
 Ext w1 u207 ∧
 Q (.bool false) u207))
 ∧ (Ext w1 u207 ∧
 ((ByteArray.toList s205 == ByteArray.toList s208) = true →
 Spec Tryd.prog 12 #[.agg #[.int .i64 e_0, .int .u64 e_1, .int .u64 e_2, .int .i64 e_3, .int .i64 e_4]] u207 (fun v218 u219 =>
 ∃ s220 : ByteArray, v218 = .string s220 ∧
 Ext w1 u219 ∧
 Spec Tryd.prog 13 #[.agg #[.int .i64 e_0, .int .u64 e_1, .int .u64 e_2, .int .i64 e_3, .int .i64 e_4]] u219 (fun v221 u222 =>
 ∃ s223 : ByteArray, v221 = .string s223 ∧
 Ext w1 u222 ∧
 ((ByteArray.toList s220 == ByteArray.toList s223) = true →
 Spec Tryd.prog 14 #[] u222 (fun v224 u225 =>
 ∃ b226 : Bool, v224 = .bool b226 ∧
 Ext w1 u225 ∧
 Q (.bool b226) u225)) ∧
 ((ByteArray.toList s220 == ByteArray.toList s223) = false →
 Ext w1 u222 ∧
 Q (.bool false) u222)))) ∧
 ((ByteArray.toList s205 == ByteArray.toList s208) = false →
 Ext w1 u207 ∧
 Ext w1 u207 ∧
 Ext w1 u207 ∧
 Q (.bool false) u207)))
 ∧ (Ext w1 u207 ∧
 Ext w1 u207 ∧
 ((ByteArray.toList s205 == ByteArray.toList s208) = true →
 Spec Tryd.prog 12 #[.agg #[.int .i64 e_0, .int .u64 e_1, .int .u64 e_2, .int .i64 e_3, .int .i64 e_4]] u207 (fun v227 u228 =>
 ∃ s229 : ByteArray, v227 = .string s229 ∧
 Ext w1 u228 ∧
 Spec Tryd.prog 13 #[.agg #[.int .i64 e_0, .int .u64 e_1, .int .u64 e_2, .int .i64 e_3, .int .i64 e_4]] u228 (fun v230 u231 =>
 ∃ s232 : ByteArray, v230 = .string s232 ∧
 Ext w1 u231 ∧
 ((ByteArray.toList s229 == ByteArray.toList s232) = true →
 Spec Tryd.prog 14 #[] u231 (fun v233 u234 =>
 ∃ b235 : Bool, v233 = .bool b235 ∧
 Ext w1 u234 ∧
 Q (.bool b235) u234)) ∧
 ((ByteArray.toList s229 == ByteArray.toList s232) = false →
 Ext w1 u231 ∧
 Q (.bool false) u231)))) ∧
 ((ByteArray.toList s205 == ByteArray.toList s208) = false →
 Ext w1 u207 ∧
 Ext w1 u207 ∧
 Ext w1 u207 ∧
 Q (.bool false) u207))))) ∧
 ((ByteArray.toList s4 == ByteArray.toList s7) = false →
 Ext w1 u6 ∧
 Ext w1 u6 ∧
 Ext w1 u6 ∧
 (Ext w1 u6 ∧
 (Ext w1 u6 ∧
 Ext w1 u6 ∧
 Ext w1 u6 ∧
 Ext w1 u6 ∧
 Q (.bool false) u6)
 ∧ (Ext w1 u6 ∧
 Ext w1 u6 ∧
 Ext w1 u6 ∧
 Ext w1 u6 ∧
 Q (.bool false) u6))
 ∧ (Ext w1 u6 ∧
 Ext w1 u6 ∧
 Ext w1 u6 ∧
 Ext w1 u6 ∧
 Ext w1 u6 ∧
 Q (.bool false) u6)))
 ∧ (Ext w1 u6 ∧
 ((ByteArray.toList s4 == ByteArray.toList s7) = true →
 Spec Tryd.prog 10 #[.int .i64 c.at_, .agg #[.int .i64 t_0, .int .i64 t_1, .int .i64 t_2, .slice t_3 t_3_l t_3_c]] u6 (fun v236 u237 =>
 ∃ s238 : ByteArray, v236 = .string s238 ∧
 Ext w1 u237 ∧
 Spec Tryd.prog 11 #[.int .i64 c.at_, .agg #[.int .i64 t_0, .int .i64 t_1, .int .i64 t_2, .slice t_3 t_3_l t_3_c]] u237 (fun v239 u240 =>
 ∃ s241 : ByteArray, v239 = .string s241 ∧
 Ext w1 u240 ∧
 (Ext w1 u240 ∧
 (((ByteArray.toList s238 == ByteArray.toList s241) = true →
 Spec Tryd.prog 12 #[.agg #[.int .i64 e_0, .int .u64 e_1, .int .u64 e_2, .int .i64 e_3, .int .i64 e_4]] u240 (fun v242 u243 =>
 ∃ s244 : ByteArray, v242 = .string s244 ∧
 Ext w1 u243 ∧
 Ext w1 u243 ∧
 Spec Tryd.prog 13 #[.agg #[.int .i64 e_0, .int .u64 e_1, .int .u64 e_2, .int .i64 e_3, .int .i64 e_4]] u243 (fun v245 u246 =>
 ∃ s247 : ByteArray, v245 = .string s247 ∧
 Ext w1 u246 ∧
 ((ByteArray.toList s244 == ByteArray.toList s247) = true →
 Spec Tryd.prog 14 #[] u246 (fun v248 u249 =>
 ∃ b250 : Bool, v248 = .bool b250 ∧
 Ext w1 u249 ∧
 Q (.bool b250) u249)) ∧
 ((ByteArray.toList s244 == ByteArray.toList s247) = false →
 Ext w1 u246 ∧
 Q (.bool false) u246)))) ∧
 ((ByteArray.toList s238 == ByteArray.toList s241) = false →
 Ext w1 u240 ∧
 Ext w1 u240 ∧
 Ext w1 u240 ∧
 Ext w1 u240 ∧
 Q (.bool false) u240))
 ∧ (Ext w1 u240 ∧
 ((ByteArray.toList s238 == ByteArray.toList s241) = true →
 Spec Tryd.prog 12 #[.agg #[.int .i64 e_0, .int .u64 e_1, .int .u64 e_2, .int .i64 e_3, .int .i64 e_4]] u240 (fun v251 u252 =>
 ∃ s253 : ByteArray, v251 = .string s253 ∧
 Ext w1 u252 ∧
 Spec Tryd.prog 13 #[.agg #[.int .i64 e_0, .int .u64 e_1, .int .u64 e_2, .int .i64 e_3, .int .i64 e_4]] u252 (fun v254 u255 =>
 ∃ s256 : ByteArray, v254 = .string s256 ∧
 Ext w1 u255 ∧
 ((ByteArray.toList s253 == ByteArray.toList s256) = true →
 Spec Tryd.prog 14 #[] u255 (fun v257 u258 =>
 ∃ b259 : Bool, v257 = .bool b259 ∧
 Ext w1 u258 ∧
 Q (.bool b259) u258)) ∧
 ((ByteArray.toList s253 == ByteArray.toList s256) = false →
 Ext w1 u255 ∧
 Q (.bool false) u255)))) ∧
 ((ByteArray.toList s238 == ByteArray.toList s241) = false →
 Ext w1 u240 ∧
 Ext w1 u240 ∧
 Ext w1 u240 ∧
 Q (.bool false) u240)))
 ∧ (Ext w1 u240 ∧
 Ext w1 u240 ∧
 ((ByteArray.toList s238 == ByteArray.toList s241) = true →
 Spec Tryd.prog 12 #[.agg #[.int .i64 e_0, .int .u64 e_1, .int .u64 e_2, .int .i64 e_3, .int .i64 e_4]] u240 (fun v260 u261 =>
 ∃ s262 : ByteArray, v260 = .string s262 ∧
 Ext w1 u261 ∧
 Spec Tryd.prog 13 #[.agg #[.int .i64 e_0, .int .u64 e_1, .int .u64 e_2, .int .i64 e_3, .int .i64 e_4]] u261 (fun v263 u264 =>
 ∃ s265 : ByteArray, v263 = .string s265 ∧
 Ext w1 u264 ∧
 ((ByteArray.toList s262 == ByteArray.toList s265) = true →
 Spec Tryd.prog 14 #[] u264 (fun v266 u267 =>
 ∃ b268 : Bool, v266 = .bool b268 ∧
 Ext w1 u267 ∧
 Q (.bool b268) u267)) ∧
 ((ByteArray.toList s262 == ByteArray.toList s265) = false →
 Ext w1 u264 ∧
 Q (.bool false) u264)))) ∧
 ((ByteArray.toList s238 == ByteArray.toList s241) = false →
 Ext w1 u240 ∧
 Ext w1 u240 ∧
 Ext w1 u240 ∧
 Q (.bool false) u240))))) ∧
 ((ByteArray.toList s4 == ByteArray.toList s7) = false →
 Ext w1 u6 ∧
 Ext w1 u6 ∧
 (Ext w1 u6 ∧
 (Ext w1 u6 ∧
 Ext w1 u6 ∧
 Ext w1 u6 ∧
 Ext w1 u6 ∧
 Q (.bool false) u6)
 ∧ (Ext w1 u6 ∧
 Ext w1 u6 ∧
 Ext w1 u6 ∧
 Ext w1 u6 ∧
 Q (.bool false) u6))
 ∧ (Ext w1 u6 ∧
 Ext w1 u6 ∧
 Ext w1 u6 ∧
 Ext w1 u6 ∧
 Ext w1 u6 ∧
 Q (.bool false) u6))))
 ∧ (Ext w1 u6 ∧
 Ext w1 u6 ∧
 ((ByteArray.toList s4 == ByteArray.toList s7) = true →
 Spec Tryd.prog 10 #[.int .i64 c.at_, .agg #[.int .i64 t_0, .int .i64 t_1, .int .i64 t_2, .slice t_3 t_3_l t_3_c]] u6 (fun v269 u270 =>
 ∃ s271 : ByteArray, v269 = .string s271 ∧
 Ext w1 u270 ∧
 Spec Tryd.prog 11 #[.int .i64 c.at_, .agg #[.int .i64 t_0, .int .i64 t_1, .int .i64 t_2, .slice t_3 t_3_l t_3_c]] u270 (fun v272 u273 =>
 ∃ s274 : ByteArray, v272 = .string s274 ∧
 Ext w1 u273 ∧
 (Ext w1 u273 ∧
 (((ByteArray.toList s271 == ByteArray.toList s274) = true →
 Spec Tryd.prog 12 #[.agg #[.int .i64 e_0, .int .u64 e_1, .int .u64 e_2, .int .i64 e_3, .int .i64 e_4]] u273 (fun v275 u276 =>
 ∃ s277 : ByteArray, v275 = .string s277 ∧
 Ext w1 u276 ∧
 Ext w1 u276 ∧
 Spec Tryd.prog 13 #[.agg #[.int .i64 e_0, .int .u64 e_1, .int .u64 e_2, .int .i64 e_3, .int .i64 e_4]] u276 (fun v278 u279 =>
 ∃ s280 : ByteArray, v278 = .string s280 ∧
 Ext w1 u279 ∧
 ((ByteArray.toList s277 == ByteArray.toList s280) = true →
 Spec Tryd.prog 14 #[] u279 (fun v281 u282 =>
 ∃ b283 : Bool, v281 = .bool b283 ∧
 Ext w1 u282 ∧
 Q (.bool b283) u282)) ∧
 ((ByteArray.toList s277 == ByteArray.toList s280) = false →
 Ext w1 u279 ∧
 Q (.bool false) u279)))) ∧
 ((ByteArray.toList s271 == ByteArray.toList s274) = false →
 Ext w1 u273 ∧
 Ext w1 u273 ∧
 Ext w1 u273 ∧
 Ext w1 u273 ∧
 Q (.bool false) u273))
 ∧ (Ext w1 u273 ∧
 ((ByteArray.toList s271 == ByteArray.toList s274) = true →
 Spec Tryd.prog 12 #[.agg #[.int .i64 e_0, .int .u64 e_1, .int .u64 e_2, .int .i64 e_3, .int .i64 e_4]] u273 (fun v284 u285 =>
 ∃ s286 : ByteArray, v284 = .string s286 ∧
 Ext w1 u285 ∧
 Spec Tryd.prog 13 #[.agg #[.int .i64 e_0, .int .u64 e_1, .int .u64 e_2, .int .i64 e_3, .int .i64 e_4]] u285 (fun v287 u288 =>
 ∃ s289 : ByteArray, v287 = .string s289 ∧
 Ext w1 u288 ∧
 ((ByteArray.toList s286 == ByteArray.toList s289) = true →
 Spec Tryd.prog 14 #[] u288 (fun v290 u291 =>
 ∃ b292 : Bool, v290 = .bool b292 ∧
 Ext w1 u291 ∧
 Q (.bool b292) u291)) ∧
 ((ByteArray.toList s286 == ByteArray.toList s289) = false →
 Ext w1 u288 ∧
 Q (.bool false) u288)))) ∧
 ((ByteArray.toList s271 == ByteArray.toList s274) = false →
 Ext w1 u273 ∧
 Ext w1 u273 ∧
 Ext w1 u273 ∧
 Q (.bool false) u273)))
 ∧ (Ext w1 u273 ∧
 Ext w1 u273 ∧
 ((ByteArray.toList s271 == ByteArray.toList s274) = true →
 Spec Tryd.prog 12 #[.agg #[.int .i64 e_0, .int .u64 e_1, .int .u64 e_2, .int .i64 e_3, .int .i64 e_4]] u273 (fun v293 u294 =>
 ∃ s295 : ByteArray, v293 = .string s295 ∧
 Ext w1 u294 ∧
 Spec Tryd.prog 13 #[.agg #[.int .i64 e_0, .int .u64 e_1, .int .u64 e_2, .int .i64 e_3, .int .i64 e_4]] u294 (fun v296 u297 =>
 ∃ s298 : ByteArray, v296 = .string s298 ∧
 Ext w1 u297 ∧
 ((ByteArray.toList s295 == ByteArray.toList s298) = true →
 Spec Tryd.prog 14 #[] u297 (fun v299 u300 =>
 ∃ b301 : Bool, v299 = .bool b301 ∧
 Ext w1 u300 ∧
 Q (.bool b301) u300)) ∧
 ((ByteArray.toList s295 == ByteArray.toList s298) = false →
 Ext w1 u297 ∧
 Q (.bool false) u297)))) ∧
 ((ByteArray.toList s271 == ByteArray.toList s274) = false →
 Ext w1 u273 ∧
 Ext w1 u273 ∧
 Ext w1 u273 ∧
 Q (.bool false) u273))))) ∧
 ((ByteArray.toList s4 == ByteArray.toList s7) = false →
 Ext w1 u6 ∧
 Ext w1 u6 ∧
 (Ext w1 u6 ∧
 (Ext w1 u6 ∧
 Ext w1 u6 ∧
 Ext w1 u6 ∧
 Ext w1 u6 ∧
 Q (.bool false) u6)
 ∧ (Ext w1 u6 ∧
 Ext w1 u6 ∧
 Ext w1 u6 ∧
 Ext w1 u6 ∧
 Q (.bool false) u6))
 ∧ (Ext w1 u6 ∧
 Ext w1 u6 ∧
 Ext w1 u6 ∧
 Ext w1 u6 ∧
 Ext w1 u6 ∧
 Q (.bool false) u6))))
 ∧ (Ext w1 u6 ∧
 (Ext w1 u6 ∧
 (((ByteArray.toList s4 == ByteArray.toList s7) = true →
 Spec Tryd.prog 10 #[.int .i64 c.at_, .agg #[.int .i64 t_0, .int .i64 t_1, .int .i64 t_2, .slice t_3 t_3_l t_3_c]] u6 (fun v302 u303 =>
 ∃ s304 : ByteArray, v302 = .string s304 ∧
 Ext w1 u303 ∧
 Ext w1 u303 ∧
 Spec Tryd.prog 11 #[.int .i64 c.at_, .agg #[.int .i64 t_0, .int .i64 t_1, .int .i64 t_2, .slice t_3 t_3_l t_3_c]] u303 (fun v305 u306 =>
 ∃ s307 : ByteArray, v305 = .string s307 ∧
 Ext w1 u306 ∧
 (Ext w1 u306 ∧
 (((ByteArray.toList s304 == ByteArray.toList s307) = true →
 Spec Tryd.prog 12 #[.agg #[.int .i64 e_0, .int .u64 e_1, .int .u64 e_2, .int .i64 e_3, .int .i64 e_4]] u306 (fun v308 u309 =>
 ∃ s310 : ByteArray, v308 = .string s310 ∧
 Ext w1 u309 ∧
 Ext w1 u309 ∧
 Spec Tryd.prog 13 #[.agg #[.int .i64 e_0, .int .u64 e_1, .int .u64 e_2, .int .i64 e_3, .int .i64 e_4]] u309 (fun v311 u312 =>
 ∃ s313 : ByteArray, v311 = .string s313 ∧
 Ext w1 u312 ∧
 ((ByteArray.toList s310 == ByteArray.toList s313) = true →
 Spec Tryd.prog 14 #[] u312 (fun v314 u315 =>
 ∃ b316 : Bool, v314 = .bool b316 ∧
 Ext w1 u315 ∧
 Q (.bool b316) u315)) ∧
 ((ByteArray.toList s310 == ByteArray.toList s313) = false →
 Ext w1 u312 ∧
 Q (.bool false) u312)))) ∧
 ((ByteArray.toList s304 == ByteArray.toList s307) = false →
 Ext w1 u306 ∧
 Ext w1 u306 ∧
 Ext w1 u306 ∧
 Ext w1 u306 ∧
 Q (.bool false) u306))
 ∧ (Ext w1 u306 ∧
 ((ByteArray.toList s304 == ByteArray.toList s307) = true →
 Spec Tryd.prog 12 #[.agg #[.int .i64 e_0, .int .u64 e_1, .int .u64 e_2, .int .i64 e_3, .int .i64 e_4]] u306 (fun v317 u318 =>
 ∃ s319 : ByteArray, v317 = .string s319 ∧
 Ext w1 u318 ∧
 Spec Tryd.prog 13 #[.agg #[.int .i64 e_0, .int .u64 e_1, .int .u64 e_2, .int .i64 e_3, .int .i64 e_4]] u318 (fun v320 u321 =>
 ∃ s322 : ByteArray, v320 = .string s322 ∧
 Ext w1 u321 ∧
 ((ByteArray.toList s319 == ByteArray.toList s322) = true →
 Spec Tryd.prog 14 #[] u321 (fun v323 u324 =>
 ∃ b325 : Bool, v323 = .bool b325 ∧
 Ext w1 u324 ∧
 Q (.bool b325) u324)) ∧
 ((ByteArray.toList s319 == ByteArray.toList s322) = false →
 Ext w1 u321 ∧
 Q (.bool false) u321)))) ∧
 ((ByteArray.toList s304 == ByteArray.toList s307) = false →
 Ext w1 u306 ∧
 Ext w1 u306 ∧
 Ext w1 u306 ∧
 Q (.bool false) u306)))
 ∧ (Ext w1 u306 ∧
 Ext w1 u306 ∧
 ((ByteArray.toList s304 == ByteArray.toList s307) = true →
 Spec Tryd.prog 12 #[.agg #[.int .i64 e_0, .int .u64 e_1, .int .u64 e_2, .int .i64 e_3, .int .i64 e_4]] u306 (fun v326 u327 =>
 ∃ s328 : ByteArray, v326 = .string s328 ∧
 Ext w1 u327 ∧
 Spec Tryd.prog 13 #[.agg #[.int .i64 e_0, .int .u64 e_1, .int .u64 e_2, .int .i64 e_3, .int .i64 e_4]] u327 (fun v329 u330 =>
 ∃ s331 : ByteArray, v329 = .string s331 ∧
 Ext w1 u330 ∧
 ((ByteArray.toList s328 == ByteArray.toList s331) = true →
 Spec Tryd.prog 14 #[] u330 (fun v332 u333 =>
 ∃ b334 : Bool, v332 = .bool b334 ∧
 Ext w1 u333 ∧
 Q (.bool b334) u333)) ∧
 ((ByteArray.toList s328 == ByteArray.toList s331) = false →
 Ext w1 u330 ∧
 Q (.bool false) u330)))) ∧
 ((ByteArray.toList s304 == ByteArray.toList s307) = false →
 Ext w1 u306 ∧
 Ext w1 u306 ∧
 Ext w1 u306 ∧
 Q (.bool false) u306))))) ∧
 ((ByteArray.toList s4 == ByteArray.toList s7) = false →
 Ext w1 u6 ∧
 Ext w1 u6 ∧
 Ext w1 u6 ∧
 (Ext w1 u6 ∧
 (Ext w1 u6 ∧
 Ext w1 u6 ∧
 Ext w1 u6 ∧
 Ext w1 u6 ∧
 Q (.bool false) u6)
 ∧ (Ext w1 u6 ∧
 Ext w1 u6 ∧
 Ext w1 u6 ∧
 Ext w1 u6 ∧
 Q (.bool false) u6))
 ∧ (Ext w1 u6 ∧
 Ext w1 u6 ∧
 Ext w1 u6 ∧
 Ext w1 u6 ∧
 Ext w1 u6 ∧
 Q (.bool false) u6)))
 ∧ (Ext w1 u6 ∧
 ((ByteArray.toList s4 == ByteArray.toList s7) = true →
 Spec Tryd.prog 10 #[.int .i64 c.at_, .agg #[.int .i64 t_0, .int .i64 t_1, .int .i64 t_2, .slice t_3 t_3_l t_3_c]] u6 (fun v335 u336 =>
 ∃ s337 : ByteArray, v335 = .string s337 ∧
 Ext w1 u336 ∧
 Spec Tryd.prog 11 #[.int .i64 c.at_, .agg #[.int .i64 t_0, .int .i64 t_1, .int .i64 t_2, .slice t_3 t_3_l t_3_c]] u336 (fun v338 u339 =>
 ∃ s340 : ByteArray, v338 = .string s340 ∧
 Ext w1 u339 ∧
 (Ext w1 u339 ∧
 (((ByteArray.toList s337 == ByteArray.toList s340) = true →
 Spec Tryd.prog 12 #[.agg #[.int .i64 e_0, .int .u64 e_1, .int .u64 e_2, .int .i64 e_3, .int .i64 e_4]] u339 (fun v341 u342 =>
 ∃ s343 : ByteArray, v341 = .string s343 ∧
 Ext w1 u342 ∧
 Ext w1 u342 ∧
 Spec Tryd.prog 13 #[.agg #[.int .i64 e_0, .int .u64 e_1, .int .u64 e_2, .int .i64 e_3, .int .i64 e_4]] u342 (fun v344 u345 =>
 ∃ s346 : ByteArray, v344 = .string s346 ∧
 Ext w1 u345 ∧
 ((ByteArray.toList s343 == ByteArray.toList s346) = true →
 Spec Tryd.prog 14 #[] u345 (fun v347 u348 =>
 ∃ b349 : Bool, v347 = .bool b349 ∧
 Ext w1 u348 ∧
 Q (.bool b349) u348)) ∧
 ((ByteArray.toList s343 == ByteArray.toList s346) = false →
 Ext w1 u345 ∧
 Q (.bool false) u345)))) ∧
 ((ByteArray.toList s337 == ByteArray.toList s340) = false →
 Ext w1 u339 ∧
 Ext w1 u339 ∧
 Ext w1 u339 ∧
 Ext w1 u339 ∧
 Q (.bool false) u339))
 ∧ (Ext w1 u339 ∧
 ((ByteArray.toList s337 == ByteArray.toList s340) = true →
 Spec Tryd.prog 12 #[.agg #[.int .i64 e_0, .int .u64 e_1, .int .u64 e_2, .int .i64 e_3, .int .i64 e_4]] u339 (fun v350 u351 =>
 ∃ s352 : ByteArray, v350 = .string s352 ∧
 Ext w1 u351 ∧
 Spec Tryd.prog 13 #[.agg #[.int .i64 e_0, .int .u64 e_1, .int .u64 e_2, .int .i64 e_3, .int .i64 e_4]] u351 (fun v353 u354 =>
 ∃ s355 : ByteArray, v353 = .string s355 ∧
 Ext w1 u354 ∧
 ((ByteArray.toList s352 == ByteArray.toList s355) = true →
 Spec Tryd.prog 14 #[] u354 (fun v356 u357 =>
 ∃ b358 : Bool, v356 = .bool b358 ∧
 Ext w1 u357 ∧
 Q (.bool b358) u357)) ∧
 ((ByteArray.toList s352 == ByteArray.toList s355) = false →
 Ext w1 u354 ∧
 Q (.bool false) u354)))) ∧
 ((ByteArray.toList s337 == ByteArray.toList s340) = false →
 Ext w1 u339 ∧
 Ext w1 u339 ∧
 Ext w1 u339 ∧
 Q (.bool false) u339)))
 ∧ (Ext w1 u339 ∧
 Ext w1 u339 ∧
 ((ByteArray.toList s337 == ByteArray.toList s340) = true →
 Spec Tryd.prog 12 #[.agg #[.int .i64 e_0, .int .u64 e_1, .int .u64 e_2, .int .i64 e_3, .int .i64 e_4]] u339 (fun v359 u360 =>
 ∃ s361 : ByteArray, v359 = .string s361 ∧
 Ext w1 u360 ∧
 Spec Tryd.prog 13 #[.agg #[.int .i64 e_0, .int .u64 e_1, .int .u64 e_2, .int .i64 e_3, .int .i64 e_4]] u360 (fun v362 u363 =>
 ∃ s364 : ByteArray, v362 = .string s364 ∧
 Ext w1 u363 ∧
 ((ByteArray.toList s361 == ByteArray.toList s364) = true →
 Spec Tryd.prog 14 #[] u363 (fun v365 u366 =>
 ∃ b367 : Bool, v365 = .bool b367 ∧
 Ext w1 u366 ∧
 Q (.bool b367) u366)) ∧
 ((ByteArray.toList s361 == ByteArray.toList s364) = false →
 Ext w1 u363 ∧
 Q (.bool false) u363)))) ∧
 ((ByteArray.toList s337 == ByteArray.toList s340) = false →
 Ext w1 u339 ∧
 Ext w1 u339 ∧
 Ext w1 u339 ∧
 Q (.bool false) u339))))) ∧
 ((ByteArray.toList s4 == ByteArray.toList s7) = false →
 Ext w1 u6 ∧
 Ext w1 u6 ∧
 (Ext w1 u6 ∧
 (Ext w1 u6 ∧
 Ext w1 u6 ∧
 Ext w1 u6 ∧
 Ext w1 u6 ∧
 Q (.bool false) u6)
 ∧ (Ext w1 u6 ∧
 Ext w1 u6 ∧
 Ext w1 u6 ∧
 Ext w1 u6 ∧
 Q (.bool false) u6))
 ∧ (Ext w1 u6 ∧
 Ext w1 u6 ∧
 Ext w1 u6 ∧
 Ext w1 u6 ∧
 Ext w1 u6 ∧
 Q (.bool false) u6))))
 ∧ (Ext w1 u6 ∧
 Ext w1 u6 ∧
 ((ByteArray.toList s4 == ByteArray.toList s7) = true →
 Spec Tryd.prog 10 #[.int .i64 c.at_, .agg #[.int .i64 t_0, .int .i64 t_1, .int .i64 t_2, .slice t_3 t_3_l t_3_c]] u6 (fun v368 u369 =>
 ∃ s370 : ByteArray, v368 = .string s370 ∧
 Ext w1 u369 ∧
 Spec Tryd.prog 11 #[.int .i64 c.at_, .agg #[.int .i64 t_0, .int .i64 t_1, .int .i64 t_2, .slice t_3 t_3_l t_3_c]] u369 (fun v371 u372 =>
 ∃ s373 : ByteArray, v371 = .string s373 ∧
 Ext w1 u372 ∧
 (Ext w1 u372 ∧
 (((ByteArray.toList s370 == ByteArray.toList s373) = true →
 Spec Tryd.prog 12 #[.agg #[.int .i64 e_0, .int .u64 e_1, .int .u64 e_2, .int .i64 e_3, .int .i64 e_4]] u372 (fun v374 u375 =>
 ∃ s376 : ByteArray, v374 = .string s376 ∧
 Ext w1 u375 ∧
 Ext w1 u375 ∧
 Spec Tryd.prog 13 #[.agg #[.int .i64 e_0, .int .u64 e_1, .int .u64 e_2, .int .i64 e_3, .int .i64 e_4]] u375 (fun v377 u378 =>
 ∃ s379 : ByteArray, v377 = .string s379 ∧
 Ext w1 u378 ∧
 ((ByteArray.toList s376 == ByteArray.toList s379) = true →
 Spec Tryd.prog 14 #[] u378 (fun v380 u381 =>
 ∃ b382 : Bool, v380 = .bool b382 ∧
 Ext w1 u381 ∧
 Q (.bool b382) u381)) ∧
 ((ByteArray.toList s376 == ByteArray.toList s379) = false →
 Ext w1 u378 ∧
 Q (.bool false) u378)))) ∧
 ((ByteArray.toList s370 == ByteArray.toList s373) = false →
 Ext w1 u372 ∧
 Ext w1 u372 ∧
 Ext w1 u372 ∧
 Ext w1 u372 ∧
 Q (.bool false) u372))
 ∧ (Ext w1 u372 ∧
 ((ByteArray.toList s370 == ByteArray.toList s373) = true →
 Spec Tryd.prog 12 #[.agg #[.int .i64 e_0, .int .u64 e_1, .int .u64 e_2, .int .i64 e_3, .int .i64 e_4]] u372 (fun v383 u384 =>
 ∃ s385 : ByteArray, v383 = .string s385 ∧
 Ext w1 u384 ∧
 Spec Tryd.prog 13 #[.agg #[.int .i64 e_0, .int .u64 e_1, .int .u64 e_2, .int .i64 e_3, .int .i64 e_4]] u384 (fun v386 u387 =>
 ∃ s388 : ByteArray, v386 = .string s388 ∧
 Ext w1 u387 ∧
 ((ByteArray.toList s385 == ByteArray.toList s388) = true →
 Spec Tryd.prog 14 #[] u387 (fun v389 u390 =>
 ∃ b391 : Bool, v389 = .bool b391 ∧
 Ext w1 u390 ∧
 Q (.bool b391) u390)) ∧
 ((ByteArray.toList s385 == ByteArray.toList s388) = false →
 Ext w1 u387 ∧
 Q (.bool false) u387)))) ∧
 ((ByteArray.toList s370 == ByteArray.toList s373) = false →
 Ext w1 u372 ∧
 Ext w1 u372 ∧
 Ext w1 u372 ∧
 Q (.bool false) u372)))
 ∧ (Ext w1 u372 ∧
 Ext w1 u372 ∧
 ((ByteArray.toList s370 == ByteArray.toList s373) = true →
 Spec Tryd.prog 12 #[.agg #[.int .i64 e_0, .int .u64 e_1, .int .u64 e_2, .int .i64 e_3, .int .i64 e_4]] u372 (fun v392 u393 =>
 ∃ s394 : ByteArray, v392 = .string s394 ∧
 Ext w1 u393 ∧
 Spec Tryd.prog 13 #[.agg #[.int .i64 e_0, .int .u64 e_1, .int .u64 e_2, .int .i64 e_3, .int .i64 e_4]] u393 (fun v395 u396 =>
 ∃ s397 : ByteArray, v395 = .string s397 ∧
 Ext w1 u396 ∧
 ((ByteArray.toList s394 == ByteArray.toList s397) = true →
 Spec Tryd.prog 14 #[] u396 (fun v398 u399 =>
 ∃ b400 : Bool, v398 = .bool b400 ∧
 Ext w1 u399 ∧
 Q (.bool b400) u399)) ∧
 ((ByteArray.toList s394 == ByteArray.toList s397) = false →
 Ext w1 u396 ∧
 Q (.bool false) u396)))) ∧
 ((ByteArray.toList s370 == ByteArray.toList s373) = false →
 Ext w1 u372 ∧
 Ext w1 u372 ∧
 Ext w1 u372 ∧
 Q (.bool false) u372))))) ∧
 ((ByteArray.toList s4 == ByteArray.toList s7) = false →
 Ext w1 u6 ∧
 Ext w1 u6 ∧
 (Ext w1 u6 ∧
 (Ext w1 u6 ∧
 Ext w1 u6 ∧
 Ext w1 u6 ∧
 Ext w1 u6 ∧
 Q (.bool false) u6)
 ∧ (Ext w1 u6 ∧
 Ext w1 u6 ∧
 Ext w1 u6 ∧
 Ext w1 u6 ∧
 Q (.bool false) u6))
 ∧ (Ext w1 u6 ∧
 Ext w1 u6 ∧
 Ext w1 u6 ∧
 Ext w1 u6 ∧
 Ext w1 u6 ∧
 Q (.bool false) u6)))))
 ∧ (Ext w1 u6 ∧
 (Ext w1 u6 ∧
 (((ByteArray.toList s4 == ByteArray.toList s7) = true →
 Spec Tryd.prog 10 #[.int .i64 c.at_, .agg #[.int .i64 t_0, .int .i64 t_1, .int .i64 t_2, .slice t_3 t_3_l t_3_c]] u6 (fun v401 u402 =>
 ∃ s403 : ByteArray, v401 = .string s403 ∧
 Ext w1 u402 ∧
 (Ext w1 u402 ∧
 Ext w1 u402 ∧
 Spec Tryd.prog 11 #[.int .i64 c.at_, .agg #[.int .i64 t_0, .int .i64 t_1, .int .i64 t_2, .slice t_3 t_3_l t_3_c]] u402 (fun v404 u405 =>
 ∃ s406 : ByteArray, v404 = .string s406 ∧
 Ext w1 u405 ∧
 (Ext w1 u405 ∧
 (((ByteArray.toList s403 == ByteArray.toList s406) = true →
 Spec Tryd.prog 12 #[.agg #[.int .i64 e_0, .int .u64 e_1, .int .u64 e_2, .int .i64 e_3, .int .i64 e_4]] u405 (fun v407 u408 =>
 ∃ s409 : ByteArray, v407 = .string s409 ∧
 Ext w1 u408 ∧
 Ext w1 u408 ∧
 Spec Tryd.prog 13 #[.agg #[.int .i64 e_0, .int .u64 e_1, .int .u64 e_2, .int .i64 e_3, .int .i64 e_4]] u408 (fun v410 u411 =>
 ∃ s412 : ByteArray, v410 = .string s412 ∧
 Ext w1 u411 ∧
 ((ByteArray.toList s409 == ByteArray.toList s412) = true →
 Spec Tryd.prog 14 #[] u411 (fun v413 u414 =>
 ∃ b415 : Bool, v413 = .bool b415 ∧
 Ext w1 u414 ∧
 Q (.bool b415) u414)) ∧
 ((ByteArray.toList s409 == ByteArray.toList s412) = false →
 Ext w1 u411 ∧
 Q (.bool false) u411)))) ∧
 ((ByteArray.toList s403 == ByteArray.toList s406) = false →
 Ext w1 u405 ∧
 Ext w1 u405 ∧
 Ext w1 u405 ∧
 Ext w1 u405 ∧
 Q (.bool false) u405))
 ∧ (Ext w1 u405 ∧
 ((ByteArray.toList s403 == ByteArray.toList s406) = true →
 Spec Tryd.prog 12 #[.agg #[.int .i64 e_0, .int .u64 e_1, .int .u64 e_2, .int .i64 e_3, .int .i64 e_4]] u405 (fun v416 u417 =>
 ∃ s418 : ByteArray, v416 = .string s418 ∧
 Ext w1 u417 ∧
 Spec Tryd.prog 13 #[.agg #[.int .i64 e_0, .int .u64 e_1, .int .u64 e_2, .int .i64 e_3, .int .i64 e_4]] u417 (fun v419 u420 =>
 ∃ s421 : ByteArray, v419 = .string s421 ∧
 Ext w1 u420 ∧
 ((ByteArray.toList s418 == ByteArray.toList s421) = true →
 Spec Tryd.prog 14 #[] u420 (fun v422 u423 =>
 ∃ b424 : Bool, v422 = .bool b424 ∧
 Ext w1 u423 ∧
 Q (.bool b424) u423)) ∧
 ((ByteArray.toList s418 == ByteArray.toList s421) = false →
 Ext w1 u420 ∧
 Q (.bool false) u420)))) ∧
 ((ByteArray.toList s403 == ByteArray.toList s406) = false →
 Ext w1 u405 ∧
 Ext w1 u405 ∧
 Ext w1 u405 ∧
 Q (.bool false) u405)))
 ∧ (Ext w1 u405 ∧
 Ext w1 u405 ∧
 ((ByteArray.toList s403 == ByteArray.toList s406) = true →
 Spec Tryd.prog 12 #[.agg #[.int .i64 e_0, .int .u64 e_1, .int .u64 e_2, .int .i64 e_3, .int .i64 e_4]] u405 (fun v425 u426 =>
 ∃ s427 : ByteArray, v425 = .string s427 ∧
 Ext w1 u426 ∧
 Spec Tryd.prog 13 #[.agg #[.int .i64 e_0, .int .u64 e_1, .int .u64 e_2, .int .i64 e_3, .int .i64 e_4]] u426 (fun v428 u429 =>
 ∃ s430 : ByteArray, v428 = .string s430 ∧
 Ext w1 u429 ∧
 ((ByteArray.toList s427 == ByteArray.toList s430) = true →
 Spec Tryd.prog 14 #[] u429 (fun v431 u432 =>
 ∃ b433 : Bool, v431 = .bool b433 ∧
 Ext w1 u432 ∧
 Q (.bool b433) u432)) ∧
 ((ByteArray.toList s427 == ByteArray.toList s430) = false →
 Ext w1 u429 ∧
 Q (.bool false) u429)))) ∧
 ((ByteArray.toList s403 == ByteArray.toList s406) = false →
 Ext w1 u405 ∧
 Ext w1 u405 ∧
 Ext w1 u405 ∧
 Q (.bool false) u405))))
 ∧ (Ext w1 u402 ∧
 Ext w1 u402 ∧
 Spec Tryd.prog 11 #[.int .i64 c.at_, .agg #[.int .i64 t_0, .int .i64 t_1, .int .i64 t_2, .slice t_3 t_3_l t_3_c]] u402 (fun v434 u435 =>
 ∃ s436 : ByteArray, v434 = .string s436 ∧
 Ext w1 u435 ∧
 (Ext w1 u435 ∧
 (((ByteArray.toList s403 == ByteArray.toList s436) = true →
 Spec Tryd.prog 12 #[.agg #[.int .i64 e_0, .int .u64 e_1, .int .u64 e_2, .int .i64 e_3, .int .i64 e_4]] u435 (fun v437 u438 =>
 ∃ s439 : ByteArray, v437 = .string s439 ∧
 Ext w1 u438 ∧
 Ext w1 u438 ∧
 Spec Tryd.prog 13 #[.agg #[.int .i64 e_0, .int .u64 e_1, .int .u64 e_2, .int .i64 e_3, .int .i64 e_4]] u438 (fun v440 u441 =>
 ∃ s442 : ByteArray, v440 = .string s442 ∧
 Ext w1 u441 ∧
 ((ByteArray.toList s439 == ByteArray.toList s442) = true →
 Spec Tryd.prog 14 #[] u441 (fun v443 u444 =>
 ∃ b445 : Bool, v443 = .bool b445 ∧
 Ext w1 u444 ∧
 Q (.bool b445) u444)) ∧
 ((ByteArray.toList s439 == ByteArray.toList s442) = false →
 Ext w1 u441 ∧
 Q (.bool false) u441)))) ∧
 ((ByteArray.toList s403 == ByteArray.toList s436) = false →
 Ext w1 u435 ∧
 Ext w1 u435 ∧
 Ext w1 u435 ∧
 Ext w1 u435 ∧
 Q (.bool false) u435))
 ∧ (Ext w1 u435 ∧
 ((ByteArray.toList s403 == ByteArray.toList s436) = true →
 Spec Tryd.prog 12 #[.agg #[.int .i64 e_0, .int .u64 e_1, .int .u64 e_2, .int .i64 e_3, .int .i64 e_4]] u435 (fun v446 u447 =>
 ∃ s448 : ByteArray, v446 = .string s448 ∧
 Ext w1 u447 ∧
 Spec Tryd.prog 13 #[.agg #[.int .i64 e_0, .int .u64 e_1, .int .u64 e_2, .int .i64 e_3, .int .i64 e_4]] u447 (fun v449 u450 =>
 ∃ s451 : ByteArray, v449 = .string s451 ∧
 Ext w1 u450 ∧
 ((ByteArray.toList s448 == ByteArray.toList s451) = true →
 Spec Tryd.prog 14 #[] u450 (fun v452 u453 =>
 ∃ b454 : Bool, v452 = .bool b454 ∧
 Ext w1 u453 ∧
 Q (.bool b454) u453)) ∧
 ((ByteArray.toList s448 == ByteArray.toList s451) = false →
 Ext w1 u450 ∧
 Q (.bool false) u450)))) ∧
 ((ByteArray.toList s403 == ByteArray.toList s436) = false →
 Ext w1 u435 ∧
 Ext w1 u435 ∧
 Ext w1 u435 ∧
 Q (.bool false) u435)))
 ∧ (Ext w1 u435 ∧
 Ext w1 u435 ∧
 ((ByteArray.toList s403 == ByteArray.toList s436) = true →
 Spec Tryd.prog 12 #[.agg #[.int .i64 e_0, .int .u64 e_1, .int .u64 e_2, .int .i64 e_3, .int .i64 e_4]] u435 (fun v455 u456 =>
 ∃ s457 : ByteArray, v455 = .string s457 ∧
 Ext w1 u456 ∧
 Spec Tryd.prog 13 #[.agg #[.int .i64 e_0, .int .u64 e_1, .int .u64 e_2, .int .i64 e_3, .int .i64 e_4]] u456 (fun v458 u459 =>
 ∃ s460 : ByteArray, v458 = .string s460 ∧
 Ext w1 u459 ∧
 ((ByteArray.toList s457 == ByteArray.toList s460) = true →
 Spec Tryd.prog 14 #[] u459 (fun v461 u462 =>
 ∃ b463 : Bool, v461 = .bool b463 ∧
 Ext w1 u462 ∧
 Q (.bool b463) u462)) ∧
 ((ByteArray.toList s457 == ByteArray.toList s460) = false →
 Ext w1 u459 ∧
 Q (.bool false) u459)))) ∧
 ((ByteArray.toList s403 == ByteArray.toList s436) = false →
 Ext w1 u435 ∧
 Ext w1 u435 ∧
 Ext w1 u435 ∧
 Q (.bool false) u435)))))) ∧
 ((ByteArray.toList s4 == ByteArray.toList s7) = false →
 Ext w1 u6 ∧
 (Ext w1 u6 ∧
 Ext w1 u6 ∧
 Ext w1 u6 ∧
 (Ext w1 u6 ∧
 (Ext w1 u6 ∧
 Ext w1 u6 ∧
 Ext w1 u6 ∧
 Ext w1 u6 ∧
 Q (.bool false) u6)
 ∧ (Ext w1 u6 ∧
 Ext w1 u6 ∧
 Ext w1 u6 ∧
 Ext w1 u6 ∧
 Q (.bool false) u6))
 ∧ (Ext w1 u6 ∧
 Ext w1 u6 ∧
 Ext w1 u6 ∧
 Ext w1 u6 ∧
 Ext w1 u6 ∧
 Q (.bool false) u6))
 ∧ (Ext w1 u6 ∧
 Ext w1 u6 ∧
 Ext w1 u6 ∧
 (Ext w1 u6 ∧
 (Ext w1 u6 ∧
 Ext w1 u6 ∧
 Ext w1 u6 ∧
 Ext w1 u6 ∧
 Q (.bool false) u6)
 ∧ (Ext w1 u6 ∧
 Ext w1 u6 ∧
 Ext w1 u6 ∧
 Ext w1 u6 ∧
 Q (.bool false) u6))
 ∧ (Ext w1 u6 ∧
 Ext w1 u6 ∧
 Ext w1 u6 ∧
 Ext w1 u6 ∧
 Ext w1 u6 ∧
 Q (.bool false) u6))))
 ∧ (Ext w1 u6 ∧
 (((ByteArray.toList s4 == ByteArray.toList s7) = true →
 Spec Tryd.prog 10 #[.int .i64 c.at_, .agg #[.int .i64 t_0, .int .i64 t_1, .int .i64 t_2, .slice t_3 t_3_l t_3_c]] u6 (fun v464 u465 =>
 ∃ s466 : ByteArray, v464 = .string s466 ∧
 Ext w1 u465 ∧
 Ext w1 u465 ∧
 Spec Tryd.prog 11 #[.int .i64 c.at_, .agg #[.int .i64 t_0, .int .i64 t_1, .int .i64 t_2, .slice t_3 t_3_l t_3_c]] u465 (fun v467 u468 =>
 ∃ s469 : ByteArray, v467 = .string s469 ∧
 Ext w1 u468 ∧
 (Ext w1 u468 ∧
 (((ByteArray.toList s466 == ByteArray.toList s469) = true →
 Spec Tryd.prog 12 #[.agg #[.int .i64 e_0, .int .u64 e_1, .int .u64 e_2, .int .i64 e_3, .int .i64 e_4]] u468 (fun v470 u471 =>
 ∃ s472 : ByteArray, v470 = .string s472 ∧
 Ext w1 u471 ∧
 Ext w1 u471 ∧
 Spec Tryd.prog 13 #[.agg #[.int .i64 e_0, .int .u64 e_1, .int .u64 e_2, .int .i64 e_3, .int .i64 e_4]] u471 (fun v473 u474 =>
 ∃ s475 : ByteArray, v473 = .string s475 ∧
 Ext w1 u474 ∧
 ((ByteArray.toList s472 == ByteArray.toList s475) = true →
 Spec Tryd.prog 14 #[] u474 (fun v476 u477 =>
 ∃ b478 : Bool, v476 = .bool b478 ∧
 Ext w1 u477 ∧
 Q (.bool b478) u477)) ∧
 ((ByteArray.toList s472 == ByteArray.toList s475) = false →
 Ext w1 u474 ∧
 Q (.bool false) u474)))) ∧
 ((ByteArray.toList s466 == ByteArray.toList s469) = false →
 Ext w1 u468 ∧
 Ext w1 u468 ∧
 Ext w1 u468 ∧
 Ext w1 u468 ∧
 Q (.bool false) u468))
 ∧ (Ext w1 u468 ∧
 ((ByteArray.toList s466 == ByteArray.toList s469) = true →
 Spec Tryd.prog 12 #[.agg #[.int .i64 e_0, .int .u64 e_1, .int .u64 e_2, .int .i64 e_3, .int .i64 e_4]] u468 (fun v479 u480 =>
 ∃ s481 : ByteArray, v479 = .string s481 ∧
 Ext w1 u480 ∧
 Spec Tryd.prog 13 #[.agg #[.int .i64 e_0, .int .u64 e_1, .int .u64 e_2, .int .i64 e_3, .int .i64 e_4]] u480 (fun v482 u483 =>
 ∃ s484 : ByteArray, v482 = .string s484 ∧
 Ext w1 u483 ∧
 ((ByteArray.toList s481 == ByteArray.toList s484) = true →
 Spec Tryd.prog 14 #[] u483 (fun v485 u486 =>
 ∃ b487 : Bool, v485 = .bool b487 ∧
 Ext w1 u486 ∧
 Q (.bool b487) u486)) ∧
 ((ByteArray.toList s481 == ByteArray.toList s484) = false →
 Ext w1 u483 ∧
 Q (.bool false) u483)))) ∧
 ((ByteArray.toList s466 == ByteArray.toList s469) = false →
 Ext w1 u468 ∧
 Ext w1 u468 ∧
 Ext w1 u468 ∧
 Q (.bool false) u468)))
 ∧ (Ext w1 u468 ∧
 Ext w1 u468 ∧
 ((ByteArray.toList s466 == ByteArray.toList s469) = true →
 Spec Tryd.prog 12 #[.agg #[.int .i64 e_0, .int .u64 e_1, .int .u64 e_2, .int .i64 e_3, .int .i64 e_4]] u468 (fun v488 u489 =>
 ∃ s490 : ByteArray, v488 = .string s490 ∧
 Ext w1 u489 ∧
 Spec Tryd.prog 13 #[.agg #[.int .i64 e_0, .int .u64 e_1, .int .u64 e_2, .int .i64 e_3, .int .i64 e_4]] u489 (fun v491 u492 =>
 ∃ s493 : ByteArray, v491 = .string s493 ∧
 Ext w1 u492 ∧
 ((ByteArray.toList s490 == ByteArray.toList s493) = true →
 Spec Tryd.prog 14 #[] u492 (fun v494 u495 =>
 ∃ b496 : Bool, v494 = .bool b496 ∧
 Ext w1 u495 ∧
 Q (.bool b496) u495)) ∧
 ((ByteArray.toList s490 == ByteArray.toList s493) = false →
 Ext w1 u492 ∧
 Q (.bool false) u492)))) ∧
 ((ByteArray.toList s466 == ByteArray.toList s469) = false →
 Ext w1 u468 ∧
 Ext w1 u468 ∧
 Ext w1 u468 ∧
 Q (.bool false) u468))))) ∧
 ((ByteArray.toList s4 == ByteArray.toList s7) = false →
 Ext w1 u6 ∧
 Ext w1 u6 ∧
 Ext w1 u6 ∧
 (Ext w1 u6 ∧
 (Ext w1 u6 ∧
 Ext w1 u6 ∧
 Ext w1 u6 ∧
 Ext w1 u6 ∧
 Q (.bool false) u6)
 ∧ (Ext w1 u6 ∧
 Ext w1 u6 ∧
 Ext w1 u6 ∧
 Ext w1 u6 ∧
 Q (.bool false) u6))
 ∧ (Ext w1 u6 ∧
 Ext w1 u6 ∧
 Ext w1 u6 ∧
 Ext w1 u6 ∧
 Ext w1 u6 ∧
 Q (.bool false) u6)))
 ∧ (Ext w1 u6 ∧
 ((ByteArray.toList s4 == ByteArray.toList s7) = true →
 Spec Tryd.prog 10 #[.int .i64 c.at_, .agg #[.int .i64 t_0, .int .i64 t_1, .int .i64 t_2, .slice t_3 t_3_l t_3_c]] u6 (fun v497 u498 =>
 ∃ s499 : ByteArray, v497 = .string s499 ∧
 Ext w1 u498 ∧
 Spec Tryd.prog 11 #[.int .i64 c.at_, .agg #[.int .i64 t_0, .int .i64 t_1, .int .i64 t_2, .slice t_3 t_3_l t_3_c]] u498 (fun v500 u501 =>
 ∃ s502 : ByteArray, v500 = .string s502 ∧
 Ext w1 u501 ∧
 (Ext w1 u501 ∧
 (((ByteArray.toList s499 == ByteArray.toList s502) = true →
 Spec Tryd.prog 12 #[.agg #[.int .i64 e_0, .int .u64 e_1, .int .u64 e_2, .int .i64 e_3, .int .i64 e_4]] u501 (fun v503 u504 =>
 ∃ s505 : ByteArray, v503 = .string s505 ∧
 Ext w1 u504 ∧
 Ext w1 u504 ∧
 Spec Tryd.prog 13 #[.agg #[.int .i64 e_0, .int .u64 e_1, .int .u64 e_2, .int .i64 e_3, .int .i64 e_4]] u504 (fun v506 u507 =>
 ∃ s508 : ByteArray, v506 = .string s508 ∧
 Ext w1 u507 ∧
 ((ByteArray.toList s505 == ByteArray.toList s508) = true →
 Spec Tryd.prog 14 #[] u507 (fun v509 u510 =>
 ∃ b511 : Bool, v509 = .bool b511 ∧
 Ext w1 u510 ∧
 Q (.bool b511) u510)) ∧
 ((ByteArray.toList s505 == ByteArray.toList s508) = false →
 Ext w1 u507 ∧
 Q (.bool false) u507)))) ∧
 ((ByteArray.toList s499 == ByteArray.toList s502) = false →
 Ext w1 u501 ∧
 Ext w1 u501 ∧
 Ext w1 u501 ∧
 Ext w1 u501 ∧
 Q (.bool false) u501))
 ∧ (Ext w1 u501 ∧
 ((ByteArray.toList s499 == ByteArray.toList s502) = true →
 Spec Tryd.prog 12 #[.agg #[.int .i64 e_0, .int .u64 e_1, .int .u64 e_2, .int .i64 e_3, .int .i64 e_4]] u501 (fun v512 u513 =>
 ∃ s514 : ByteArray, v512 = .string s514 ∧
 Ext w1 u513 ∧
 Spec Tryd.prog 13 #[.agg #[.int .i64 e_0, .int .u64 e_1, .int .u64 e_2, .int .i64 e_3, .int .i64 e_4]] u513 (fun v515 u516 =>
 ∃ s517 : ByteArray, v515 = .string s517 ∧
 Ext w1 u516 ∧
 ((ByteArray.toList s514 == ByteArray.toList s517) = true →
 Spec Tryd.prog 14 #[] u516 (fun v518 u519 =>
 ∃ b520 : Bool, v518 = .bool b520 ∧
 Ext w1 u519 ∧
 Q (.bool b520) u519)) ∧
 ((ByteArray.toList s514 == ByteArray.toList s517) = false →
 Ext w1 u516 ∧
 Q (.bool false) u516)))) ∧
 ((ByteArray.toList s499 == ByteArray.toList s502) = false →
 Ext w1 u501 ∧
 Ext w1 u501 ∧
 Ext w1 u501 ∧
 Q (.bool false) u501)))
 ∧ (Ext w1 u501 ∧
 Ext w1 u501 ∧
 ((ByteArray.toList s499 == ByteArray.toList s502) = true →
 Spec Tryd.prog 12 #[.agg #[.int .i64 e_0, .int .u64 e_1, .int .u64 e_2, .int .i64 e_3, .int .i64 e_4]] u501 (fun v521 u522 =>
 ∃ s523 : ByteArray, v521 = .string s523 ∧
 Ext w1 u522 ∧
 Spec Tryd.prog 13 #[.agg #[.int .i64 e_0, .int .u64 e_1, .int .u64 e_2, .int .i64 e_3, .int .i64 e_4]] u522 (fun v524 u525 =>
 ∃ s526 : ByteArray, v524 = .string s526 ∧
 Ext w1 u525 ∧
 ((ByteArray.toList s523 == ByteArray.toList s526) = true →
 Spec Tryd.prog 14 #[] u525 (fun v527 u528 =>
 ∃ b529 : Bool, v527 = .bool b529 ∧
 Ext w1 u528 ∧
 Q (.bool b529) u528)) ∧
 ((ByteArray.toList s523 == ByteArray.toList s526) = false →
 Ext w1 u525 ∧
 Q (.bool false) u525)))) ∧
 ((ByteArray.toList s499 == ByteArray.toList s502) = false →
 Ext w1 u501 ∧
 Ext w1 u501 ∧
 Ext w1 u501 ∧
 Q (.bool false) u501))))) ∧
 ((ByteArray.toList s4 == ByteArray.toList s7) = false →
 Ext w1 u6 ∧
 Ext w1 u6 ∧
 (Ext w1 u6 ∧
 (Ext w1 u6 ∧
 Ext w1 u6 ∧
 Ext w1 u6 ∧
 Ext w1 u6 ∧
 Q (.bool false) u6)
 ∧ (Ext w1 u6 ∧
 Ext w1 u6 ∧
 Ext w1 u6 ∧
 Ext w1 u6 ∧
 Q (.bool false) u6))
 ∧ (Ext w1 u6 ∧
 Ext w1 u6 ∧
 Ext w1 u6 ∧
 Ext w1 u6 ∧
 Ext w1 u6 ∧
 Q (.bool false) u6))))
 ∧ (Ext w1 u6 ∧
 (((ByteArray.toList s4 == ByteArray.toList s7) = true →
 Spec Tryd.prog 10 #[.int .i64 c.at_, .agg #[.int .i64 t_0, .int .i64 t_1, .int .i64 t_2, .slice t_3 t_3_l t_3_c]] u6 (fun v530 u531 =>
 ∃ s532 : ByteArray, v530 = .string s532 ∧
 Ext w1 u531 ∧
 Ext w1 u531 ∧
 Spec Tryd.prog 11 #[.int .i64 c.at_, .agg #[.int .i64 t_0, .int .i64 t_1, .int .i64 t_2, .slice t_3 t_3_l t_3_c]] u531 (fun v533 u534 =>
 ∃ s535 : ByteArray, v533 = .string s535 ∧
 Ext w1 u534 ∧
 (Ext w1 u534 ∧
 (((ByteArray.toList s532 == ByteArray.toList s535) = true →
 Spec Tryd.prog 12 #[.agg #[.int .i64 e_0, .int .u64 e_1, .int .u64 e_2, .int .i64 e_3, .int .i64 e_4]] u534 (fun v536 u537 =>
 ∃ s538 : ByteArray, v536 = .string s538 ∧
 Ext w1 u537 ∧
 Ext w1 u537 ∧
 Spec Tryd.prog 13 #[.agg #[.int .i64 e_0, .int .u64 e_1, .int .u64 e_2, .int .i64 e_3, .int .i64 e_4]] u537 (fun v539 u540 =>
 ∃ s541 : ByteArray, v539 = .string s541 ∧
 Ext w1 u540 ∧
 ((ByteArray.toList s538 == ByteArray.toList s541) = true →
 Spec Tryd.prog 14 #[] u540 (fun v542 u543 =>
 ∃ b544 : Bool, v542 = .bool b544 ∧
 Ext w1 u543 ∧
 Q (.bool b544) u543)) ∧
 ((ByteArray.toList s538 == ByteArray.toList s541) = false →
 Ext w1 u540 ∧
 Q (.bool false) u540)))) ∧
 ((ByteArray.toList s532 == ByteArray.toList s535) = false →
 Ext w1 u534 ∧
 Ext w1 u534 ∧
 Ext w1 u534 ∧
 Ext w1 u534 ∧
 Q (.bool false) u534))
 ∧ (Ext w1 u534 ∧
 ((ByteArray.toList s532 == ByteArray.toList s535) = true →
 Spec Tryd.prog 12 #[.agg #[.int .i64 e_0, .int .u64 e_1, .int .u64 e_2, .int .i64 e_3, .int .i64 e_4]] u534 (fun v545 u546 =>
 ∃ s547 : ByteArray, v545 = .string s547 ∧
 Ext w1 u546 ∧
 Spec Tryd.prog 13 #[.agg #[.int .i64 e_0, .int .u64 e_1, .int .u64 e_2, .int .i64 e_3, .int .i64 e_4]] u546 (fun v548 u549 =>
 ∃ s550 : ByteArray, v548 = .string s550 ∧
 Ext w1 u549 ∧
 ((ByteArray.toList s547 == ByteArray.toList s550) = true →
 Spec Tryd.prog 14 #[] u549 (fun v551 u552 =>
 ∃ b553 : Bool, v551 = .bool b553 ∧
 Ext w1 u552 ∧
 Q (.bool b553) u552)) ∧
 ((ByteArray.toList s547 == ByteArray.toList s550) = false →
 Ext w1 u549 ∧
 Q (.bool false) u549)))) ∧
 ((ByteArray.toList s532 == ByteArray.toList s535) = false →
 Ext w1 u534 ∧
 Ext w1 u534 ∧
 Ext w1 u534 ∧
 Q (.bool false) u534)))
 ∧ (Ext w1 u534 ∧
 Ext w1 u534 ∧
 ((ByteArray.toList s532 == ByteArray.toList s535) = true →
 Spec Tryd.prog 12 #[.agg #[.int .i64 e_0, .int .u64 e_1, .int .u64 e_2, .int .i64 e_3, .int .i64 e_4]] u534 (fun v554 u555 =>
 ∃ s556 : ByteArray, v554 = .string s556 ∧
 Ext w1 u555 ∧
 Spec Tryd.prog 13 #[.agg #[.int .i64 e_0, .int .u64 e_1, .int .u64 e_2, .int .i64 e_3, .int .i64 e_4]] u555 (fun v557 u558 =>
 ∃ s559 : ByteArray, v557 = .string s559 ∧
 Ext w1 u558 ∧
 ((ByteArray.toList s556 == ByteArray.toList s559) = true →
 Spec Tryd.prog 14 #[] u558 (fun v560 u561 =>
 ∃ b562 : Bool, v560 = .bool b562 ∧
 Ext w1 u561 ∧
 Q (.bool b562) u561)) ∧
 ((ByteArray.toList s556 == ByteArray.toList s559) = false →
 Ext w1 u558 ∧
 Q (.bool false) u558)))) ∧
 ((ByteArray.toList s532 == ByteArray.toList s535) = false →
 Ext w1 u534 ∧
 Ext w1 u534 ∧
 Ext w1 u534 ∧
 Q (.bool false) u534))))) ∧
 ((ByteArray.toList s4 == ByteArray.toList s7) = false →
 Ext w1 u6 ∧
 Ext w1 u6 ∧
 Ext w1 u6 ∧
 (Ext w1 u6 ∧
 (Ext w1 u6 ∧
 Ext w1 u6 ∧
 Ext w1 u6 ∧
 Ext w1 u6 ∧
 Q (.bool false) u6)
 ∧ (Ext w1 u6 ∧
 Ext w1 u6 ∧
 Ext w1 u6 ∧
 Ext w1 u6 ∧
 Q (.bool false) u6))
 ∧ (Ext w1 u6 ∧
 Ext w1 u6 ∧
 Ext w1 u6 ∧
 Ext w1 u6 ∧
 Ext w1 u6 ∧
 Q (.bool false) u6)))
 ∧ (Ext w1 u6 ∧
 ((ByteArray.toList s4 == ByteArray.toList s7) = true →
 Spec Tryd.prog 10 #[.int .i64 c.at_, .agg #[.int .i64 t_0, .int .i64 t_1, .int .i64 t_2, .slice t_3 t_3_l t_3_c]] u6 (fun v563 u564 =>
 ∃ s565 : ByteArray, v563 = .string s565 ∧
 Ext w1 u564 ∧
 Spec Tryd.prog 11 #[.int .i64 c.at_, .agg #[.int .i64 t_0, .int .i64 t_1, .int .i64 t_2, .slice t_3 t_3_l t_3_c]] u564 (fun v566 u567 =>
 ∃ s568 : ByteArray, v566 = .string s568 ∧
 Ext w1 u567 ∧
 (Ext w1 u567 ∧
 (((ByteArray.toList s565 == ByteArray.toList s568) = true →
 Spec Tryd.prog 12 #[.agg #[.int .i64 e_0, .int .u64 e_1, .int .u64 e_2, .int .i64 e_3, .int .i64 e_4]] u567 (fun v569 u570 =>
 ∃ s571 : ByteArray, v569 = .string s571 ∧
 Ext w1 u570 ∧
 Ext w1 u570 ∧
 Spec Tryd.prog 13 #[.agg #[.int .i64 e_0, .int .u64 e_1, .int .u64 e_2, .int .i64 e_3, .int .i64 e_4]] u570 (fun v572 u573 =>
 ∃ s574 : ByteArray, v572 = .string s574 ∧
 Ext w1 u573 ∧
 ((ByteArray.toList s571 == ByteArray.toList s574) = true →
 Spec Tryd.prog 14 #[] u573 (fun v575 u576 =>
 ∃ b577 : Bool, v575 = .bool b577 ∧
 Ext w1 u576 ∧
 Q (.bool b577) u576)) ∧
 ((ByteArray.toList s571 == ByteArray.toList s574) = false →
 Ext w1 u573 ∧
 Q (.bool false) u573)))) ∧
 ((ByteArray.toList s565 == ByteArray.toList s568) = false →
 Ext w1 u567 ∧
 Ext w1 u567 ∧
 Ext w1 u567 ∧
 Ext w1 u567 ∧
 Q (.bool false) u567))
 ∧ (Ext w1 u567 ∧
 ((ByteArray.toList s565 == ByteArray.toList s568) = true →
 Spec Tryd.prog 12 #[.agg #[.int .i64 e_0, .int .u64 e_1, .int .u64 e_2, .int .i64 e_3, .int .i64 e_4]] u567 (fun v578 u579 =>
 ∃ s580 : ByteArray, v578 = .string s580 ∧
 Ext w1 u579 ∧
 Spec Tryd.prog 13 #[.agg #[.int .i64 e_0, .int .u64 e_1, .int .u64 e_2, .int .i64 e_3, .int .i64 e_4]] u579 (fun v581 u582 =>
 ∃ s583 : ByteArray, v581 = .string s583 ∧
 Ext w1 u582 ∧
 ((ByteArray.toList s580 == ByteArray.toList s583) = true →
 Spec Tryd.prog 14 #[] u582 (fun v584 u585 =>
 ∃ b586 : Bool, v584 = .bool b586 ∧
 Ext w1 u585 ∧
 Q (.bool b586) u585)) ∧
 ((ByteArray.toList s580 == ByteArray.toList s583) = false →
 Ext w1 u582 ∧
 Q (.bool false) u582)))) ∧
 ((ByteArray.toList s565 == ByteArray.toList s568) = false →
 Ext w1 u567 ∧
 Ext w1 u567 ∧
 Ext w1 u567 ∧
 Q (.bool false) u567)))
 ∧ (Ext w1 u567 ∧
 Ext w1 u567 ∧
 ((ByteArray.toList s565 == ByteArray.toList s568) = true →
 Spec Tryd.prog 12 #[.agg #[.int .i64 e_0, .int .u64 e_1, .int .u64 e_2, .int .i64 e_3, .int .i64 e_4]] u567 (fun v587 u588 =>
 ∃ s589 : ByteArray, v587 = .string s589 ∧
 Ext w1 u588 ∧
 Spec Tryd.prog 13 #[.agg #[.int .i64 e_0, .int .u64 e_1, .int .u64 e_2, .int .i64 e_3, .int .i64 e_4]] u588 (fun v590 u591 =>
 ∃ s592 : ByteArray, v590 = .string s592 ∧
 Ext w1 u591 ∧
 ((ByteArray.toList s589 == ByteArray.toList s592) = true →
 Spec Tryd.prog 14 #[] u591 (fun v593 u594 =>
 ∃ b595 : Bool, v593 = .bool b595 ∧
 Ext w1 u594 ∧
 Q (.bool b595) u594)) ∧
 ((ByteArray.toList s589 == ByteArray.toList s592) = false →
 Ext w1 u591 ∧
 Q (.bool false) u591)))) ∧
 ((ByteArray.toList s565 == ByteArray.toList s568) = false →
 Ext w1 u567 ∧
 Ext w1 u567 ∧
 Ext w1 u567 ∧
 Q (.bool false) u567))))) ∧
 ((ByteArray.toList s4 == ByteArray.toList s7) = false →
 Ext w1 u6 ∧
 Ext w1 u6 ∧
 (Ext w1 u6 ∧
 (Ext w1 u6 ∧
 Ext w1 u6 ∧
 Ext w1 u6 ∧
 Ext w1 u6 ∧
 Q (.bool false) u6)
 ∧ (Ext w1 u6 ∧
 Ext w1 u6 ∧
 Ext w1 u6 ∧
 Ext w1 u6 ∧
 Q (.bool false) u6))
 ∧ (Ext w1 u6 ∧
 Ext w1 u6 ∧
 Ext w1 u6 ∧
 Ext w1 u6 ∧
 Ext w1 u6 ∧
 Q (.bool false) u6)))))
 ∧ (Ext w1 u6 ∧
 (Ext w1 u6 ∧
 (((ByteArray.toList s4 == ByteArray.toList s7) = true →
 Spec Tryd.prog 10 #[.int .i64 c.at_, .agg #[.int .i64 t_0, .int .i64 t_1, .int .i64 t_2, .slice t_3 t_3_l t_3_c]] u6 (fun v596 u597 =>
 ∃ s598 : ByteArray, v596 = .string s598 ∧
 Ext w1 u597 ∧
 Ext w1 u597 ∧
 Spec Tryd.prog 11 #[.int .i64 c.at_, .agg #[.int .i64 t_0, .int .i64 t_1, .int .i64 t_2, .slice t_3 t_3_l t_3_c]] u597 (fun v599 u600 =>
 ∃ s601 : ByteArray, v599 = .string s601 ∧
 Ext w1 u600 ∧
 (Ext w1 u600 ∧
 (((ByteArray.toList s598 == ByteArray.toList s601) = true →
 Spec Tryd.prog 12 #[.agg #[.int .i64 e_0, .int .u64 e_1, .int .u64 e_2, .int .i64 e_3, .int .i64 e_4]] u600 (fun v602 u603 =>
 ∃ s604 : ByteArray, v602 = .string s604 ∧
 Ext w1 u603 ∧
 Ext w1 u603 ∧
 Spec Tryd.prog 13 #[.agg #[.int .i64 e_0, .int .u64 e_1, .int .u64 e_2, .int .i64 e_3, .int .i64 e_4]] u603 (fun v605 u606 =>
 ∃ s607 : ByteArray, v605 = .string s607 ∧
 Ext w1 u606 ∧
 ((ByteArray.toList s604 == ByteArray.toList s607) = true →
 Spec Tryd.prog 14 #[] u606 (fun v608 u609 =>
 ∃ b610 : Bool, v608 = .bool b610 ∧
 Ext w1 u609 ∧
 Q (.bool b610) u609)) ∧
 ((ByteArray.toList s604 == ByteArray.toList s607) = false →
 Ext w1 u606 ∧
 Q (.bool false) u606)))) ∧
 ((ByteArray.toList s598 == ByteArray.toList s601) = false →
 Ext w1 u600 ∧
 Ext w1 u600 ∧
 Ext w1 u600 ∧
 Ext w1 u600 ∧
 Q (.bool false) u600))
 ∧ (Ext w1 u600 ∧
 ((ByteArray.toList s598 == ByteArray.toList s601) = true →
 Spec Tryd.prog 12 #[.agg #[.int .i64 e_0, .int .u64 e_1, .int .u64 e_2, .int .i64 e_3, .int .i64 e_4]] u600 (fun v611 u612 =>
 ∃ s613 : ByteArray, v611 = .string s613 ∧
 Ext w1 u612 ∧
 Spec Tryd.prog 13 #[.agg #[.int .i64 e_0, .int .u64 e_1, .int .u64 e_2, .int .i64 e_3, .int .i64 e_4]] u612 (fun v614 u615 =>
 ∃ s616 : ByteArray, v614 = .string s616 ∧
 Ext w1 u615 ∧
 ((ByteArray.toList s613 == ByteArray.toList s616) = true →
 Spec Tryd.prog 14 #[] u615 (fun v617 u618 =>
 ∃ b619 : Bool, v617 = .bool b619 ∧
 Ext w1 u618 ∧
 Q (.bool b619) u618)) ∧
 ((ByteArray.toList s613 == ByteArray.toList s616) = false →
 Ext w1 u615 ∧
 Q (.bool false) u615)))) ∧
 ((ByteArray.toList s598 == ByteArray.toList s601) = false →
 Ext w1 u600 ∧
 Ext w1 u600 ∧
 Ext w1 u600 ∧
 Q (.bool false) u600)))
 ∧ (Ext w1 u600 ∧
 Ext w1 u600 ∧
 ((ByteArray.toList s598 == ByteArray.toList s601) = true →
 Spec Tryd.prog 12 #[.agg #[.int .i64 e_0, .int .u64 e_1, .int .u64 e_2, .int .i64 e_3, .int .i64 e_4]] u600 (fun v620 u621 =>
 ∃ s622 : ByteArray, v620 = .string s622 ∧
 Ext w1 u621 ∧
 Spec Tryd.prog 13 #[.agg #[.int .i64 e_0, .int .u64 e_1, .int .u64 e_2, .int .i64 e_3, .int .i64 e_4]] u621 (fun v623 u624 =>
 ∃ s625 : ByteArray, v623 = .string s625 ∧
 Ext w1 u624 ∧
 ((ByteArray.toList s622 == ByteArray.toList s625) = true →
 Spec Tryd.prog 14 #[] u624 (fun v626 u627 =>
 ∃ b628 : Bool, v626 = .bool b628 ∧
 Ext w1 u627 ∧
 Q (.bool b628) u627)) ∧
 ((ByteArray.toList s622 == ByteArray.toList s625) = false →
 Ext w1 u624 ∧
 Q (.bool false) u624)))) ∧
 ((ByteArray.toList s598 == ByteArray.toList s601) = false →
 Ext w1 u600 ∧
 Ext w1 u600 ∧
 Ext w1 u600 ∧
 Q (.bool false) u600))))) ∧
 ((ByteArray.toList s4 == ByteArray.toList s7) = false →
 Ext w1 u6 ∧
 Ext w1 u6 ∧
 Ext w1 u6 ∧
 (Ext w1 u6 ∧
 (Ext w1 u6 ∧
 Ext w1 u6 ∧
 Ext w1 u6 ∧
 Ext w1 u6 ∧
 Q (.bool false) u6)
 ∧ (Ext w1 u6 ∧
 Ext w1 u6 ∧
 Ext w1 u6 ∧
 Ext w1 u6 ∧
 Q (.bool false) u6))
 ∧ (Ext w1 u6 ∧
 Ext w1 u6 ∧
 Ext w1 u6 ∧
 Ext w1 u6 ∧
 Ext w1 u6 ∧
 Q (.bool false) u6)))
 ∧ (Ext w1 u6 ∧
 ((ByteArray.toList s4 == ByteArray.toList s7) = true →
 Spec Tryd.prog 10 #[.int .i64 c.at_, .agg #[.int .i64 t_0, .int .i64 t_1, .int .i64 t_2, .slice t_3 t_3_l t_3_c]] u6 (fun v629 u630 =>
 ∃ s631 : ByteArray, v629 = .string s631 ∧
 Ext w1 u630 ∧
 Spec Tryd.prog 11 #[.int .i64 c.at_, .agg #[.int .i64 t_0, .int .i64 t_1, .int .i64 t_2, .slice t_3 t_3_l t_3_c]] u630 (fun v632 u633 =>
 ∃ s634 : ByteArray, v632 = .string s634 ∧
 Ext w1 u633 ∧
 (Ext w1 u633 ∧
 (((ByteArray.toList s631 == ByteArray.toList s634) = true →
 Spec Tryd.prog 12 #[.agg #[.int .i64 e_0, .int .u64 e_1, .int .u64 e_2, .int .i64 e_3, .int .i64 e_4]] u633 (fun v635 u636 =>
 ∃ s637 : ByteArray, v635 = .string s637 ∧
 Ext w1 u636 ∧
 Ext w1 u636 ∧
 Spec Tryd.prog 13 #[.agg #[.int .i64 e_0, .int .u64 e_1, .int .u64 e_2, .int .i64 e_3, .int .i64 e_4]] u636 (fun v638 u639 =>
 ∃ s640 : ByteArray, v638 = .string s640 ∧
 Ext w1 u639 ∧
 ((ByteArray.toList s637 == ByteArray.toList s640) = true →
 Spec Tryd.prog 14 #[] u639 (fun v641 u642 =>
 ∃ b643 : Bool, v641 = .bool b643 ∧
 Ext w1 u642 ∧
 Q (.bool b643) u642)) ∧
 ((ByteArray.toList s637 == ByteArray.toList s640) = false →
 Ext w1 u639 ∧
 Q (.bool false) u639)))) ∧
 ((ByteArray.toList s631 == ByteArray.toList s634) = false →
 Ext w1 u633 ∧
 Ext w1 u633 ∧
 Ext w1 u633 ∧
 Ext w1 u633 ∧
 Q (.bool false) u633))
 ∧ (Ext w1 u633 ∧
 ((ByteArray.toList s631 == ByteArray.toList s634) = true →
 Spec Tryd.prog 12 #[.agg #[.int .i64 e_0, .int .u64 e_1, .int .u64 e_2, .int .i64 e_3, .int .i64 e_4]] u633 (fun v644 u645 =>
 ∃ s646 : ByteArray, v644 = .string s646 ∧
 Ext w1 u645 ∧
 Spec Tryd.prog 13 #[.agg #[.int .i64 e_0, .int .u64 e_1, .int .u64 e_2, .int .i64 e_3, .int .i64 e_4]] u645 (fun v647 u648 =>
 ∃ s649 : ByteArray, v647 = .string s649 ∧
 Ext w1 u648 ∧
 ((ByteArray.toList s646 == ByteArray.toList s649) = true →
 Spec Tryd.prog 14 #[] u648 (fun v650 u651 =>
 ∃ b652 : Bool, v650 = .bool b652 ∧
 Ext w1 u651 ∧
 Q (.bool b652) u651)) ∧
 ((ByteArray.toList s646 == ByteArray.toList s649) = false →
 Ext w1 u648 ∧
 Q (.bool false) u648)))) ∧
 ((ByteArray.toList s631 == ByteArray.toList s634) = false →
 Ext w1 u633 ∧
 Ext w1 u633 ∧
 Ext w1 u633 ∧
 Q (.bool false) u633)))
 ∧ (Ext w1 u633 ∧
 Ext w1 u633 ∧
 ((ByteArray.toList s631 == ByteArray.toList s634) = true →
 Spec Tryd.prog 12 #[.agg #[.int .i64 e_0, .int .u64 e_1, .int .u64 e_2, .int .i64 e_3, .int .i64 e_4]] u633 (fun v653 u654 =>
 ∃ s655 : ByteArray, v653 = .string s655 ∧
 Ext w1 u654 ∧
 Spec Tryd.prog 13 #[.agg #[.int .i64 e_0, .int .u64 e_1, .int .u64 e_2, .int .i64 e_3, .int .i64 e_4]] u654 (fun v656 u657 =>
 ∃ s658 : ByteArray, v656 = .string s658 ∧
 Ext w1 u657 ∧
 ((ByteArray.toList s655 == ByteArray.toList s658) = true →
 Spec Tryd.prog 14 #[] u657 (fun v659 u660 =>
 ∃ b661 : Bool, v659 = .bool b661 ∧
 Ext w1 u660 ∧
 Q (.bool b661) u660)) ∧
 ((ByteArray.toList s655 == ByteArray.toList s658) = false →
 Ext w1 u657 ∧
 Q (.bool false) u657)))) ∧
 ((ByteArray.toList s631 == ByteArray.toList s634) = false →
 Ext w1 u633 ∧
 Ext w1 u633 ∧
 Ext w1 u633 ∧
 Q (.bool false) u633))))) ∧
 ((ByteArray.toList s4 == ByteArray.toList s7) = false →
 Ext w1 u6 ∧
 Ext w1 u6 ∧
 (Ext w1 u6 ∧
 (Ext w1 u6 ∧
 Ext w1 u6 ∧
 Ext w1 u6 ∧
 Ext w1 u6 ∧
 Q (.bool false) u6)
 ∧ (Ext w1 u6 ∧
 Ext w1 u6 ∧
 Ext w1 u6 ∧
 Ext w1 u6 ∧
 Q (.bool false) u6))
 ∧ (Ext w1 u6 ∧
 Ext w1 u6 ∧
 Ext w1 u6 ∧
 Ext w1 u6 ∧
 Ext w1 u6 ∧
 Q (.bool false) u6))))
 ∧ (Ext w1 u6 ∧
 Ext w1 u6 ∧
 ((ByteArray.toList s4 == ByteArray.toList s7) = true →
 Spec Tryd.prog 10 #[.int .i64 c.at_, .agg #[.int .i64 t_0, .int .i64 t_1, .int .i64 t_2, .slice t_3 t_3_l t_3_c]] u6 (fun v662 u663 =>
 ∃ s664 : ByteArray, v662 = .string s664 ∧
 Ext w1 u663 ∧
 Spec Tryd.prog 11 #[.int .i64 c.at_, .agg #[.int .i64 t_0, .int .i64 t_1, .int .i64 t_2, .slice t_3 t_3_l t_3_c]] u663 (fun v665 u666 =>
 ∃ s667 : ByteArray, v665 = .string s667 ∧
 Ext w1 u666 ∧
 (Ext w1 u666 ∧
 (((ByteArray.toList s664 == ByteArray.toList s667) = true →
 Spec Tryd.prog 12 #[.agg #[.int .i64 e_0, .int .u64 e_1, .int .u64 e_2, .int .i64 e_3, .int .i64 e_4]] u666 (fun v668 u669 =>
 ∃ s670 : ByteArray, v668 = .string s670 ∧
 Ext w1 u669 ∧
 Ext w1 u669 ∧
 Spec Tryd.prog 13 #[.agg #[.int .i64 e_0, .int .u64 e_1, .int .u64 e_2, .int .i64 e_3, .int .i64 e_4]] u669 (fun v671 u672 =>
 ∃ s673 : ByteArray, v671 = .string s673 ∧
 Ext w1 u672 ∧
 ((ByteArray.toList s670 == ByteArray.toList s673) = true →
 Spec Tryd.prog 14 #[] u672 (fun v674 u675 =>
 ∃ b676 : Bool, v674 = .bool b676 ∧
 Ext w1 u675 ∧
 Q (.bool b676) u675)) ∧
 ((ByteArray.toList s670 == ByteArray.toList s673) = false →
 Ext w1 u672 ∧
 Q (.bool false) u672)))) ∧
 ((ByteArray.toList s664 == ByteArray.toList s667) = false →
 Ext w1 u666 ∧
 Ext w1 u666 ∧
 Ext w1 u666 ∧
 Ext w1 u666 ∧
 Q (.bool false) u666))
 ∧ (Ext w1 u666 ∧
 ((ByteArray.toList s664 == ByteArray.toList s667) = true →
 Spec Tryd.prog 12 #[.agg #[.int .i64 e_0, .int .u64 e_1, .int .u64 e_2, .int .i64 e_3, .int .i64 e_4]] u666 (fun v677 u678 =>
 ∃ s679 : ByteArray, v677 = .string s679 ∧
 Ext w1 u678 ∧
 Spec Tryd.prog 13 #[.agg #[.int .i64 e_0, .int .u64 e_1, .int .u64 e_2, .int .i64 e_3, .int .i64 e_4]] u678 (fun v680 u681 =>
 ∃ s682 : ByteArray, v680 = .string s682 ∧
 Ext w1 u681 ∧
 ((ByteArray.toList s679 == ByteArray.toList s682) = true →
 Spec Tryd.prog 14 #[] u681 (fun v683 u684 =>
 ∃ b685 : Bool, v683 = .bool b685 ∧
 Ext w1 u684 ∧
 Q (.bool b685) u684)) ∧
 ((ByteArray.toList s679 == ByteArray.toList s682) = false →
 Ext w1 u681 ∧
 Q (.bool false) u681)))) ∧
 ((ByteArray.toList s664 == ByteArray.toList s667) = false →
 Ext w1 u666 ∧
 Ext w1 u666 ∧
 Ext w1 u666 ∧
 Q (.bool false) u666)))
 ∧ (Ext w1 u666 ∧
 Ext w1 u666 ∧
 ((ByteArray.toList s664 == ByteArray.toList s667) = true →
 Spec Tryd.prog 12 #[.agg #[.int .i64 e_0, .int .u64 e_1, .int .u64 e_2, .int .i64 e_3, .int .i64 e_4]] u666 (fun v686 u687 =>
 ∃ s688 : ByteArray, v686 = .string s688 ∧
 Ext w1 u687 ∧
 Spec Tryd.prog 13 #[.agg #[.int .i64 e_0, .int .u64 e_1, .int .u64 e_2, .int .i64 e_3, .int .i64 e_4]] u687 (fun v689 u690 =>
 ∃ s691 : ByteArray, v689 = .string s691 ∧
 Ext w1 u690 ∧
 ((ByteArray.toList s688 == ByteArray.toList s691) = true →
 Spec Tryd.prog 14 #[] u690 (fun v692 u693 =>
 ∃ b694 : Bool, v692 = .bool b694 ∧
 Ext w1 u693 ∧
 Q (.bool b694) u693)) ∧
 ((ByteArray.toList s688 == ByteArray.toList s691) = false →
 Ext w1 u690 ∧
 Q (.bool false) u690)))) ∧
 ((ByteArray.toList s664 == ByteArray.toList s667) = false →
 Ext w1 u666 ∧
 Ext w1 u666 ∧
 Ext w1 u666 ∧
 Q (.bool false) u666))))) ∧
 ((ByteArray.toList s4 == ByteArray.toList s7) = false →
 Ext w1 u6 ∧
 Ext w1 u6 ∧
 (Ext w1 u6 ∧
 (Ext w1 u6 ∧
 Ext w1 u6 ∧
 Ext w1 u6 ∧
 Ext w1 u6 ∧
 Q (.bool false) u6)
 ∧ (Ext w1 u6 ∧
 Ext w1 u6 ∧
 Ext w1 u6 ∧
 Ext w1 u6 ∧
 Q (.bool false) u6))
 ∧ (Ext w1 u6 ∧
 Ext w1 u6 ∧
 Ext w1 u6 ∧
 Ext w1 u6 ∧
 Ext w1 u6 ∧
 Q (.bool false) u6))))
 ∧ (Ext w1 u6 ∧
 (Ext w1 u6 ∧
 (((ByteArray.toList s4 == ByteArray.toList s7) = true →
 Spec Tryd.prog 10 #[.int .i64 c.at_, .agg #[.int .i64 t_0, .int .i64 t_1, .int .i64 t_2, .slice t_3 t_3_l t_3_c]] u6 (fun v695 u696 =>
 ∃ s697 : ByteArray, v695 = .string s697 ∧
 Ext w1 u696 ∧
 Ext w1 u696 ∧
 Spec Tryd.prog 11 #[.int .i64 c.at_, .agg #[.int .i64 t_0, .int .i64 t_1, .int .i64 t_2, .slice t_3 t_3_l t_3_c]] u696 (fun v698 u699 =>
 ∃ s700 : ByteArray, v698 = .string s700 ∧
 Ext w1 u699 ∧
 (Ext w1 u699 ∧
 (((ByteArray.toList s697 == ByteArray.toList s700) = true →
 Spec Tryd.prog 12 #[.agg #[.int .i64 e_0, .int .u64 e_1, .int .u64 e_2, .int .i64 e_3, .int .i64 e_4]] u699 (fun v701 u702 =>
 ∃ s703 : ByteArray, v701 = .string s703 ∧
 Ext w1 u702 ∧
 Ext w1 u702 ∧
 Spec Tryd.prog 13 #[.agg #[.int .i64 e_0, .int .u64 e_1, .int .u64 e_2, .int .i64 e_3, .int .i64 e_4]] u702 (fun v704 u705 =>
 ∃ s706 : ByteArray, v704 = .string s706 ∧
 Ext w1 u705 ∧
 ((ByteArray.toList s703 == ByteArray.toList s706) = true →
 Spec Tryd.prog 14 #[] u705 (fun v707 u708 =>
 ∃ b709 : Bool, v707 = .bool b709 ∧
 Ext w1 u708 ∧
 Q (.bool b709) u708)) ∧
 ((ByteArray.toList s703 == ByteArray.toList s706) = false →
 Ext w1 u705 ∧
 Q (.bool false) u705)))) ∧
 ((ByteArray.toList s697 == ByteArray.toList s700) = false →
 Ext w1 u699 ∧
 Ext w1 u699 ∧
 Ext w1 u699 ∧
 Ext w1 u699 ∧
 Q (.bool false) u699))
 ∧ (Ext w1 u699 ∧
 ((ByteArray.toList s697 == ByteArray.toList s700) = true →
 Spec Tryd.prog 12 #[.agg #[.int .i64 e_0, .int .u64 e_1, .int .u64 e_2, .int .i64 e_3, .int .i64 e_4]] u699 (fun v710 u711 =>
 ∃ s712 : ByteArray, v710 = .string s712 ∧
 Ext w1 u711 ∧
 Spec Tryd.prog 13 #[.agg #[.int .i64 e_0, .int .u64 e_1, .int .u64 e_2, .int .i64 e_3, .int .i64 e_4]] u711 (fun v713 u714 =>
 ∃ s715 : ByteArray, v713 = .string s715 ∧
 Ext w1 u714 ∧
 ((ByteArray.toList s712 == ByteArray.toList s715) = true →
 Spec Tryd.prog 14 #[] u714 (fun v716 u717 =>
 ∃ b718 : Bool, v716 = .bool b718 ∧
 Ext w1 u717 ∧
 Q (.bool b718) u717)) ∧
 ((ByteArray.toList s712 == ByteArray.toList s715) = false →
 Ext w1 u714 ∧
 Q (.bool false) u714)))) ∧
 ((ByteArray.toList s697 == ByteArray.toList s700) = false →
 Ext w1 u699 ∧
 Ext w1 u699 ∧
 Ext w1 u699 ∧
 Q (.bool false) u699)))
 ∧ (Ext w1 u699 ∧
 Ext w1 u699 ∧
 ((ByteArray.toList s697 == ByteArray.toList s700) = true →
 Spec Tryd.prog 12 #[.agg #[.int .i64 e_0, .int .u64 e_1, .int .u64 e_2, .int .i64 e_3, .int .i64 e_4]] u699 (fun v719 u720 =>
 ∃ s721 : ByteArray, v719 = .string s721 ∧
 Ext w1 u720 ∧
 Spec Tryd.prog 13 #[.agg #[.int .i64 e_0, .int .u64 e_1, .int .u64 e_2, .int .i64 e_3, .int .i64 e_4]] u720 (fun v722 u723 =>
 ∃ s724 : ByteArray, v722 = .string s724 ∧
 Ext w1 u723 ∧
 ((ByteArray.toList s721 == ByteArray.toList s724) = true →
 Spec Tryd.prog 14 #[] u723 (fun v725 u726 =>
 ∃ b727 : Bool, v725 = .bool b727 ∧
 Ext w1 u726 ∧
 Q (.bool b727) u726)) ∧
 ((ByteArray.toList s721 == ByteArray.toList s724) = false →
 Ext w1 u723 ∧
 Q (.bool false) u723)))) ∧
 ((ByteArray.toList s697 == ByteArray.toList s700) = false →
 Ext w1 u699 ∧
 Ext w1 u699 ∧
 Ext w1 u699 ∧
 Q (.bool false) u699))))) ∧
 ((ByteArray.toList s4 == ByteArray.toList s7) = false →
 Ext w1 u6 ∧
 Ext w1 u6 ∧
 Ext w1 u6 ∧
 (Ext w1 u6 ∧
 (Ext w1 u6 ∧
 Ext w1 u6 ∧
 Ext w1 u6 ∧
 Ext w1 u6 ∧
 Q (.bool false) u6)
 ∧ (Ext w1 u6 ∧
 Ext w1 u6 ∧
 Ext w1 u6 ∧
 Ext w1 u6 ∧
 Q (.bool false) u6))
 ∧ (Ext w1 u6 ∧
 Ext w1 u6 ∧
 Ext w1 u6 ∧
 Ext w1 u6 ∧
 Ext w1 u6 ∧
 Q (.bool false) u6)))
 ∧ (Ext w1 u6 ∧
 ((ByteArray.toList s4 == ByteArray.toList s7) = true →
 Spec Tryd.prog 10 #[.int .i64 c.at_, .agg #[.int .i64 t_0, .int .i64 t_1, .int .i64 t_2, .slice t_3 t_3_l t_3_c]] u6 (fun v728 u729 =>
 ∃ s730 : ByteArray, v728 = .string s730 ∧
 Ext w1 u729 ∧
 Spec Tryd.prog 11 #[.int .i64 c.at_, .agg #[.int .i64 t_0, .int .i64 t_1, .int .i64 t_2, .slice t_3 t_3_l t_3_c]] u729 (fun v731 u732 =>
 ∃ s733 : ByteArray, v731 = .string s733 ∧
 Ext w1 u732 ∧
 (Ext w1 u732 ∧
 (((ByteArray.toList s730 == ByteArray.toList s733) = true →
 Spec Tryd.prog 12 #[.agg #[.int .i64 e_0, .int .u64 e_1, .int .u64 e_2, .int .i64 e_3, .int .i64 e_4]] u732 (fun v734 u735 =>
 ∃ s736 : ByteArray, v734 = .string s736 ∧
 Ext w1 u735 ∧
 Ext w1 u735 ∧
 Spec Tryd.prog 13 #[.agg #[.int .i64 e_0, .int .u64 e_1, .int .u64 e_2, .int .i64 e_3, .int .i64 e_4]] u735 (fun v737 u738 =>
 ∃ s739 : ByteArray, v737 = .string s739 ∧
 Ext w1 u738 ∧
 ((ByteArray.toList s736 == ByteArray.toList s739) = true →
 Spec Tryd.prog 14 #[] u738 (fun v740 u741 =>
 ∃ b742 : Bool, v740 = .bool b742 ∧
 Ext w1 u741 ∧
 Q (.bool b742) u741)) ∧
 ((ByteArray.toList s736 == ByteArray.toList s739) = false →
 Ext w1 u738 ∧
 Q (.bool false) u738)))) ∧
 ((ByteArray.toList s730 == ByteArray.toList s733) = false →
 Ext w1 u732 ∧
 Ext w1 u732 ∧
 Ext w1 u732 ∧
 Ext w1 u732 ∧
 Q (.bool false) u732))
 ∧ (Ext w1 u732 ∧
 ((ByteArray.toList s730 == ByteArray.toList s733) = true →
 Spec Tryd.prog 12 #[.agg #[.int .i64 e_0, .int .u64 e_1, .int .u64 e_2, .int .i64 e_3, .int .i64 e_4]] u732 (fun v743 u744 =>
 ∃ s745 : ByteArray, v743 = .string s745 ∧
 Ext w1 u744 ∧
 Spec Tryd.prog 13 #[.agg #[.int .i64 e_0, .int .u64 e_1, .int .u64 e_2, .int .i64 e_3, .int .i64 e_4]] u744 (fun v746 u747 =>
 ∃ s748 : ByteArray, v746 = .string s748 ∧
 Ext w1 u747 ∧
 ((ByteArray.toList s745 == ByteArray.toList s748) = true →
 Spec Tryd.prog 14 #[] u747 (fun v749 u750 =>
 ∃ b751 : Bool, v749 = .bool b751 ∧
 Ext w1 u750 ∧
 Q (.bool b751) u750)) ∧
 ((ByteArray.toList s745 == ByteArray.toList s748) = false →
 Ext w1 u747 ∧
 Q (.bool false) u747)))) ∧
 ((ByteArray.toList s730 == ByteArray.toList s733) = false →
 Ext w1 u732 ∧
 Ext w1 u732 ∧
 Ext w1 u732 ∧
 Q (.bool false) u732)))
 ∧ (Ext w1 u732 ∧
 Ext w1 u732 ∧
 ((ByteArray.toList s730 == ByteArray.toList s733) = true →
 Spec Tryd.prog 12 #[.agg #[.int .i64 e_0, .int .u64 e_1, .int .u64 e_2, .int .i64 e_3, .int .i64 e_4]] u732 (fun v752 u753 =>
 ∃ s754 : ByteArray, v752 = .string s754 ∧
 Ext w1 u753 ∧
 Spec Tryd.prog 13 #[.agg #[.int .i64 e_0, .int .u64 e_1, .int .u64 e_2, .int .i64 e_3, .int .i64 e_4]] u753 (fun v755 u756 =>
 ∃ s757 : ByteArray, v755 = .string s757 ∧
 Ext w1 u756 ∧
 ((ByteArray.toList s754 == ByteArray.toList s757) = true →
 Spec Tryd.prog 14 #[] u756 (fun v758 u759 =>
 ∃ b760 : Bool, v758 = .bool b760 ∧
 Ext w1 u759 ∧
 Q (.bool b760) u759)) ∧
 ((ByteArray.toList s754 == ByteArray.toList s757) = false →
 Ext w1 u756 ∧
 Q (.bool false) u756)))) ∧
 ((ByteArray.toList s730 == ByteArray.toList s733) = false →
 Ext w1 u732 ∧
 Ext w1 u732 ∧
 Ext w1 u732 ∧
 Q (.bool false) u732))))) ∧
 ((ByteArray.toList s4 == ByteArray.toList s7) = false →
 Ext w1 u6 ∧
 Ext w1 u6 ∧
 (Ext w1 u6 ∧
 (Ext w1 u6 ∧
 Ext w1 u6 ∧
 Ext w1 u6 ∧
 Ext w1 u6 ∧
 Q (.bool false) u6)
 ∧ (Ext w1 u6 ∧
 Ext w1 u6 ∧
 Ext w1 u6 ∧
 Ext w1 u6 ∧
 Q (.bool false) u6))
 ∧ (Ext w1 u6 ∧
 Ext w1 u6 ∧
 Ext w1 u6 ∧
 Ext w1 u6 ∧
 Ext w1 u6 ∧
 Q (.bool false) u6))))
 ∧ (Ext w1 u6 ∧
 Ext w1 u6 ∧
 ((ByteArray.toList s4 == ByteArray.toList s7) = true →
 Spec Tryd.prog 10 #[.int .i64 c.at_, .agg #[.int .i64 t_0, .int .i64 t_1, .int .i64 t_2, .slice t_3 t_3_l t_3_c]] u6 (fun v761 u762 =>
 ∃ s763 : ByteArray, v761 = .string s763 ∧
 Ext w1 u762 ∧
 Spec Tryd.prog 11 #[.int .i64 c.at_, .agg #[.int .i64 t_0, .int .i64 t_1, .int .i64 t_2, .slice t_3 t_3_l t_3_c]] u762 (fun v764 u765 =>
 ∃ s766 : ByteArray, v764 = .string s766 ∧
 Ext w1 u765 ∧
 (Ext w1 u765 ∧
 (((ByteArray.toList s763 == ByteArray.toList s766) = true →
 Spec Tryd.prog 12 #[.agg #[.int .i64 e_0, .int .u64 e_1, .int .u64 e_2, .int .i64 e_3, .int .i64 e_4]] u765 (fun v767 u768 =>
 ∃ s769 : ByteArray, v767 = .string s769 ∧
 Ext w1 u768 ∧
 Ext w1 u768 ∧
 Spec Tryd.prog 13 #[.agg #[.int .i64 e_0, .int .u64 e_1, .int .u64 e_2, .int .i64 e_3, .int .i64 e_4]] u768 (fun v770 u771 =>
 ∃ s772 : ByteArray, v770 = .string s772 ∧
 Ext w1 u771 ∧
 ((ByteArray.toList s769 == ByteArray.toList s772) = true →
 Spec Tryd.prog 14 #[] u771 (fun v773 u774 =>
 ∃ b775 : Bool, v773 = .bool b775 ∧
 Ext w1 u774 ∧
 Q (.bool b775) u774)) ∧
 ((ByteArray.toList s769 == ByteArray.toList s772) = false →
 Ext w1 u771 ∧
 Q (.bool false) u771)))) ∧
 ((ByteArray.toList s763 == ByteArray.toList s766) = false →
 Ext w1 u765 ∧
 Ext w1 u765 ∧
 Ext w1 u765 ∧
 Ext w1 u765 ∧
 Q (.bool false) u765))
 ∧ (Ext w1 u765 ∧
 ((ByteArray.toList s763 == ByteArray.toList s766) = true →
 Spec Tryd.prog 12 #[.agg #[.int .i64 e_0, .int .u64 e_1, .int .u64 e_2, .int .i64 e_3, .int .i64 e_4]] u765 (fun v776 u777 =>
 ∃ s778 : ByteArray, v776 = .string s778 ∧
 Ext w1 u777 ∧
 Spec Tryd.prog 13 #[.agg #[.int .i64 e_0, .int .u64 e_1, .int .u64 e_2, .int .i64 e_3, .int .i64 e_4]] u777 (fun v779 u780 =>
 ∃ s781 : ByteArray, v779 = .string s781 ∧
 Ext w1 u780 ∧
 ((ByteArray.toList s778 == ByteArray.toList s781) = true →
 Spec Tryd.prog 14 #[] u780 (fun v782 u783 =>
 ∃ b784 : Bool, v782 = .bool b784 ∧
 Ext w1 u783 ∧
 Q (.bool b784) u783)) ∧
 ((ByteArray.toList s778 == ByteArray.toList s781) = false →
 Ext w1 u780 ∧
 Q (.bool false) u780)))) ∧
 ((ByteArray.toList s763 == ByteArray.toList s766) = false →
 Ext w1 u765 ∧
 Ext w1 u765 ∧
 Ext w1 u765 ∧
 Q (.bool false) u765)))
 ∧ (Ext w1 u765 ∧
 Ext w1 u765 ∧
 ((ByteArray.toList s763 == ByteArray.toList s766) = true →
 Spec Tryd.prog 12 #[.agg #[.int .i64 e_0, .int .u64 e_1, .int .u64 e_2, .int .i64 e_3, .int .i64 e_4]] u765 (fun v785 u786 =>
 ∃ s787 : ByteArray, v785 = .string s787 ∧
 Ext w1 u786 ∧
 Spec Tryd.prog 13 #[.agg #[.int .i64 e_0, .int .u64 e_1, .int .u64 e_2, .int .i64 e_3, .int .i64 e_4]] u786 (fun v788 u789 =>
 ∃ s790 : ByteArray, v788 = .string s790 ∧
 Ext w1 u789 ∧
 ((ByteArray.toList s787 == ByteArray.toList s790) = true →
 Spec Tryd.prog 14 #[] u789 (fun v791 u792 =>
 ∃ b793 : Bool, v791 = .bool b793 ∧
 Ext w1 u792 ∧
 Q (.bool b793) u792)) ∧
 ((ByteArray.toList s787 == ByteArray.toList s790) = false →
 Ext w1 u789 ∧
 Q (.bool false) u789)))) ∧
 ((ByteArray.toList s763 == ByteArray.toList s766) = false →
 Ext w1 u765 ∧
 Ext w1 u765 ∧
 Ext w1 u765 ∧
 Q (.bool false) u765))))) ∧
 ((ByteArray.toList s4 == ByteArray.toList s7) = false →
 Ext w1 u6 ∧
 Ext w1 u6 ∧
 (Ext w1 u6 ∧
 (Ext w1 u6 ∧
 Ext w1 u6 ∧
 Ext w1 u6 ∧
 Ext w1 u6 ∧
 Q (.bool false) u6)
 ∧ (Ext w1 u6 ∧
 Ext w1 u6 ∧
 Ext w1 u6 ∧
 Ext w1 u6 ∧
 Q (.bool false) u6))
 ∧ (Ext w1 u6 ∧
 Ext w1 u6 ∧
 Ext w1 u6 ∧
 Ext w1 u6 ∧
 Ext w1 u6 ∧
 Q (.bool false) u6)))))
 ∧ (Ext w1 u6 ∧
 (Ext w1 u6 ∧
 (Ext w1 u6 ∧
 (((ByteArray.toList s4 == ByteArray.toList s7) = true →
 Spec Tryd.prog 10 #[.int .i64 c.at_, .agg #[.int .i64 t_0, .int .i64 t_1, .int .i64 t_2, .slice t_3 t_3_l t_3_c]] u6 (fun v794 u795 =>
 ∃ s796 : ByteArray, v794 = .string s796 ∧
 Ext w1 u795 ∧
 Ext w1 u795 ∧
 Spec Tryd.prog 11 #[.int .i64 c.at_, .agg #[.int .i64 t_0, .int .i64 t_1, .int .i64 t_2, .slice t_3 t_3_l t_3_c]] u795 (fun v797 u798 =>
 ∃ s799 : ByteArray, v797 = .string s799 ∧
 Ext w1 u798 ∧
 (Ext w1 u798 ∧
 (((ByteArray.toList s796 == ByteArray.toList s799) = true →
 Spec Tryd.prog 12 #[.agg #[.int .i64 e_0, .int .u64 e_1, .int .u64 e_2, .int .i64 e_3, .int .i64 e_4]] u798 (fun v800 u801 =>
 ∃ s802 : ByteArray, v800 = .string s802 ∧
 Ext w1 u801 ∧
 Ext w1 u801 ∧
 Spec Tryd.prog 13 #[.agg #[.int .i64 e_0, .int .u64 e_1, .int .u64 e_2, .int .i64 e_3, .int .i64 e_4]] u801 (fun v803 u804 =>
 ∃ s805 : ByteArray, v803 = .string s805 ∧
 Ext w1 u804 ∧
 ((ByteArray.toList s802 == ByteArray.toList s805) = true →
 Spec Tryd.prog 14 #[] u804 (fun v806 u807 =>
 ∃ b808 : Bool, v806 = .bool b808 ∧
 Ext w1 u807 ∧
 Q (.bool b808) u807)) ∧
 ((ByteArray.toList s802 == ByteArray.toList s805) = false →
 Ext w1 u804 ∧
 Q (.bool false) u804)))) ∧
 ((ByteArray.toList s796 == ByteArray.toList s799) = false →
 Ext w1 u798 ∧
 Ext w1 u798 ∧
 Ext w1 u798 ∧
 Ext w1 u798 ∧
 Q (.bool false) u798))
 ∧ (Ext w1 u798 ∧
 ((ByteArray.toList s796 == ByteArray.toList s799) = true →
 Spec Tryd.prog 12 #[.agg #[.int .i64 e_0, .int .u64 e_1, .int .u64 e_2, .int .i64 e_3, .int .i64 e_4]] u798 (fun v809 u810 =>
 ∃ s811 : ByteArray, v809 = .string s811 ∧
 Ext w1 u810 ∧
 Spec Tryd.prog 13 #[.agg #[.int .i64 e_0, .int .u64 e_1, .int .u64 e_2, .int .i64 e_3, .int .i64 e_4]] u810 (fun v812 u813 =>
 ∃ s814 : ByteArray, v812 = .string s814 ∧
 Ext w1 u813 ∧
 ((ByteArray.toList s811 == ByteArray.toList s814) = true →
 Spec Tryd.prog 14 #[] u813 (fun v815 u816 =>
 ∃ b817 : Bool, v815 = .bool b817 ∧
 Ext w1 u816 ∧
 Q (.bool b817) u816)) ∧
 ((ByteArray.toList s811 == ByteArray.toList s814) = false →
 Ext w1 u813 ∧
 Q (.bool false) u813)))) ∧
 ((ByteArray.toList s796 == ByteArray.toList s799) = false →
 Ext w1 u798 ∧
 Ext w1 u798 ∧
 Ext w1 u798 ∧
 Q (.bool false) u798)))
 ∧ (Ext w1 u798 ∧
 Ext w1 u798 ∧
 ((ByteArray.toList s796 == ByteArray.toList s799) = true →
 Spec Tryd.prog 12 #[.agg #[.int .i64 e_0, .int .u64 e_1, .int .u64 e_2, .int .i64 e_3, .int .i64 e_4]] u798 (fun v818 u819 =>
 ∃ s820 : ByteArray, v818 = .string s820 ∧
 Ext w1 u819 ∧
 Spec Tryd.prog 13 #[.agg #[.int .i64 e_0, .int .u64 e_1, .int .u64 e_2, .int .i64 e_3, .int .i64 e_4]] u819 (fun v821 u822 =>
 ∃ s823 : ByteArray, v821 = .string s823 ∧
 Ext w1 u822 ∧
 ((ByteArray.toList s820 == ByteArray.toList s823) = true →
 Spec Tryd.prog 14 #[] u822 (fun v824 u825 =>
 ∃ b826 : Bool, v824 = .bool b826 ∧
 Ext w1 u825 ∧
 Q (.bool b826) u825)) ∧
 ((ByteArray.toList s820 == ByteArray.toList s823) = false →
 Ext w1 u822 ∧
 Q (.bool false) u822)))) ∧
 ((ByteArray.toList s796 == ByteArray.toList s799) = false →
 Ext w1 u798 ∧
 Ext w1 u798 ∧
 Ext w1 u798 ∧
 Q (.bool false) u798))))) ∧
 ((ByteArray.toList s4 == ByteArray.toList s7) = false →
 Ext w1 u6 ∧
 Ext w1 u6 ∧
 Ext w1 u6 ∧
 (Ext w1 u6 ∧
 (Ext w1 u6 ∧
 Ext w1 u6 ∧
 Ext w1 u6 ∧
 Ext w1 u6 ∧
 Q (.bool false) u6)
 ∧ (Ext w1 u6 ∧
 Ext w1 u6 ∧
 Ext w1 u6 ∧
 Ext w1 u6 ∧
 Q (.bool false) u6))
 ∧ (Ext w1 u6 ∧
 Ext w1 u6 ∧
 Ext w1 u6 ∧
 Ext w1 u6 ∧
 Ext w1 u6 ∧
 Q (.bool false) u6)))
 ∧ (Ext w1 u6 ∧
 ((ByteArray.toList s4 == ByteArray.toList s7) = true →
 Spec Tryd.prog 10 #[.int .i64 c.at_, .agg #[.int .i64 t_0, .int .i64 t_1, .int .i64 t_2, .slice t_3 t_3_l t_3_c]] u6 (fun v827 u828 =>
 ∃ s829 : ByteArray, v827 = .string s829 ∧
 Ext w1 u828 ∧
 Spec Tryd.prog 11 #[.int .i64 c.at_, .agg #[.int .i64 t_0, .int .i64 t_1, .int .i64 t_2, .slice t_3 t_3_l t_3_c]] u828 (fun v830 u831 =>
 ∃ s832 : ByteArray, v830 = .string s832 ∧
 Ext w1 u831 ∧
 (Ext w1 u831 ∧
 (((ByteArray.toList s829 == ByteArray.toList s832) = true →
 Spec Tryd.prog 12 #[.agg #[.int .i64 e_0, .int .u64 e_1, .int .u64 e_2, .int .i64 e_3, .int .i64 e_4]] u831 (fun v833 u834 =>
 ∃ s835 : ByteArray, v833 = .string s835 ∧
 Ext w1 u834 ∧
 Ext w1 u834 ∧
 Spec Tryd.prog 13 #[.agg #[.int .i64 e_0, .int .u64 e_1, .int .u64 e_2, .int .i64 e_3, .int .i64 e_4]] u834 (fun v836 u837 =>
 ∃ s838 : ByteArray, v836 = .string s838 ∧
 Ext w1 u837 ∧
 ((ByteArray.toList s835 == ByteArray.toList s838) = true →
 Spec Tryd.prog 14 #[] u837 (fun v839 u840 =>
 ∃ b841 : Bool, v839 = .bool b841 ∧
 Ext w1 u840 ∧
 Q (.bool b841) u840)) ∧
 ((ByteArray.toList s835 == ByteArray.toList s838) = false →
 Ext w1 u837 ∧
 Q (.bool false) u837)))) ∧
 ((ByteArray.toList s829 == ByteArray.toList s832) = false →
 Ext w1 u831 ∧
 Ext w1 u831 ∧
 Ext w1 u831 ∧
 Ext w1 u831 ∧
 Q (.bool false) u831))
 ∧ (Ext w1 u831 ∧
 ((ByteArray.toList s829 == ByteArray.toList s832) = true →
 Spec Tryd.prog 12 #[.agg #[.int .i64 e_0, .int .u64 e_1, .int .u64 e_2, .int .i64 e_3, .int .i64 e_4]] u831 (fun v842 u843 =>
 ∃ s844 : ByteArray, v842 = .string s844 ∧
 Ext w1 u843 ∧
 Spec Tryd.prog 13 #[.agg #[.int .i64 e_0, .int .u64 e_1, .int .u64 e_2, .int .i64 e_3, .int .i64 e_4]] u843 (fun v845 u846 =>
 ∃ s847 : ByteArray, v845 = .string s847 ∧
 Ext w1 u846 ∧
 ((ByteArray.toList s844 == ByteArray.toList s847) = true →
 Spec Tryd.prog 14 #[] u846 (fun v848 u849 =>
 ∃ b850 : Bool, v848 = .bool b850 ∧
 Ext w1 u849 ∧
 Q (.bool b850) u849)) ∧
 ((ByteArray.toList s844 == ByteArray.toList s847) = false →
 Ext w1 u846 ∧
 Q (.bool false) u846)))) ∧
 ((ByteArray.toList s829 == ByteArray.toList s832) = false →
 Ext w1 u831 ∧
 Ext w1 u831 ∧
 Ext w1 u831 ∧
 Q (.bool false) u831)))
 ∧ (Ext w1 u831 ∧
 Ext w1 u831 ∧
 ((ByteArray.toList s829 == ByteArray.toList s832) = true →
 Spec Tryd.prog 12 #[.agg #[.int .i64 e_0, .int .u64 e_1, .int .u64 e_2, .int .i64 e_3, .int .i64 e_4]] u831 (fun v851 u852 =>
 ∃ s853 : ByteArray, v851 = .string s853 ∧
 Ext w1 u852 ∧
 Spec Tryd.prog 13 #[.agg #[.int .i64 e_0, .int .u64 e_1, .int .u64 e_2, .int .i64 e_3, .int .i64 e_4]] u852 (fun v854 u855 =>
 ∃ s856 : ByteArray, v854 = .string s856 ∧
 Ext w1 u855 ∧
 ((ByteArray.toList s853 == ByteArray.toList s856) = true →
 Spec Tryd.prog 14 #[] u855 (fun v857 u858 =>
 ∃ b859 : Bool, v857 = .bool b859 ∧
 Ext w1 u858 ∧
 Q (.bool b859) u858)) ∧
 ((ByteArray.toList s853 == ByteArray.toList s856) = false →
 Ext w1 u855 ∧
 Q (.bool false) u855)))) ∧
 ((ByteArray.toList s829 == ByteArray.toList s832) = false →
 Ext w1 u831 ∧
 Ext w1 u831 ∧
 Ext w1 u831 ∧
 Q (.bool false) u831))))) ∧
 ((ByteArray.toList s4 == ByteArray.toList s7) = false →
 Ext w1 u6 ∧
 Ext w1 u6 ∧
 (Ext w1 u6 ∧
 (Ext w1 u6 ∧
 Ext w1 u6 ∧
 Ext w1 u6 ∧
 Ext w1 u6 ∧
 Q (.bool false) u6)
 ∧ (Ext w1 u6 ∧
 Ext w1 u6 ∧
 Ext w1 u6 ∧
 Ext w1 u6 ∧
 Q (.bool false) u6))
 ∧ (Ext w1 u6 ∧
 Ext w1 u6 ∧
 Ext w1 u6 ∧
 Ext w1 u6 ∧
 Ext w1 u6 ∧
 Q (.bool false) u6))))
 ∧ (Ext w1 u6 ∧
 Ext w1 u6 ∧
 ((ByteArray.toList s4 == ByteArray.toList s7) = true →
 Spec Tryd.prog 10 #[.int .i64 c.at_, .agg #[.int .i64 t_0, .int .i64 t_1, .int .i64 t_2, .slice t_3 t_3_l t_3_c]] u6 (fun v860 u861 =>
 ∃ s862 : ByteArray, v860 = .string s862 ∧
 Ext w1 u861 ∧
 Spec Tryd.prog 11 #[.int .i64 c.at_, .agg #[.int .i64 t_0, .int .i64 t_1, .int .i64 t_2, .slice t_3 t_3_l t_3_c]] u861 (fun v863 u864 =>
 ∃ s865 : ByteArray, v863 = .string s865 ∧
 Ext w1 u864 ∧
 (Ext w1 u864 ∧
 (((ByteArray.toList s862 == ByteArray.toList s865) = true →
 Spec Tryd.prog 12 #[.agg #[.int .i64 e_0, .int .u64 e_1, .int .u64 e_2, .int .i64 e_3, .int .i64 e_4]] u864 (fun v866 u867 =>
 ∃ s868 : ByteArray, v866 = .string s868 ∧
 Ext w1 u867 ∧
 Ext w1 u867 ∧
 Spec Tryd.prog 13 #[.agg #[.int .i64 e_0, .int .u64 e_1, .int .u64 e_2, .int .i64 e_3, .int .i64 e_4]] u867 (fun v869 u870 =>
 ∃ s871 : ByteArray, v869 = .string s871 ∧
 Ext w1 u870 ∧
 ((ByteArray.toList s868 == ByteArray.toList s871) = true →
 Spec Tryd.prog 14 #[] u870 (fun v872 u873 =>
 ∃ b874 : Bool, v872 = .bool b874 ∧
 Ext w1 u873 ∧
 Q (.bool b874) u873)) ∧
 ((ByteArray.toList s868 == ByteArray.toList s871) = false →
 Ext w1 u870 ∧
 Q (.bool false) u870)))) ∧
 ((ByteArray.toList s862 == ByteArray.toList s865) = false →
 Ext w1 u864 ∧
 Ext w1 u864 ∧
 Ext w1 u864 ∧
 Ext w1 u864 ∧
 Q (.bool false) u864))
 ∧ (Ext w1 u864 ∧
 ((ByteArray.toList s862 == ByteArray.toList s865) = true →
 Spec Tryd.prog 12 #[.agg #[.int .i64 e_0, .int .u64 e_1, .int .u64 e_2, .int .i64 e_3, .int .i64 e_4]] u864 (fun v875 u876 =>
 ∃ s877 : ByteArray, v875 = .string s877 ∧
 Ext w1 u876 ∧
 Spec Tryd.prog 13 #[.agg #[.int .i64 e_0, .int .u64 e_1, .int .u64 e_2, .int .i64 e_3, .int .i64 e_4]] u876 (fun v878 u879 =>
 ∃ s880 : ByteArray, v878 = .string s880 ∧
 Ext w1 u879 ∧
 ((ByteArray.toList s877 == ByteArray.toList s880) = true →
 Spec Tryd.prog 14 #[] u879 (fun v881 u882 =>
 ∃ b883 : Bool, v881 = .bool b883 ∧
 Ext w1 u882 ∧
 Q (.bool b883) u882)) ∧
 ((ByteArray.toList s877 == ByteArray.toList s880) = false →
 Ext w1 u879 ∧
 Q (.bool false) u879)))) ∧
 ((ByteArray.toList s862 == ByteArray.toList s865) = false →
 Ext w1 u864 ∧
 Ext w1 u864 ∧
 Ext w1 u864 ∧
 Q (.bool false) u864)))
 ∧ (Ext w1 u864 ∧
 Ext w1 u864 ∧
 ((ByteArray.toList s862 == ByteArray.toList s865) = true →
 Spec Tryd.prog 12 #[.agg #[.int .i64 e_0, .int .u64 e_1, .int .u64 e_2, .int .i64 e_3, .int .i64 e_4]] u864 (fun v884 u885 =>
 ∃ s886 : ByteArray, v884 = .string s886 ∧
 Ext w1 u885 ∧
 Spec Tryd.prog 13 #[.agg #[.int .i64 e_0, .int .u64 e_1, .int .u64 e_2, .int .i64 e_3, .int .i64 e_4]] u885 (fun v887 u888 =>
 ∃ s889 : ByteArray, v887 = .string s889 ∧
 Ext w1 u888 ∧
 ((ByteArray.toList s886 == ByteArray.toList s889) = true →
 Spec Tryd.prog 14 #[] u888 (fun v890 u891 =>
 ∃ b892 : Bool, v890 = .bool b892 ∧
 Ext w1 u891 ∧
 Q (.bool b892) u891)) ∧
 ((ByteArray.toList s886 == ByteArray.toList s889) = false →
 Ext w1 u888 ∧
 Q (.bool false) u888)))) ∧
 ((ByteArray.toList s862 == ByteArray.toList s865) = false →
 Ext w1 u864 ∧
 Ext w1 u864 ∧
 Ext w1 u864 ∧
 Q (.bool false) u864))))) ∧
 ((ByteArray.toList s4 == ByteArray.toList s7) = false →
 Ext w1 u6 ∧
 Ext w1 u6 ∧
 (Ext w1 u6 ∧
 (Ext w1 u6 ∧
 Ext w1 u6 ∧
 Ext w1 u6 ∧
 Ext w1 u6 ∧
 Q (.bool false) u6)
 ∧ (Ext w1 u6 ∧
 Ext w1 u6 ∧
 Ext w1 u6 ∧
 Ext w1 u6 ∧
 Q (.bool false) u6))
 ∧ (Ext w1 u6 ∧
 Ext w1 u6 ∧
 Ext w1 u6 ∧
 Ext w1 u6 ∧
 Ext w1 u6 ∧
 Q (.bool false) u6))))
 ∧ (Ext w1 u6 ∧
 (Ext w1 u6 ∧
 (((ByteArray.toList s4 == ByteArray.toList s7) = true →
 Spec Tryd.prog 10 #[.int .i64 c.at_, .agg #[.int .i64 t_0, .int .i64 t_1, .int .i64 t_2, .slice t_3 t_3_l t_3_c]] u6 (fun v893 u894 =>
 ∃ s895 : ByteArray, v893 = .string s895 ∧
 Ext w1 u894 ∧
 Ext w1 u894 ∧
 Spec Tryd.prog 11 #[.int .i64 c.at_, .agg #[.int .i64 t_0, .int .i64 t_1, .int .i64 t_2, .slice t_3 t_3_l t_3_c]] u894 (fun v896 u897 =>
 ∃ s898 : ByteArray, v896 = .string s898 ∧
 Ext w1 u897 ∧
 (Ext w1 u897 ∧
 (((ByteArray.toList s895 == ByteArray.toList s898) = true →
 Spec Tryd.prog 12 #[.agg #[.int .i64 e_0, .int .u64 e_1, .int .u64 e_2, .int .i64 e_3, .int .i64 e_4]] u897 (fun v899 u900 =>
 ∃ s901 : ByteArray, v899 = .string s901 ∧
 Ext w1 u900 ∧
 Ext w1 u900 ∧
 Spec Tryd.prog 13 #[.agg #[.int .i64 e_0, .int .u64 e_1, .int .u64 e_2, .int .i64 e_3, .int .i64 e_4]] u900 (fun v902 u903 =>
 ∃ s904 : ByteArray, v902 = .string s904 ∧
 Ext w1 u903 ∧
 ((ByteArray.toList s901 == ByteArray.toList s904) = true →
 Spec Tryd.prog 14 #[] u903 (fun v905 u906 =>
 ∃ b907 : Bool, v905 = .bool b907 ∧
 Ext w1 u906 ∧
 Q (.bool b907) u906)) ∧
 ((ByteArray.toList s901 == ByteArray.toList s904) = false →
 Ext w1 u903 ∧
 Q (.bool false) u903)))) ∧
 ((ByteArray.toList s895 == ByteArray.toList s898) = false →
 Ext w1 u897 ∧
 Ext w1 u897 ∧
 Ext w1 u897 ∧
 Ext w1 u897 ∧
 Q (.bool false) u897))
 ∧ (Ext w1 u897 ∧
 ((ByteArray.toList s895 == ByteArray.toList s898) = true →
 Spec Tryd.prog 12 #[.agg #[.int .i64 e_0, .int .u64 e_1, .int .u64 e_2, .int .i64 e_3, .int .i64 e_4]] u897 (fun v908 u909 =>
 ∃ s910 : ByteArray, v908 = .string s910 ∧
 Ext w1 u909 ∧
 Spec Tryd.prog 13 #[.agg #[.int .i64 e_0, .int .u64 e_1, .int .u64 e_2, .int .i64 e_3, .int .i64 e_4]] u909 (fun v911 u912 =>
 ∃ s913 : ByteArray, v911 = .string s913 ∧
 Ext w1 u912 ∧
 ((ByteArray.toList s910 == ByteArray.toList s913) = true →
 Spec Tryd.prog 14 #[] u912 (fun v914 u915 =>
 ∃ b916 : Bool, v914 = .bool b916 ∧
 Ext w1 u915 ∧
 Q (.bool b916) u915)) ∧
 ((ByteArray.toList s910 == ByteArray.toList s913) = false →
 Ext w1 u912 ∧
 Q (.bool false) u912)))) ∧
 ((ByteArray.toList s895 == ByteArray.toList s898) = false →
 Ext w1 u897 ∧
 Ext w1 u897 ∧
 Ext w1 u897 ∧
 Q (.bool false) u897)))
 ∧ (Ext w1 u897 ∧
 Ext w1 u897 ∧
 ((ByteArray.toList s895 == ByteArray.toList s898) = true →
 Spec Tryd.prog 12 #[.agg #[.int .i64 e_0, .int .u64 e_1, .int .u64 e_2, .int .i64 e_3, .int .i64 e_4]] u897 (fun v917 u918 =>
 ∃ s919 : ByteArray, v917 = .string s919 ∧
 Ext w1 u918 ∧
 Spec Tryd.prog 13 #[.agg #[.int .i64 e_0, .int .u64 e_1, .int .u64 e_2, .int .i64 e_3, .int .i64 e_4]] u918 (fun v920 u921 =>
 ∃ s922 : ByteArray, v920 = .string s922 ∧
 Ext w1 u921 ∧
 ((ByteArray.toList s919 == ByteArray.toList s922) = true →
 Spec Tryd.prog 14 #[] u921 (fun v923 u924 =>
 ∃ b925 : Bool, v923 = .bool b925 ∧
 Ext w1 u924 ∧
 Q (.bool b925) u924)) ∧
 ((ByteArray.toList s919 == ByteArray.toList s922) = false →
 Ext w1 u921 ∧
 Q (.bool false) u921)))) ∧
 ((ByteArray.toList s895 == ByteArray.toList s898) = false →
 Ext w1 u897 ∧
 Ext w1 u897 ∧
 Ext w1 u897 ∧
 Q (.bool false) u897))))) ∧
 ((ByteArray.toList s4 == ByteArray.toList s7) = false →
 Ext w1 u6 ∧
 Ext w1 u6 ∧
 Ext w1 u6 ∧
 (Ext w1 u6 ∧
 (Ext w1 u6 ∧
 Ext w1 u6 ∧
 Ext w1 u6 ∧
 Ext w1 u6 ∧
 Q (.bool false) u6)
 ∧ (Ext w1 u6 ∧
 Ext w1 u6 ∧
 Ext w1 u6 ∧
 Ext w1 u6 ∧
 Q (.bool false) u6))
 ∧ (Ext w1 u6 ∧
 Ext w1 u6 ∧
 Ext w1 u6 ∧
 Ext w1 u6 ∧
 Ext w1 u6 ∧
 Q (.bool false) u6)))
 ∧ (Ext w1 u6 ∧
 ((ByteArray.toList s4 == ByteArray.toList s7) = true →
 Spec Tryd.prog 10 #[.int .i64 c.at_, .agg #[.int .i64 t_0, .int .i64 t_1, .int .i64 t_2, .slice t_3 t_3_l t_3_c]] u6 (fun v926 u927 =>
 ∃ s928 : ByteArray, v926 = .string s928 ∧
 Ext w1 u927 ∧
 Spec Tryd.prog 11 #[.int .i64 c.at_, .agg #[.int .i64 t_0, .int .i64 t_1, .int .i64 t_2, .slice t_3 t_3_l t_3_c]] u927 (fun v929 u930 =>
 ∃ s931 : ByteArray, v929 = .string s931 ∧
 Ext w1 u930 ∧
 (Ext w1 u930 ∧
 (((ByteArray.toList s928 == ByteArray.toList s931) = true →
 Spec Tryd.prog 12 #[.agg #[.int .i64 e_0, .int .u64 e_1, .int .u64 e_2, .int .i64 e_3, .int .i64 e_4]] u930 (fun v932 u933 =>
 ∃ s934 : ByteArray, v932 = .string s934 ∧
 Ext w1 u933 ∧
 Ext w1 u933 ∧
 Spec Tryd.prog 13 #[.agg #[.int .i64 e_0, .int .u64 e_1, .int .u64 e_2, .int .i64 e_3, .int .i64 e_4]] u933 (fun v935 u936 =>
 ∃ s937 : ByteArray, v935 = .string s937 ∧
 Ext w1 u936 ∧
 ((ByteArray.toList s934 == ByteArray.toList s937) = true →
 Spec Tryd.prog 14 #[] u936 (fun v938 u939 =>
 ∃ b940 : Bool, v938 = .bool b940 ∧
 Ext w1 u939 ∧
 Q (.bool b940) u939)) ∧
 ((ByteArray.toList s934 == ByteArray.toList s937) = false →
 Ext w1 u936 ∧
 Q (.bool false) u936)))) ∧
 ((ByteArray.toList s928 == ByteArray.toList s931) = false →
 Ext w1 u930 ∧
 Ext w1 u930 ∧
 Ext w1 u930 ∧
 Ext w1 u930 ∧
 Q (.bool false) u930))
 ∧ (Ext w1 u930 ∧
 ((ByteArray.toList s928 == ByteArray.toList s931) = true →
 Spec Tryd.prog 12 #[.agg #[.int .i64 e_0, .int .u64 e_1, .int .u64 e_2, .int .i64 e_3, .int .i64 e_4]] u930 (fun v941 u942 =>
 ∃ s943 : ByteArray, v941 = .string s943 ∧
 Ext w1 u942 ∧
 Spec Tryd.prog 13 #[.agg #[.int .i64 e_0, .int .u64 e_1, .int .u64 e_2, .int .i64 e_3, .int .i64 e_4]] u942 (fun v944 u945 =>
 ∃ s946 : ByteArray, v944 = .string s946 ∧
 Ext w1 u945 ∧
 ((ByteArray.toList s943 == ByteArray.toList s946) = true →
 Spec Tryd.prog 14 #[] u945 (fun v947 u948 =>
 ∃ b949 : Bool, v947 = .bool b949 ∧
 Ext w1 u948 ∧
 Q (.bool b949) u948)) ∧
 ((ByteArray.toList s943 == ByteArray.toList s946) = false →
 Ext w1 u945 ∧
 Q (.bool false) u945)))) ∧
 ((ByteArray.toList s928 == ByteArray.toList s931) = false →
 Ext w1 u930 ∧
 Ext w1 u930 ∧
 Ext w1 u930 ∧
 Q (.bool false) u930)))
 ∧ (Ext w1 u930 ∧
 Ext w1 u930 ∧
 ((ByteArray.toList s928 == ByteArray.toList s931) = true →
 Spec Tryd.prog 12 #[.agg #[.int .i64 e_0, .int .u64 e_1, .int .u64 e_2, .int .i64 e_3, .int .i64 e_4]] u930 (fun v950 u951 =>
 ∃ s952 : ByteArray, v950 = .string s952 ∧
 Ext w1 u951 ∧
 Spec Tryd.prog 13 #[.agg #[.int .i64 e_0, .int .u64 e_1, .int .u64 e_2, .int .i64 e_3, .int .i64 e_4]] u951 (fun v953 u954 =>
 ∃ s955 : ByteArray, v953 = .string s955 ∧
 Ext w1 u954 ∧
 ((ByteArray.toList s952 == ByteArray.toList s955) = true →
 Spec Tryd.prog 14 #[] u954 (fun v956 u957 =>
 ∃ b958 : Bool, v956 = .bool b958 ∧
 Ext w1 u957 ∧
 Q (.bool b958) u957)) ∧
 ((ByteArray.toList s952 == ByteArray.toList s955) = false →
 Ext w1 u954 ∧
 Q (.bool false) u954)))) ∧
 ((ByteArray.toList s928 == ByteArray.toList s931) = false →
 Ext w1 u930 ∧
 Ext w1 u930 ∧
 Ext w1 u930 ∧
 Q (.bool false) u930))))) ∧
 ((ByteArray.toList s4 == ByteArray.toList s7) = false →
 Ext w1 u6 ∧
 Ext w1 u6 ∧
 (Ext w1 u6 ∧
 (Ext w1 u6 ∧
 Ext w1 u6 ∧
 Ext w1 u6 ∧
 Ext w1 u6 ∧
 Q (.bool false) u6)
 ∧ (Ext w1 u6 ∧
 Ext w1 u6 ∧
 Ext w1 u6 ∧
 Ext w1 u6 ∧
 Q (.bool false) u6))
 ∧ (Ext w1 u6 ∧
 Ext w1 u6 ∧
 Ext w1 u6 ∧
 Ext w1 u6 ∧
 Ext w1 u6 ∧
 Q (.bool false) u6))))
 ∧ (Ext w1 u6 ∧
 Ext w1 u6 ∧
 ((ByteArray.toList s4 == ByteArray.toList s7) = true →
 Spec Tryd.prog 10 #[.int .i64 c.at_, .agg #[.int .i64 t_0, .int .i64 t_1, .int .i64 t_2, .slice t_3 t_3_l t_3_c]] u6 (fun v959 u960 =>
 ∃ s961 : ByteArray, v959 = .string s961 ∧
 Ext w1 u960 ∧
 Spec Tryd.prog 11 #[.int .i64 c.at_, .agg #[.int .i64 t_0, .int .i64 t_1, .int .i64 t_2, .slice t_3 t_3_l t_3_c]] u960 (fun v962 u963 =>
 ∃ s964 : ByteArray, v962 = .string s964 ∧
 Ext w1 u963 ∧
 (Ext w1 u963 ∧
 (((ByteArray.toList s961 == ByteArray.toList s964) = true →
 Spec Tryd.prog 12 #[.agg #[.int .i64 e_0, .int .u64 e_1, .int .u64 e_2, .int .i64 e_3, .int .i64 e_4]] u963 (fun v965 u966 =>
 ∃ s967 : ByteArray, v965 = .string s967 ∧
 Ext w1 u966 ∧
 Ext w1 u966 ∧
 Spec Tryd.prog 13 #[.agg #[.int .i64 e_0, .int .u64 e_1, .int .u64 e_2, .int .i64 e_3, .int .i64 e_4]] u966 (fun v968 u969 =>
 ∃ s970 : ByteArray, v968 = .string s970 ∧
 Ext w1 u969 ∧
 ((ByteArray.toList s967 == ByteArray.toList s970) = true →
 Spec Tryd.prog 14 #[] u969 (fun v971 u972 =>
 ∃ b973 : Bool, v971 = .bool b973 ∧
 Ext w1 u972 ∧
 Q (.bool b973) u972)) ∧
 ((ByteArray.toList s967 == ByteArray.toList s970) = false →
 Ext w1 u969 ∧
 Q (.bool false) u969)))) ∧
 ((ByteArray.toList s961 == ByteArray.toList s964) = false →
 Ext w1 u963 ∧
 Ext w1 u963 ∧
 Ext w1 u963 ∧
 Ext w1 u963 ∧
 Q (.bool false) u963))
 ∧ (Ext w1 u963 ∧
 ((ByteArray.toList s961 == ByteArray.toList s964) = true →
 Spec Tryd.prog 12 #[.agg #[.int .i64 e_0, .int .u64 e_1, .int .u64 e_2, .int .i64 e_3, .int .i64 e_4]] u963 (fun v974 u975 =>
 ∃ s976 : ByteArray, v974 = .string s976 ∧
 Ext w1 u975 ∧
 Spec Tryd.prog 13 #[.agg #[.int .i64 e_0, .int .u64 e_1, .int .u64 e_2, .int .i64 e_3, .int .i64 e_4]] u975 (fun v977 u978 =>
 ∃ s979 : ByteArray, v977 = .string s979 ∧
 Ext w1 u978 ∧
 ((ByteArray.toList s976 == ByteArray.toList s979) = true →
 Spec Tryd.prog 14 #[] u978 (fun v980 u981 =>
 ∃ b982 : Bool, v980 = .bool b982 ∧
 Ext w1 u981 ∧
 Q (.bool b982) u981)) ∧
 ((ByteArray.toList s976 == ByteArray.toList s979) = false →
 Ext w1 u978 ∧
 Q (.bool false) u978)))) ∧
 ((ByteArray.toList s961 == ByteArray.toList s964) = false →
 Ext w1 u963 ∧
 Ext w1 u963 ∧
 Ext w1 u963 ∧
 Q (.bool false) u963)))
 ∧ (Ext w1 u963 ∧
 Ext w1 u963 ∧
 ((ByteArray.toList s961 == ByteArray.toList s964) = true →
 Spec Tryd.prog 12 #[.agg #[.int .i64 e_0, .int .u64 e_1, .int .u64 e_2, .int .i64 e_3, .int .i64 e_4]] u963 (fun v983 u984 =>
 ∃ s985 : ByteArray, v983 = .string s985 ∧
 Ext w1 u984 ∧
 Spec Tryd.prog 13 #[.agg #[.int .i64 e_0, .int .u64 e_1, .int .u64 e_2, .int .i64 e_3, .int .i64 e_4]] u984 (fun v986 u987 =>
 ∃ s988 : ByteArray, v986 = .string s988 ∧
 Ext w1 u987 ∧
 ((ByteArray.toList s985 == ByteArray.toList s988) = true →
 Spec Tryd.prog 14 #[] u987 (fun v989 u990 =>
 ∃ b991 : Bool, v989 = .bool b991 ∧
 Ext w1 u990 ∧
 Q (.bool b991) u990)) ∧
 ((ByteArray.toList s985 == ByteArray.toList s988) = false →
 Ext w1 u987 ∧
 Q (.bool false) u987)))) ∧
 ((ByteArray.toList s961 == ByteArray.toList s964) = false →
 Ext w1 u963 ∧
 Ext w1 u963 ∧
 Ext w1 u963 ∧
 Q (.bool false) u963))))) ∧
 ((ByteArray.toList s4 == ByteArray.toList s7) = false →
 Ext w1 u6 ∧
 Ext w1 u6 ∧
 (Ext w1 u6 ∧
 (Ext w1 u6 ∧
 Ext w1 u6 ∧
 Ext w1 u6 ∧
 Ext w1 u6 ∧
 Q (.bool false) u6)
 ∧ (Ext w1 u6 ∧
 Ext w1 u6 ∧
 Ext w1 u6 ∧
 Ext w1 u6 ∧
 Q (.bool false) u6))
 ∧ (Ext w1 u6 ∧
 Ext w1 u6 ∧
 Ext w1 u6 ∧
 Ext w1 u6 ∧
 Ext w1 u6 ∧
 Q (.bool false) u6))))
 ∧ (Ext w1 u6 ∧
 (Ext w1 u6 ∧
 Ext w1 u6 ∧
 ((ByteArray.toList s4 == ByteArray.toList s7) = true →
 Spec Tryd.prog 10 #[.int .i64 c.at_, .agg #[.int .i64 t_0, .int .i64 t_1, .int .i64 t_2, .slice t_3 t_3_l t_3_c]] u6 (fun v992 u993 =>
 ∃ s994 : ByteArray, v992 = .string s994 ∧
 Ext w1 u993 ∧
 Spec Tryd.prog 11 #[.int .i64 c.at_, .agg #[.int .i64 t_0, .int .i64 t_1, .int .i64 t_2, .slice t_3 t_3_l t_3_c]] u993 (fun v995 u996 =>
 ∃ s997 : ByteArray, v995 = .string s997 ∧
 Ext w1 u996 ∧
 (Ext w1 u996 ∧
 (((ByteArray.toList s994 == ByteArray.toList s997) = true →
 Spec Tryd.prog 12 #[.agg #[.int .i64 e_0, .int .u64 e_1, .int .u64 e_2, .int .i64 e_3, .int .i64 e_4]] u996 (fun v998 u999 =>
 ∃ s1000 : ByteArray, v998 = .string s1000 ∧
 Ext w1 u999 ∧
 Ext w1 u999 ∧
 Spec Tryd.prog 13 #[.agg #[.int .i64 e_0, .int .u64 e_1, .int .u64 e_2, .int .i64 e_3, .int .i64 e_4]] u999 (fun v1001 u1002 =>
 ∃ s1003 : ByteArray, v1001 = .string s1003 ∧
 Ext w1 u1002 ∧
 ((ByteArray.toList s1000 == ByteArray.toList s1003) = true →
 Spec Tryd.prog 14 #[] u1002 (fun v1004 u1005 =>
 ∃ b1006 : Bool, v1004 = .bool b1006 ∧
 Ext w1 u1005 ∧
 Q (.bool b1006) u1005)) ∧
 ((ByteArray.toList s1000 == ByteArray.toList s1003) = false →
 Ext w1 u1002 ∧
 Q (.bool false) u1002)))) ∧
 ((ByteArray.toList s994 == ByteArray.toList s997) = false →
 Ext w1 u996 ∧
 Ext w1 u996 ∧
 Ext w1 u996 ∧
 Ext w1 u996 ∧
 Q (.bool false) u996))
 ∧ (Ext w1 u996 ∧
 ((ByteArray.toList s994 == ByteArray.toList s997) = true →
 Spec Tryd.prog 12 #[.agg #[.int .i64 e_0, .int .u64 e_1, .int .u64 e_2, .int .i64 e_3, .int .i64 e_4]] u996 (fun v1007 u1008 =>
 ∃ s1009 : ByteArray, v1007 = .string s1009 ∧
 Ext w1 u1008 ∧
 Spec Tryd.prog 13 #[.agg #[.int .i64 e_0, .int .u64 e_1, .int .u64 e_2, .int .i64 e_3, .int .i64 e_4]] u1008 (fun v1010 u1011 =>
 ∃ s1012 : ByteArray, v1010 = .string s1012 ∧
 Ext w1 u1011 ∧
 ((ByteArray.toList s1009 == ByteArray.toList s1012) = true →
 Spec Tryd.prog 14 #[] u1011 (fun v1013 u1014 =>
 ∃ b1015 : Bool, v1013 = .bool b1015 ∧
 Ext w1 u1014 ∧
 Q (.bool b1015) u1014)) ∧
 ((ByteArray.toList s1009 == ByteArray.toList s1012) = false →
 Ext w1 u1011 ∧
 Q (.bool false) u1011)))) ∧
 ((ByteArray.toList s994 == ByteArray.toList s997) = false →
 Ext w1 u996 ∧
 Ext w1 u996 ∧
 Ext w1 u996 ∧
 Q (.bool false) u996)))
 ∧ (Ext w1 u996 ∧
 Ext w1 u996 ∧
 ((ByteArray.toList s994 == ByteArray.toList s997) = true →
 Spec Tryd.prog 12 #[.agg #[.int .i64 e_0, .int .u64 e_1, .int .u64 e_2, .int .i64 e_3, .int .i64 e_4]] u996 (fun v1016 u1017 =>
 ∃ s1018 : ByteArray, v1016 = .string s1018 ∧
 Ext w1 u1017 ∧
 Spec Tryd.prog 13 #[.agg #[.int .i64 e_0, .int .u64 e_1, .int .u64 e_2, .int .i64 e_3, .int .i64 e_4]] u1017 (fun v1019 u1020 =>
 ∃ s1021 : ByteArray, v1019 = .string s1021 ∧
 Ext w1 u1020 ∧
 ((ByteArray.toList s1018 == ByteArray.toList s1021) = true →
 Spec Tryd.prog 14 #[] u1020 (fun v1022 u1023 =>
 ∃ b1024 : Bool, v1022 = .bool b1024 ∧
 Ext w1 u1023 ∧
 Q (.bool b1024) u1023)) ∧
 ((ByteArray.toList s1018 == ByteArray.toList s1021) = false →
 Ext w1 u1020 ∧
 Q (.bool false) u1020)))) ∧
 ((ByteArray.toList s994 == ByteArray.toList s997) = false →
 Ext w1 u996 ∧
 Ext w1 u996 ∧
 Ext w1 u996 ∧
 Q (.bool false) u996))))) ∧
 ((ByteArray.toList s4 == ByteArray.toList s7) = false →
 Ext w1 u6 ∧
 Ext w1 u6 ∧
 (Ext w1 u6 ∧
 (Ext w1 u6 ∧
 Ext w1 u6 ∧
 Ext w1 u6 ∧
 Ext w1 u6 ∧
 Q (.bool false) u6)
 ∧ (Ext w1 u6 ∧
 Ext w1 u6 ∧
 Ext w1 u6 ∧
 Ext w1 u6 ∧
 Q (.bool false) u6))
 ∧ (Ext w1 u6 ∧
 Ext w1 u6 ∧
 Ext w1 u6 ∧
 Ext w1 u6 ∧
 Ext w1 u6 ∧
 Q (.bool false) u6)))
 ∧ (Ext w1 u6 ∧
 Ext w1 u6 ∧
 ((ByteArray.toList s4 == ByteArray.toList s7) = true →
 Spec Tryd.prog 10 #[.int .i64 c.at_, .agg #[.int .i64 t_0, .int .i64 t_1, .int .i64 t_2, .slice t_3 t_3_l t_3_c]] u6 (fun v1025 u1026 =>
 ∃ s1027 : ByteArray, v1025 = .string s1027 ∧
 Ext w1 u1026 ∧
 Spec Tryd.prog 11 #[.int .i64 c.at_, .agg #[.int .i64 t_0, .int .i64 t_1, .int .i64 t_2, .slice t_3 t_3_l t_3_c]] u1026 (fun v1028 u1029 =>
 ∃ s1030 : ByteArray, v1028 = .string s1030 ∧
 Ext w1 u1029 ∧
 (Ext w1 u1029 ∧
 (((ByteArray.toList s1027 == ByteArray.toList s1030) = true →
 Spec Tryd.prog 12 #[.agg #[.int .i64 e_0, .int .u64 e_1, .int .u64 e_2, .int .i64 e_3, .int .i64 e_4]] u1029 (fun v1031 u1032 =>
 ∃ s1033 : ByteArray, v1031 = .string s1033 ∧
 Ext w1 u1032 ∧
 Ext w1 u1032 ∧
 Spec Tryd.prog 13 #[.agg #[.int .i64 e_0, .int .u64 e_1, .int .u64 e_2, .int .i64 e_3, .int .i64 e_4]] u1032 (fun v1034 u1035 =>
 ∃ s1036 : ByteArray, v1034 = .string s1036 ∧
 Ext w1 u1035 ∧
 ((ByteArray.toList s1033 == ByteArray.toList s1036) = true →
 Spec Tryd.prog 14 #[] u1035 (fun v1037 u1038 =>
 ∃ b1039 : Bool, v1037 = .bool b1039 ∧
 Ext w1 u1038 ∧
 Q (.bool b1039) u1038)) ∧
 ((ByteArray.toList s1033 == ByteArray.toList s1036) = false →
 Ext w1 u1035 ∧
 Q (.bool false) u1035)))) ∧
 ((ByteArray.toList s1027 == ByteArray.toList s1030) = false →
 Ext w1 u1029 ∧
 Ext w1 u1029 ∧
 Ext w1 u1029 ∧
 Ext w1 u1029 ∧
 Q (.bool false) u1029))
 ∧ (Ext w1 u1029 ∧
 ((ByteArray.toList s1027 == ByteArray.toList s1030) = true →
 Spec Tryd.prog 12 #[.agg #[.int .i64 e_0, .int .u64 e_1, .int .u64 e_2, .int .i64 e_3, .int .i64 e_4]] u1029 (fun v1040 u1041 =>
 ∃ s1042 : ByteArray, v1040 = .string s1042 ∧
 Ext w1 u1041 ∧
 Spec Tryd.prog 13 #[.agg #[.int .i64 e_0, .int .u64 e_1, .int .u64 e_2, .int .i64 e_3, .int .i64 e_4]] u1041 (fun v1043 u1044 =>
 ∃ s1045 : ByteArray, v1043 = .string s1045 ∧
 Ext w1 u1044 ∧
 ((ByteArray.toList s1042 == ByteArray.toList s1045) = true →
 Spec Tryd.prog 14 #[] u1044 (fun v1046 u1047 =>
 ∃ b1048 : Bool, v1046 = .bool b1048 ∧
 Ext w1 u1047 ∧
 Q (.bool b1048) u1047)) ∧
 ((ByteArray.toList s1042 == ByteArray.toList s1045) = false →
 Ext w1 u1044 ∧
 Q (.bool false) u1044)))) ∧
 ((ByteArray.toList s1027 == ByteArray.toList s1030) = false →
 Ext w1 u1029 ∧
 Ext w1 u1029 ∧
 Ext w1 u1029 ∧
 Q (.bool false) u1029)))
 ∧ (Ext w1 u1029 ∧
 Ext w1 u1029 ∧
 ((ByteArray.toList s1027 == ByteArray.toList s1030) = true →
 Spec Tryd.prog 12 #[.agg #[.int .i64 e_0, .int .u64 e_1, .int .u64 e_2, .int .i64 e_3, .int .i64 e_4]] u1029 (fun v1049 u1050 =>
 ∃ s1051 : ByteArray, v1049 = .string s1051 ∧
 Ext w1 u1050 ∧
 Spec Tryd.prog 13 #[.agg #[.int .i64 e_0, .int .u64 e_1, .int .u64 e_2, .int .i64 e_3, .int .i64 e_4]] u1050 (fun v1052 u1053 =>
 ∃ s1054 : ByteArray, v1052 = .string s1054 ∧
 Ext w1 u1053 ∧
 ((ByteArray.toList s1051 == ByteArray.toList s1054) = true →
 Spec Tryd.prog 14 #[] u1053 (fun v1055 u1056 =>
 ∃ b1057 : Bool, v1055 = .bool b1057 ∧
 Ext w1 u1056 ∧
 Q (.bool b1057) u1056)) ∧
 ((ByteArray.toList s1051 == ByteArray.toList s1054) = false →
 Ext w1 u1053 ∧
 Q (.bool false) u1053)))) ∧
 ((ByteArray.toList s1027 == ByteArray.toList s1030) = false →
 Ext w1 u1029 ∧
 Ext w1 u1029 ∧
 Ext w1 u1029 ∧
 Q (.bool false) u1029))))) ∧
 ((ByteArray.toList s4 == ByteArray.toList s7) = false →
 Ext w1 u6 ∧
 Ext w1 u6 ∧
 (Ext w1 u6 ∧
 (Ext w1 u6 ∧
 Ext w1 u6 ∧
 Ext w1 u6 ∧
 Ext w1 u6 ∧
 Q (.bool false) u6)
 ∧ (Ext w1 u6 ∧
 Ext w1 u6 ∧
 Ext w1 u6 ∧
 Ext w1 u6 ∧
 Q (.bool false) u6))
 ∧ (Ext w1 u6 ∧
 Ext w1 u6 ∧
 Ext w1 u6 ∧
 Ext w1 u6 ∧
 Ext w1 u6 ∧
 Q (.bool false) u6)))))
 ∧ (Ext w1 u6 ∧
 (Ext w1 u6 ∧
 (Ext w1 u6 ∧
 (((ByteArray.toList s4 == ByteArray.toList s7) = true →
 Spec Tryd.prog 10 #[.int .i64 c.at_, .agg #[.int .i64 t_0, .int .i64 t_1, .int .i64 t_2, .slice t_3 t_3_l t_3_c]] u6 (fun v1058 u1059 =>
 ∃ s1060 : ByteArray, v1058 = .string s1060 ∧
 Ext w1 u1059 ∧
 Ext w1 u1059 ∧
 Spec Tryd.prog 11 #[.int .i64 c.at_, .agg #[.int .i64 t_0, .int .i64 t_1, .int .i64 t_2, .slice t_3 t_3_l t_3_c]] u1059 (fun v1061 u1062 =>
 ∃ s1063 : ByteArray, v1061 = .string s1063 ∧
 Ext w1 u1062 ∧
 (Ext w1 u1062 ∧
 (((ByteArray.toList s1060 == ByteArray.toList s1063) = true →
 Spec Tryd.prog 12 #[.agg #[.int .i64 e_0, .int .u64 e_1, .int .u64 e_2, .int .i64 e_3, .int .i64 e_4]] u1062 (fun v1064 u1065 =>
 ∃ s1066 : ByteArray, v1064 = .string s1066 ∧
 Ext w1 u1065 ∧
 Ext w1 u1065 ∧
 Spec Tryd.prog 13 #[.agg #[.int .i64 e_0, .int .u64 e_1, .int .u64 e_2, .int .i64 e_3, .int .i64 e_4]] u1065 (fun v1067 u1068 =>
 ∃ s1069 : ByteArray, v1067 = .string s1069 ∧
 Ext w1 u1068 ∧
 ((ByteArray.toList s1066 == ByteArray.toList s1069) = true →
 Spec Tryd.prog 14 #[] u1068 (fun v1070 u1071 =>
 ∃ b1072 : Bool, v1070 = .bool b1072 ∧
 Ext w1 u1071 ∧
 Q (.bool b1072) u1071)) ∧
 ((ByteArray.toList s1066 == ByteArray.toList s1069) = false →
 Ext w1 u1068 ∧
 Q (.bool false) u1068)))) ∧
 ((ByteArray.toList s1060 == ByteArray.toList s1063) = false →
 Ext w1 u1062 ∧
 Ext w1 u1062 ∧
 Ext w1 u1062 ∧
 Ext w1 u1062 ∧
 Q (.bool false) u1062))
 ∧ (Ext w1 u1062 ∧
 ((ByteArray.toList s1060 == ByteArray.toList s1063) = true →
 Spec Tryd.prog 12 #[.agg #[.int .i64 e_0, .int .u64 e_1, .int .u64 e_2, .int .i64 e_3, .int .i64 e_4]] u1062 (fun v1073 u1074 =>
 ∃ s1075 : ByteArray, v1073 = .string s1075 ∧
 Ext w1 u1074 ∧
 Spec Tryd.prog 13 #[.agg #[.int .i64 e_0, .int .u64 e_1, .int .u64 e_2, .int .i64 e_3, .int .i64 e_4]] u1074 (fun v1076 u1077 =>
 ∃ s1078 : ByteArray, v1076 = .string s1078 ∧
 Ext w1 u1077 ∧
 ((ByteArray.toList s1075 == ByteArray.toList s1078) = true →
 Spec Tryd.prog 14 #[] u1077 (fun v1079 u1080 =>
 ∃ b1081 : Bool, v1079 = .bool b1081 ∧
 Ext w1 u1080 ∧
 Q (.bool b1081) u1080)) ∧
 ((ByteArray.toList s1075 == ByteArray.toList s1078) = false →
 Ext w1 u1077 ∧
 Q (.bool false) u1077)))) ∧
 ((ByteArray.toList s1060 == ByteArray.toList s1063) = false →
 Ext w1 u1062 ∧
 Ext w1 u1062 ∧
 Ext w1 u1062 ∧
 Q (.bool false) u1062)))
 ∧ (Ext w1 u1062 ∧
 Ext w1 u1062 ∧
 ((ByteArray.toList s1060 == ByteArray.toList s1063) = true →
 Spec Tryd.prog 12 #[.agg #[.int .i64 e_0, .int .u64 e_1, .int .u64 e_2, .int .i64 e_3, .int .i64 e_4]] u1062 (fun v1082 u1083 =>
 ∃ s1084 : ByteArray, v1082 = .string s1084 ∧
 Ext w1 u1083 ∧
 Spec Tryd.prog 13 #[.agg #[.int .i64 e_0, .int .u64 e_1, .int .u64 e_2, .int .i64 e_3, .int .i64 e_4]] u1083 (fun v1085 u1086 =>
 ∃ s1087 : ByteArray, v1085 = .string s1087 ∧
 Ext w1 u1086 ∧
 ((ByteArray.toList s1084 == ByteArray.toList s1087) = true →
 Spec Tryd.prog 14 #[] u1086 (fun v1088 u1089 =>
 ∃ b1090 : Bool, v1088 = .bool b1090 ∧
 Ext w1 u1089 ∧
 Q (.bool b1090) u1089)) ∧
 ((ByteArray.toList s1084 == ByteArray.toList s1087) = false →
 Ext w1 u1086 ∧
 Q (.bool false) u1086)))) ∧
 ((ByteArray.toList s1060 == ByteArray.toList s1063) = false →
 Ext w1 u1062 ∧
 Ext w1 u1062 ∧
 Ext w1 u1062 ∧
 Q (.bool false) u1062))))) ∧
 ((ByteArray.toList s4 == ByteArray.toList s7) = false →
 Ext w1 u6 ∧
 Ext w1 u6 ∧
 Ext w1 u6 ∧
 (Ext w1 u6 ∧
 (Ext w1 u6 ∧
 Ext w1 u6 ∧
 Ext w1 u6 ∧
 Ext w1 u6 ∧
 Q (.bool false) u6)
 ∧ (Ext w1 u6 ∧
 Ext w1 u6 ∧
 Ext w1 u6 ∧
 Ext w1 u6 ∧
 Q (.bool false) u6))
 ∧ (Ext w1 u6 ∧
 Ext w1 u6 ∧
 Ext w1 u6 ∧
 Ext w1 u6 ∧
 Ext w1 u6 ∧
 Q (.bool false) u6)))
 ∧ (Ext w1 u6 ∧
 ((ByteArray.toList s4 == ByteArray.toList s7) = true →
 Spec Tryd.prog 10 #[.int .i64 c.at_, .agg #[.int .i64 t_0, .int .i64 t_1, .int .i64 t_2, .slice t_3 t_3_l t_3_c]] u6 (fun v1091 u1092 =>
 ∃ s1093 : ByteArray, v1091 = .string s1093 ∧
 Ext w1 u1092 ∧
 Spec Tryd.prog 11 #[.int .i64 c.at_, .agg #[.int .i64 t_0, .int .i64 t_1, .int .i64 t_2, .slice t_3 t_3_l t_3_c]] u1092 (fun v1094 u1095 =>
 ∃ s1096 : ByteArray, v1094 = .string s1096 ∧
 Ext w1 u1095 ∧
 (Ext w1 u1095 ∧
 (((ByteArray.toList s1093 == ByteArray.toList s1096) = true →
 Spec Tryd.prog 12 #[.agg #[.int .i64 e_0, .int .u64 e_1, .int .u64 e_2, .int .i64 e_3, .int .i64 e_4]] u1095 (fun v1097 u1098 =>
 ∃ s1099 : ByteArray, v1097 = .string s1099 ∧
 Ext w1 u1098 ∧
 Ext w1 u1098 ∧
 Spec Tryd.prog 13 #[.agg #[.int .i64 e_0, .int .u64 e_1, .int .u64 e_2, .int .i64 e_3, .int .i64 e_4]] u1098 (fun v1100 u1101 =>
 ∃ s1102 : ByteArray, v1100 = .string s1102 ∧
 Ext w1 u1101 ∧
 ((ByteArray.toList s1099 == ByteArray.toList s1102) = true →
 Spec Tryd.prog 14 #[] u1101 (fun v1103 u1104 =>
 ∃ b1105 : Bool, v1103 = .bool b1105 ∧
 Ext w1 u1104 ∧
 Q (.bool b1105) u1104)) ∧
 ((ByteArray.toList s1099 == ByteArray.toList s1102) = false →
 Ext w1 u1101 ∧
 Q (.bool false) u1101)))) ∧
 ((ByteArray.toList s1093 == ByteArray.toList s1096) = false →
 Ext w1 u1095 ∧
 Ext w1 u1095 ∧
 Ext w1 u1095 ∧
 Ext w1 u1095 ∧
 Q (.bool false) u1095))
 ∧ (Ext w1 u1095 ∧
 ((ByteArray.toList s1093 == ByteArray.toList s1096) = true →
 Spec Tryd.prog 12 #[.agg #[.int .i64 e_0, .int .u64 e_1, .int .u64 e_2, .int .i64 e_3, .int .i64 e_4]] u1095 (fun v1106 u1107 =>
 ∃ s1108 : ByteArray, v1106 = .string s1108 ∧
 Ext w1 u1107 ∧
 Spec Tryd.prog 13 #[.agg #[.int .i64 e_0, .int .u64 e_1, .int .u64 e_2, .int .i64 e_3, .int .i64 e_4]] u1107 (fun v1109 u1110 =>
 ∃ s1111 : ByteArray, v1109 = .string s1111 ∧
 Ext w1 u1110 ∧
 ((ByteArray.toList s1108 == ByteArray.toList s1111) = true →
 Spec Tryd.prog 14 #[] u1110 (fun v1112 u1113 =>
 ∃ b1114 : Bool, v1112 = .bool b1114 ∧
 Ext w1 u1113 ∧
 Q (.bool b1114) u1113)) ∧
 ((ByteArray.toList s1108 == ByteArray.toList s1111) = false →
 Ext w1 u1110 ∧
 Q (.bool false) u1110)))) ∧
 ((ByteArray.toList s1093 == ByteArray.toList s1096) = false →
 Ext w1 u1095 ∧
 Ext w1 u1095 ∧
 Ext w1 u1095 ∧
 Q (.bool false) u1095)))
 ∧ (Ext w1 u1095 ∧
 Ext w1 u1095 ∧
 ((ByteArray.toList s1093 == ByteArray.toList s1096) = true →
 Spec Tryd.prog 12 #[.agg #[.int .i64 e_0, .int .u64 e_1, .int .u64 e_2, .int .i64 e_3, .int .i64 e_4]] u1095 (fun v1115 u1116 =>
 ∃ s1117 : ByteArray, v1115 = .string s1117 ∧
 Ext w1 u1116 ∧
 Spec Tryd.prog 13 #[.agg #[.int .i64 e_0, .int .u64 e_1, .int .u64 e_2, .int .i64 e_3, .int .i64 e_4]] u1116 (fun v1118 u1119 =>
 ∃ s1120 : ByteArray, v1118 = .string s1120 ∧
 Ext w1 u1119 ∧
 ((ByteArray.toList s1117 == ByteArray.toList s1120) = true →
 Spec Tryd.prog 14 #[] u1119 (fun v1121 u1122 =>
 ∃ b1123 : Bool, v1121 = .bool b1123 ∧
 Ext w1 u1122 ∧
 Q (.bool b1123) u1122)) ∧
 ((ByteArray.toList s1117 == ByteArray.toList s1120) = false →
 Ext w1 u1119 ∧
 Q (.bool false) u1119)))) ∧
 ((ByteArray.toList s1093 == ByteArray.toList s1096) = false →
 Ext w1 u1095 ∧
 Ext w1 u1095 ∧
 Ext w1 u1095 ∧
 Q (.bool false) u1095))))) ∧
 ((ByteArray.toList s4 == ByteArray.toList s7) = false →
 Ext w1 u6 ∧
 Ext w1 u6 ∧
 (Ext w1 u6 ∧
 (Ext w1 u6 ∧
 Ext w1 u6 ∧
 Ext w1 u6 ∧
 Ext w1 u6 ∧
 Q (.bool false) u6)
 ∧ (Ext w1 u6 ∧
 Ext w1 u6 ∧
 Ext w1 u6 ∧
 Ext w1 u6 ∧
 Q (.bool false) u6))
 ∧ (Ext w1 u6 ∧
 Ext w1 u6 ∧
 Ext w1 u6 ∧
 Ext w1 u6 ∧
 Ext w1 u6 ∧
 Q (.bool false) u6))))
 ∧ (Ext w1 u6 ∧
 Ext w1 u6 ∧
 ((ByteArray.toList s4 == ByteArray.toList s7) = true →
 Spec Tryd.prog 10 #[.int .i64 c.at_, .agg #[.int .i64 t_0, .int .i64 t_1, .int .i64 t_2, .slice t_3 t_3_l t_3_c]] u6 (fun v1124 u1125 =>
 ∃ s1126 : ByteArray, v1124 = .string s1126 ∧
 Ext w1 u1125 ∧
 Spec Tryd.prog 11 #[.int .i64 c.at_, .agg #[.int .i64 t_0, .int .i64 t_1, .int .i64 t_2, .slice t_3 t_3_l t_3_c]] u1125 (fun v1127 u1128 =>
 ∃ s1129 : ByteArray, v1127 = .string s1129 ∧
 Ext w1 u1128 ∧
 (Ext w1 u1128 ∧
 (((ByteArray.toList s1126 == ByteArray.toList s1129) = true →
 Spec Tryd.prog 12 #[.agg #[.int .i64 e_0, .int .u64 e_1, .int .u64 e_2, .int .i64 e_3, .int .i64 e_4]] u1128 (fun v1130 u1131 =>
 ∃ s1132 : ByteArray, v1130 = .string s1132 ∧
 Ext w1 u1131 ∧
 Ext w1 u1131 ∧
 Spec Tryd.prog 13 #[.agg #[.int .i64 e_0, .int .u64 e_1, .int .u64 e_2, .int .i64 e_3, .int .i64 e_4]] u1131 (fun v1133 u1134 =>
 ∃ s1135 : ByteArray, v1133 = .string s1135 ∧
 Ext w1 u1134 ∧
 ((ByteArray.toList s1132 == ByteArray.toList s1135) = true →
 Spec Tryd.prog 14 #[] u1134 (fun v1136 u1137 =>
 ∃ b1138 : Bool, v1136 = .bool b1138 ∧
 Ext w1 u1137 ∧
 Q (.bool b1138) u1137)) ∧
 ((ByteArray.toList s1132 == ByteArray.toList s1135) = false →
 Ext w1 u1134 ∧
 Q (.bool false) u1134)))) ∧
 ((ByteArray.toList s1126 == ByteArray.toList s1129) = false →
 Ext w1 u1128 ∧
 Ext w1 u1128 ∧
 Ext w1 u1128 ∧
 Ext w1 u1128 ∧
 Q (.bool false) u1128))
 ∧ (Ext w1 u1128 ∧
 ((ByteArray.toList s1126 == ByteArray.toList s1129) = true →
 Spec Tryd.prog 12 #[.agg #[.int .i64 e_0, .int .u64 e_1, .int .u64 e_2, .int .i64 e_3, .int .i64 e_4]] u1128 (fun v1139 u1140 =>
 ∃ s1141 : ByteArray, v1139 = .string s1141 ∧
 Ext w1 u1140 ∧
 Spec Tryd.prog 13 #[.agg #[.int .i64 e_0, .int .u64 e_1, .int .u64 e_2, .int .i64 e_3, .int .i64 e_4]] u1140 (fun v1142 u1143 =>
 ∃ s1144 : ByteArray, v1142 = .string s1144 ∧
 Ext w1 u1143 ∧
 ((ByteArray.toList s1141 == ByteArray.toList s1144) = true →
 Spec Tryd.prog 14 #[] u1143 (fun v1145 u1146 =>
 ∃ b1147 : Bool, v1145 = .bool b1147 ∧
 Ext w1 u1146 ∧
 Q (.bool b1147) u1146)) ∧
 ((ByteArray.toList s1141 == ByteArray.toList s1144) = false →
 Ext w1 u1143 ∧
 Q (.bool false) u1143)))) ∧
 ((ByteArray.toList s1126 == ByteArray.toList s1129) = false →
 Ext w1 u1128 ∧
 Ext w1 u1128 ∧
 Ext w1 u1128 ∧
 Q (.bool false) u1128)))
 ∧ (Ext w1 u1128 ∧
 Ext w1 u1128 ∧
 ((ByteArray.toList s1126 == ByteArray.toList s1129) = true →
 Spec Tryd.prog 12 #[.agg #[.int .i64 e_0, .int .u64 e_1, .int .u64 e_2, .int .i64 e_3, .int .i64 e_4]] u1128 (fun v1148 u1149 =>
 ∃ s1150 : ByteArray, v1148 = .string s1150 ∧
 Ext w1 u1149 ∧
 Spec Tryd.prog 13 #[.agg #[.int .i64 e_0, .int .u64 e_1, .int .u64 e_2, .int .i64 e_3, .int .i64 e_4]] u1149 (fun v1151 u1152 =>
 ∃ s1153 : ByteArray, v1151 = .string s1153 ∧
 Ext w1 u1152 ∧
 ((ByteArray.toList s1150 == ByteArray.toList s1153) = true →
 Spec Tryd.prog 14 #[] u1152 (fun v1154 u1155 =>
 ∃ b1156 : Bool, v1154 = .bool b1156 ∧
 Ext w1 u1155 ∧
 Q (.bool b1156) u1155)) ∧
 ((ByteArray.toList s1150 == ByteArray.toList s1153) = false →
 Ext w1 u1152 ∧
 Q (.bool false) u1152)))) ∧
 ((ByteArray.toList s1126 == ByteArray.toList s1129) = false →
 Ext w1 u1128 ∧
 Ext w1 u1128 ∧
 Ext w1 u1128 ∧
 Q (.bool false) u1128))))) ∧
 ((ByteArray.toList s4 == ByteArray.toList s7) = false →
 Ext w1 u6 ∧
 Ext w1 u6 ∧
 (Ext w1 u6 ∧
 (Ext w1 u6 ∧
 Ext w1 u6 ∧
 Ext w1 u6 ∧
 Ext w1 u6 ∧
 Q (.bool false) u6)
 ∧ (Ext w1 u6 ∧
 Ext w1 u6 ∧
 Ext w1 u6 ∧
 Ext w1 u6 ∧
 Q (.bool false) u6))
 ∧ (Ext w1 u6 ∧
 Ext w1 u6 ∧
 Ext w1 u6 ∧
 Ext w1 u6 ∧
 Ext w1 u6 ∧
 Q (.bool false) u6))))
 ∧ (Ext w1 u6 ∧
 (Ext w1 u6 ∧
 (((ByteArray.toList s4 == ByteArray.toList s7) = true →
 Spec Tryd.prog 10 #[.int .i64 c.at_, .agg #[.int .i64 t_0, .int .i64 t_1, .int .i64 t_2, .slice t_3 t_3_l t_3_c]] u6 (fun v1157 u1158 =>
 ∃ s1159 : ByteArray, v1157 = .string s1159 ∧
 Ext w1 u1158 ∧
 Ext w1 u1158 ∧
 Spec Tryd.prog 11 #[.int .i64 c.at_, .agg #[.int .i64 t_0, .int .i64 t_1, .int .i64 t_2, .slice t_3 t_3_l t_3_c]] u1158 (fun v1160 u1161 =>
 ∃ s1162 : ByteArray, v1160 = .string s1162 ∧
 Ext w1 u1161 ∧
 (Ext w1 u1161 ∧
 (((ByteArray.toList s1159 == ByteArray.toList s1162) = true →
 Spec Tryd.prog 12 #[.agg #[.int .i64 e_0, .int .u64 e_1, .int .u64 e_2, .int .i64 e_3, .int .i64 e_4]] u1161 (fun v1163 u1164 =>
 ∃ s1165 : ByteArray, v1163 = .string s1165 ∧
 Ext w1 u1164 ∧
 Ext w1 u1164 ∧
 Spec Tryd.prog 13 #[.agg #[.int .i64 e_0, .int .u64 e_1, .int .u64 e_2, .int .i64 e_3, .int .i64 e_4]] u1164 (fun v1166 u1167 =>
 ∃ s1168 : ByteArray, v1166 = .string s1168 ∧
 Ext w1 u1167 ∧
 ((ByteArray.toList s1165 == ByteArray.toList s1168) = true →
 Spec Tryd.prog 14 #[] u1167 (fun v1169 u1170 =>
 ∃ b1171 : Bool, v1169 = .bool b1171 ∧
 Ext w1 u1170 ∧
 Q (.bool b1171) u1170)) ∧
 ((ByteArray.toList s1165 == ByteArray.toList s1168) = false →
 Ext w1 u1167 ∧
 Q (.bool false) u1167)))) ∧
 ((ByteArray.toList s1159 == ByteArray.toList s1162) = false →
 Ext w1 u1161 ∧
 Ext w1 u1161 ∧
 Ext w1 u1161 ∧
 Ext w1 u1161 ∧
 Q (.bool false) u1161))
 ∧ (Ext w1 u1161 ∧
 ((ByteArray.toList s1159 == ByteArray.toList s1162) = true →
 Spec Tryd.prog 12 #[.agg #[.int .i64 e_0, .int .u64 e_1, .int .u64 e_2, .int .i64 e_3, .int .i64 e_4]] u1161 (fun v1172 u1173 =>
 ∃ s1174 : ByteArray, v1172 = .string s1174 ∧
 Ext w1 u1173 ∧
 Spec Tryd.prog 13 #[.agg #[.int .i64 e_0, .int .u64 e_1, .int .u64 e_2, .int .i64 e_3, .int .i64 e_4]] u1173 (fun v1175 u1176 =>
 ∃ s1177 : ByteArray, v1175 = .string s1177 ∧
 Ext w1 u1176 ∧
 ((ByteArray.toList s1174 == ByteArray.toList s1177) = true →
 Spec Tryd.prog 14 #[] u1176 (fun v1178 u1179 =>
 ∃ b1180 : Bool, v1178 = .bool b1180 ∧
 Ext w1 u1179 ∧
 Q (.bool b1180) u1179)) ∧
 ((ByteArray.toList s1174 == ByteArray.toList s1177) = false →
 Ext w1 u1176 ∧
 Q (.bool false) u1176)))) ∧
 ((ByteArray.toList s1159 == ByteArray.toList s1162) = false →
 Ext w1 u1161 ∧
 Ext w1 u1161 ∧
 Ext w1 u1161 ∧
 Q (.bool false) u1161)))
 ∧ (Ext w1 u1161 ∧
 Ext w1 u1161 ∧
 ((ByteArray.toList s1159 == ByteArray.toList s1162) = true →
 Spec Tryd.prog 12 #[.agg #[.int .i64 e_0, .int .u64 e_1, .int .u64 e_2, .int .i64 e_3, .int .i64 e_4]] u1161 (fun v1181 u1182 =>
 ∃ s1183 : ByteArray, v1181 = .string s1183 ∧
 Ext w1 u1182 ∧
 Spec Tryd.prog 13 #[.agg #[.int .i64 e_0, .int .u64 e_1, .int .u64 e_2, .int .i64 e_3, .int .i64 e_4]] u1182 (fun v1184 u1185 =>
 ∃ s1186 : ByteArray, v1184 = .string s1186 ∧
 Ext w1 u1185 ∧
 ((ByteArray.toList s1183 == ByteArray.toList s1186) = true →
 Spec Tryd.prog 14 #[] u1185 (fun v1187 u1188 =>
 ∃ b1189 : Bool, v1187 = .bool b1189 ∧
 Ext w1 u1188 ∧
 Q (.bool b1189) u1188)) ∧
 ((ByteArray.toList s1183 == ByteArray.toList s1186) = false →
 Ext w1 u1185 ∧
 Q (.bool false) u1185)))) ∧
 ((ByteArray.toList s1159 == ByteArray.toList s1162) = false →
 Ext w1 u1161 ∧
 Ext w1 u1161 ∧
 Ext w1 u1161 ∧
 Q (.bool false) u1161))))) ∧
 ((ByteArray.toList s4 == ByteArray.toList s7) = false →
 Ext w1 u6 ∧
 Ext w1 u6 ∧
 Ext w1 u6 ∧
 (Ext w1 u6 ∧
 (Ext w1 u6 ∧
 Ext w1 u6 ∧
 Ext w1 u6 ∧
 Ext w1 u6 ∧
 Q (.bool false) u6)
 ∧ (Ext w1 u6 ∧
 Ext w1 u6 ∧
 Ext w1 u6 ∧
 Ext w1 u6 ∧
 Q (.bool false) u6))
 ∧ (Ext w1 u6 ∧
 Ext w1 u6 ∧
 Ext w1 u6 ∧
 Ext w1 u6 ∧
 Ext w1 u6 ∧
 Q (.bool false) u6)))
 ∧ (Ext w1 u6 ∧
 ((ByteArray.toList s4 == ByteArray.toList s7) = true →
 Spec Tryd.prog 10 #[.int .i64 c.at_, .agg #[.int .i64 t_0, .int .i64 t_1, .int .i64 t_2, .slice t_3 t_3_l t_3_c]] u6 (fun v1190 u1191 =>
 ∃ s1192 : ByteArray, v1190 = .string s1192 ∧
 Ext w1 u1191 ∧
 Spec Tryd.prog 11 #[.int .i64 c.at_, .agg #[.int .i64 t_0, .int .i64 t_1, .int .i64 t_2, .slice t_3 t_3_l t_3_c]] u1191 (fun v1193 u1194 =>
 ∃ s1195 : ByteArray, v1193 = .string s1195 ∧
 Ext w1 u1194 ∧
 (Ext w1 u1194 ∧
 (((ByteArray.toList s1192 == ByteArray.toList s1195) = true →
 Spec Tryd.prog 12 #[.agg #[.int .i64 e_0, .int .u64 e_1, .int .u64 e_2, .int .i64 e_3, .int .i64 e_4]] u1194 (fun v1196 u1197 =>
 ∃ s1198 : ByteArray, v1196 = .string s1198 ∧
 Ext w1 u1197 ∧
 Ext w1 u1197 ∧
 Spec Tryd.prog 13 #[.agg #[.int .i64 e_0, .int .u64 e_1, .int .u64 e_2, .int .i64 e_3, .int .i64 e_4]] u1197 (fun v1199 u1200 =>
 ∃ s1201 : ByteArray, v1199 = .string s1201 ∧
 Ext w1 u1200 ∧
 ((ByteArray.toList s1198 == ByteArray.toList s1201) = true →
 Spec Tryd.prog 14 #[] u1200 (fun v1202 u1203 =>
 ∃ b1204 : Bool, v1202 = .bool b1204 ∧
 Ext w1 u1203 ∧
 Q (.bool b1204) u1203)) ∧
 ((ByteArray.toList s1198 == ByteArray.toList s1201) = false →
 Ext w1 u1200 ∧
 Q (.bool false) u1200)))) ∧
 ((ByteArray.toList s1192 == ByteArray.toList s1195) = false →
 Ext w1 u1194 ∧
 Ext w1 u1194 ∧
 Ext w1 u1194 ∧
 Ext w1 u1194 ∧
 Q (.bool false) u1194))
 ∧ (Ext w1 u1194 ∧
 ((ByteArray.toList s1192 == ByteArray.toList s1195) = true →
 Spec Tryd.prog 12 #[.agg #[.int .i64 e_0, .int .u64 e_1, .int .u64 e_2, .int .i64 e_3, .int .i64 e_4]] u1194 (fun v1205 u1206 =>
 ∃ s1207 : ByteArray, v1205 = .string s1207 ∧
 Ext w1 u1206 ∧
 Spec Tryd.prog 13 #[.agg #[.int .i64 e_0, .int .u64 e_1, .int .u64 e_2, .int .i64 e_3, .int .i64 e_4]] u1206 (fun v1208 u1209 =>
 ∃ s1210 : ByteArray, v1208 = .string s1210 ∧
 Ext w1 u1209 ∧
 ((ByteArray.toList s1207 == ByteArray.toList s1210) = true →
 Spec Tryd.prog 14 #[] u1209 (fun v1211 u1212 =>
 ∃ b1213 : Bool, v1211 = .bool b1213 ∧
 Ext w1 u1212 ∧
 Q (.bool b1213) u1212)) ∧
 ((ByteArray.toList s1207 == ByteArray.toList s1210) = false →
 Ext w1 u1209 ∧
 Q (.bool false) u1209)))) ∧
 ((ByteArray.toList s1192 == ByteArray.toList s1195) = false →
 Ext w1 u1194 ∧
 Ext w1 u1194 ∧
 Ext w1 u1194 ∧
 Q (.bool false) u1194)))
 ∧ (Ext w1 u1194 ∧
 Ext w1 u1194 ∧
 ((ByteArray.toList s1192 == ByteArray.toList s1195) = true →
 Spec Tryd.prog 12 #[.agg #[.int .i64 e_0, .int .u64 e_1, .int .u64 e_2, .int .i64 e_3, .int .i64 e_4]] u1194 (fun v1214 u1215 =>
 ∃ s1216 : ByteArray, v1214 = .string s1216 ∧
 Ext w1 u1215 ∧
 Spec Tryd.prog 13 #[.agg #[.int .i64 e_0, .int .u64 e_1, .int .u64 e_2, .int .i64 e_3, .int .i64 e_4]] u1215 (fun v1217 u1218 =>
 ∃ s1219 : ByteArray, v1217 = .string s1219 ∧
 Ext w1 u1218 ∧
 ((ByteArray.toList s1216 == ByteArray.toList s1219) = true →
 Spec Tryd.prog 14 #[] u1218 (fun v1220 u1221 =>
 ∃ b1222 : Bool, v1220 = .bool b1222 ∧
 Ext w1 u1221 ∧
 Q (.bool b1222) u1221)) ∧
 ((ByteArray.toList s1216 == ByteArray.toList s1219) = false →
 Ext w1 u1218 ∧
 Q (.bool false) u1218)))) ∧
 ((ByteArray.toList s1192 == ByteArray.toList s1195) = false →
 Ext w1 u1194 ∧
 Ext w1 u1194 ∧
 Ext w1 u1194 ∧
 Q (.bool false) u1194))))) ∧
 ((ByteArray.toList s4 == ByteArray.toList s7) = false →
 Ext w1 u6 ∧
 Ext w1 u6 ∧
 (Ext w1 u6 ∧
 (Ext w1 u6 ∧
 Ext w1 u6 ∧
 Ext w1 u6 ∧
 Ext w1 u6 ∧
 Q (.bool false) u6)
 ∧ (Ext w1 u6 ∧
 Ext w1 u6 ∧
 Ext w1 u6 ∧
 Ext w1 u6 ∧
 Q (.bool false) u6))
 ∧ (Ext w1 u6 ∧
 Ext w1 u6 ∧
 Ext w1 u6 ∧
 Ext w1 u6 ∧
 Ext w1 u6 ∧
 Q (.bool false) u6))))
 ∧ (Ext w1 u6 ∧
 Ext w1 u6 ∧
 ((ByteArray.toList s4 == ByteArray.toList s7) = true →
 Spec Tryd.prog 10 #[.int .i64 c.at_, .agg #[.int .i64 t_0, .int .i64 t_1, .int .i64 t_2, .slice t_3 t_3_l t_3_c]] u6 (fun v1223 u1224 =>
 ∃ s1225 : ByteArray, v1223 = .string s1225 ∧
 Ext w1 u1224 ∧
 Spec Tryd.prog 11 #[.int .i64 c.at_, .agg #[.int .i64 t_0, .int .i64 t_1, .int .i64 t_2, .slice t_3 t_3_l t_3_c]] u1224 (fun v1226 u1227 =>
 ∃ s1228 : ByteArray, v1226 = .string s1228 ∧
 Ext w1 u1227 ∧
 (Ext w1 u1227 ∧
 (((ByteArray.toList s1225 == ByteArray.toList s1228) = true →
 Spec Tryd.prog 12 #[.agg #[.int .i64 e_0, .int .u64 e_1, .int .u64 e_2, .int .i64 e_3, .int .i64 e_4]] u1227 (fun v1229 u1230 =>
 ∃ s1231 : ByteArray, v1229 = .string s1231 ∧
 Ext w1 u1230 ∧
 Ext w1 u1230 ∧
 Spec Tryd.prog 13 #[.agg #[.int .i64 e_0, .int .u64 e_1, .int .u64 e_2, .int .i64 e_3, .int .i64 e_4]] u1230 (fun v1232 u1233 =>
 ∃ s1234 : ByteArray, v1232 = .string s1234 ∧
 Ext w1 u1233 ∧
 ((ByteArray.toList s1231 == ByteArray.toList s1234) = true →
 Spec Tryd.prog 14 #[] u1233 (fun v1235 u1236 =>
 ∃ b1237 : Bool, v1235 = .bool b1237 ∧
 Ext w1 u1236 ∧
 Q (.bool b1237) u1236)) ∧
 ((ByteArray.toList s1231 == ByteArray.toList s1234) = false →
 Ext w1 u1233 ∧
 Q (.bool false) u1233)))) ∧
 ((ByteArray.toList s1225 == ByteArray.toList s1228) = false →
 Ext w1 u1227 ∧
 Ext w1 u1227 ∧
 Ext w1 u1227 ∧
 Ext w1 u1227 ∧
 Q (.bool false) u1227))
 ∧ (Ext w1 u1227 ∧
 ((ByteArray.toList s1225 == ByteArray.toList s1228) = true →
 Spec Tryd.prog 12 #[.agg #[.int .i64 e_0, .int .u64 e_1, .int .u64 e_2, .int .i64 e_3, .int .i64 e_4]] u1227 (fun v1238 u1239 =>
 ∃ s1240 : ByteArray, v1238 = .string s1240 ∧
 Ext w1 u1239 ∧
 Spec Tryd.prog 13 #[.agg #[.int .i64 e_0, .int .u64 e_1, .int .u64 e_2, .int .i64 e_3, .int .i64 e_4]] u1239 (fun v1241 u1242 =>
 ∃ s1243 : ByteArray, v1241 = .string s1243 ∧
 Ext w1 u1242 ∧
 ((ByteArray.toList s1240 == ByteArray.toList s1243) = true →
 Spec Tryd.prog 14 #[] u1242 (fun v1244 u1245 =>
 ∃ b1246 : Bool, v1244 = .bool b1246 ∧
 Ext w1 u1245 ∧
 Q (.bool b1246) u1245)) ∧
 ((ByteArray.toList s1240 == ByteArray.toList s1243) = false →
 Ext w1 u1242 ∧
 Q (.bool false) u1242)))) ∧
 ((ByteArray.toList s1225 == ByteArray.toList s1228) = false →
 Ext w1 u1227 ∧
 Ext w1 u1227 ∧
 Ext w1 u1227 ∧
 Q (.bool false) u1227)))
 ∧ (Ext w1 u1227 ∧
 Ext w1 u1227 ∧
 ((ByteArray.toList s1225 == ByteArray.toList s1228) = true →
 Spec Tryd.prog 12 #[.agg #[.int .i64 e_0, .int .u64 e_1, .int .u64 e_2, .int .i64 e_3, .int .i64 e_4]] u1227 (fun v1247 u1248 =>
 ∃ s1249 : ByteArray, v1247 = .string s1249 ∧
 Ext w1 u1248 ∧
 Spec Tryd.prog 13 #[.agg #[.int .i64 e_0, .int .u64 e_1, .int .u64 e_2, .int .i64 e_3, .int .i64 e_4]] u1248 (fun v1250 u1251 =>
 ∃ s1252 : ByteArray, v1250 = .string s1252 ∧
 Ext w1 u1251 ∧
 ((ByteArray.toList s1249 == ByteArray.toList s1252) = true →
 Spec Tryd.prog 14 #[] u1251 (fun v1253 u1254 =>
 ∃ b1255 : Bool, v1253 = .bool b1255 ∧
 Ext w1 u1254 ∧
 Q (.bool b1255) u1254)) ∧
 ((ByteArray.toList s1249 == ByteArray.toList s1252) = false →
 Ext w1 u1251 ∧
 Q (.bool false) u1251)))) ∧
 ((ByteArray.toList s1225 == ByteArray.toList s1228) = false →
 Ext w1 u1227 ∧
 Ext w1 u1227 ∧
 Ext w1 u1227 ∧
 Q (.bool false) u1227))))) ∧
 ((ByteArray.toList s4 == ByteArray.toList s7) = false →
 Ext w1 u6 ∧
 Ext w1 u6 ∧
 (Ext w1 u6 ∧
 (Ext w1 u6 ∧
 Ext w1 u6 ∧
 Ext w1 u6 ∧
 Ext w1 u6 ∧
 Q (.bool false) u6)
 ∧ (Ext w1 u6 ∧
 Ext w1 u6 ∧
 Ext w1 u6 ∧
 Ext w1 u6 ∧
 Q (.bool false) u6))
 ∧ (Ext w1 u6 ∧
 Ext w1 u6 ∧
 Ext w1 u6 ∧
 Ext w1 u6 ∧
 Ext w1 u6 ∧
 Q (.bool false) u6))))
 ∧ (Ext w1 u6 ∧
 (Ext w1 u6 ∧
 Ext w1 u6 ∧
 ((ByteArray.toList s4 == ByteArray.toList s7) = true →
 Spec Tryd.prog 10 #[.int .i64 c.at_, .agg #[.int .i64 t_0, .int .i64 t_1, .int .i64 t_2, .slice t_3 t_3_l t_3_c]] u6 (fun v1256 u1257 =>
 ∃ s1258 : ByteArray, v1256 = .string s1258 ∧
 Ext w1 u1257 ∧
 Spec Tryd.prog 11 #[.int .i64 c.at_, .agg #[.int .i64 t_0, .int .i64 t_1, .int .i64 t_2, .slice t_3 t_3_l t_3_c]] u1257 (fun v1259 u1260 =>
 ∃ s1261 : ByteArray, v1259 = .string s1261 ∧
 Ext w1 u1260 ∧
 (Ext w1 u1260 ∧
 (((ByteArray.toList s1258 == ByteArray.toList s1261) = true →
 Spec Tryd.prog 12 #[.agg #[.int .i64 e_0, .int .u64 e_1, .int .u64 e_2, .int .i64 e_3, .int .i64 e_4]] u1260 (fun v1262 u1263 =>
 ∃ s1264 : ByteArray, v1262 = .string s1264 ∧
 Ext w1 u1263 ∧
 Ext w1 u1263 ∧
 Spec Tryd.prog 13 #[.agg #[.int .i64 e_0, .int .u64 e_1, .int .u64 e_2, .int .i64 e_3, .int .i64 e_4]] u1263 (fun v1265 u1266 =>
 ∃ s1267 : ByteArray, v1265 = .string s1267 ∧
 Ext w1 u1266 ∧
 ((ByteArray.toList s1264 == ByteArray.toList s1267) = true →
 Spec Tryd.prog 14 #[] u1266 (fun v1268 u1269 =>
 ∃ b1270 : Bool, v1268 = .bool b1270 ∧
 Ext w1 u1269 ∧
 Q (.bool b1270) u1269)) ∧
 ((ByteArray.toList s1264 == ByteArray.toList s1267) = false →
 Ext w1 u1266 ∧
 Q (.bool false) u1266)))) ∧
 ((ByteArray.toList s1258 == ByteArray.toList s1261) = false →
 Ext w1 u1260 ∧
 Ext w1 u1260 ∧
 Ext w1 u1260 ∧
 Ext w1 u1260 ∧
 Q (.bool false) u1260))
 ∧ (Ext w1 u1260 ∧
 ((ByteArray.toList s1258 == ByteArray.toList s1261) = true →
 Spec Tryd.prog 12 #[.agg #[.int .i64 e_0, .int .u64 e_1, .int .u64 e_2, .int .i64 e_3, .int .i64 e_4]] u1260 (fun v1271 u1272 =>
 ∃ s1273 : ByteArray, v1271 = .string s1273 ∧
 Ext w1 u1272 ∧
 Spec Tryd.prog 13 #[.agg #[.int .i64 e_0, .int .u64 e_1, .int .u64 e_2, .int .i64 e_3, .int .i64 e_4]] u1272 (fun v1274 u1275 =>
 ∃ s1276 : ByteArray, v1274 = .string s1276 ∧
 Ext w1 u1275 ∧
 ((ByteArray.toList s1273 == ByteArray.toList s1276) = true →
 Spec Tryd.prog 14 #[] u1275 (fun v1277 u1278 =>
 ∃ b1279 : Bool, v1277 = .bool b1279 ∧
 Ext w1 u1278 ∧
 Q (.bool b1279) u1278)) ∧
 ((ByteArray.toList s1273 == ByteArray.toList s1276) = false →
 Ext w1 u1275 ∧
 Q (.bool false) u1275)))) ∧
 ((ByteArray.toList s1258 == ByteArray.toList s1261) = false →
 Ext w1 u1260 ∧
 Ext w1 u1260 ∧
 Ext w1 u1260 ∧
 Q (.bool false) u1260)))
 ∧ (Ext w1 u1260 ∧
 Ext w1 u1260 ∧
 ((ByteArray.toList s1258 == ByteArray.toList s1261) = true →
 Spec Tryd.prog 12 #[.agg #[.int .i64 e_0, .int .u64 e_1, .int .u64 e_2, .int .i64 e_3, .int .i64 e_4]] u1260 (fun v1280 u1281 =>
 ∃ s1282 : ByteArray, v1280 = .string s1282 ∧
 Ext w1 u1281 ∧
 Spec Tryd.prog 13 #[.agg #[.int .i64 e_0, .int .u64 e_1, .int .u64 e_2, .int .i64 e_3, .int .i64 e_4]] u1281 (fun v1283 u1284 =>
 ∃ s1285 : ByteArray, v1283 = .string s1285 ∧
 Ext w1 u1284 ∧
 ((ByteArray.toList s1282 == ByteArray.toList s1285) = true →
 Spec Tryd.prog 14 #[] u1284 (fun v1286 u1287 =>
 ∃ b1288 : Bool, v1286 = .bool b1288 ∧
 Ext w1 u1287 ∧
 Q (.bool b1288) u1287)) ∧
 ((ByteArray.toList s1282 == ByteArray.toList s1285) = false →
 Ext w1 u1284 ∧
 Q (.bool false) u1284)))) ∧
 ((ByteArray.toList s1258 == ByteArray.toList s1261) = false →
 Ext w1 u1260 ∧
 Ext w1 u1260 ∧
 Ext w1 u1260 ∧
 Q (.bool false) u1260))))) ∧
 ((ByteArray.toList s4 == ByteArray.toList s7) = false →
 Ext w1 u6 ∧
 Ext w1 u6 ∧
 (Ext w1 u6 ∧
 (Ext w1 u6 ∧
 Ext w1 u6 ∧
 Ext w1 u6 ∧
 Ext w1 u6 ∧
 Q (.bool false) u6)
 ∧ (Ext w1 u6 ∧
 Ext w1 u6 ∧
 Ext w1 u6 ∧
 Ext w1 u6 ∧
 Q (.bool false) u6))
 ∧ (Ext w1 u6 ∧
 Ext w1 u6 ∧
 Ext w1 u6 ∧
 Ext w1 u6 ∧
 Ext w1 u6 ∧
 Q (.bool false) u6)))
 ∧ (Ext w1 u6 ∧
 Ext w1 u6 ∧
 ((ByteArray.toList s4 == ByteArray.toList s7) = true →
 Spec Tryd.prog 10 #[.int .i64 c.at_, .agg #[.int .i64 t_0, .int .i64 t_1, .int .i64 t_2, .slice t_3 t_3_l t_3_c]] u6 (fun v1289 u1290 =>
 ∃ s1291 : ByteArray, v1289 = .string s1291 ∧
 Ext w1 u1290 ∧
 Spec Tryd.prog 11 #[.int .i64 c.at_, .agg #[.int .i64 t_0, .int .i64 t_1, .int .i64 t_2, .slice t_3 t_3_l t_3_c]] u1290 (fun v1292 u1293 =>
 ∃ s1294 : ByteArray, v1292 = .string s1294 ∧
 Ext w1 u1293 ∧
 (Ext w1 u1293 ∧
 (((ByteArray.toList s1291 == ByteArray.toList s1294) = true →
 Spec Tryd.prog 12 #[.agg #[.int .i64 e_0, .int .u64 e_1, .int .u64 e_2, .int .i64 e_3, .int .i64 e_4]] u1293 (fun v1295 u1296 =>
 ∃ s1297 : ByteArray, v1295 = .string s1297 ∧
 Ext w1 u1296 ∧
 Ext w1 u1296 ∧
 Spec Tryd.prog 13 #[.agg #[.int .i64 e_0, .int .u64 e_1, .int .u64 e_2, .int .i64 e_3, .int .i64 e_4]] u1296 (fun v1298 u1299 =>
 ∃ s1300 : ByteArray, v1298 = .string s1300 ∧
 Ext w1 u1299 ∧
 ((ByteArray.toList s1297 == ByteArray.toList s1300) = true →
 Spec Tryd.prog 14 #[] u1299 (fun v1301 u1302 =>
 ∃ b1303 : Bool, v1301 = .bool b1303 ∧
 Ext w1 u1302 ∧
 Q (.bool b1303) u1302)) ∧
 ((ByteArray.toList s1297 == ByteArray.toList s1300) = false →
 Ext w1 u1299 ∧
 Q (.bool false) u1299)))) ∧
 ((ByteArray.toList s1291 == ByteArray.toList s1294) = false →
 Ext w1 u1293 ∧
 Ext w1 u1293 ∧
 Ext w1 u1293 ∧
 Ext w1 u1293 ∧
 Q (.bool false) u1293))
 ∧ (Ext w1 u1293 ∧
 ((ByteArray.toList s1291 == ByteArray.toList s1294) = true →
 Spec Tryd.prog 12 #[.agg #[.int .i64 e_0, .int .u64 e_1, .int .u64 e_2, .int .i64 e_3, .int .i64 e_4]] u1293 (fun v1304 u1305 =>
 ∃ s1306 : ByteArray, v1304 = .string s1306 ∧
 Ext w1 u1305 ∧
 Spec Tryd.prog 13 #[.agg #[.int .i64 e_0, .int .u64 e_1, .int .u64 e_2, .int .i64 e_3, .int .i64 e_4]] u1305 (fun v1307 u1308 =>
 ∃ s1309 : ByteArray, v1307 = .string s1309 ∧
 Ext w1 u1308 ∧
 ((ByteArray.toList s1306 == ByteArray.toList s1309) = true →
 Spec Tryd.prog 14 #[] u1308 (fun v1310 u1311 =>
 ∃ b1312 : Bool, v1310 = .bool b1312 ∧
 Ext w1 u1311 ∧
 Q (.bool b1312) u1311)) ∧
 ((ByteArray.toList s1306 == ByteArray.toList s1309) = false →
 Ext w1 u1308 ∧
 Q (.bool false) u1308)))) ∧
 ((ByteArray.toList s1291 == ByteArray.toList s1294) = false →
 Ext w1 u1293 ∧
 Ext w1 u1293 ∧
 Ext w1 u1293 ∧
 Q (.bool false) u1293)))
 ∧ (Ext w1 u1293 ∧
 Ext w1 u1293 ∧
 ((ByteArray.toList s1291 == ByteArray.toList s1294) = true →
 Spec Tryd.prog 12 #[.agg #[.int .i64 e_0, .int .u64 e_1, .int .u64 e_2, .int .i64 e_3, .int .i64 e_4]] u1293 (fun v1313 u1314 =>
 ∃ s1315 : ByteArray, v1313 = .string s1315 ∧
 Ext w1 u1314 ∧
 Spec Tryd.prog 13 #[.agg #[.int .i64 e_0, .int .u64 e_1, .int .u64 e_2, .int .i64 e_3, .int .i64 e_4]] u1314 (fun v1316 u1317 =>
 ∃ s1318 : ByteArray, v1316 = .string s1318 ∧
 Ext w1 u1317 ∧
 ((ByteArray.toList s1315 == ByteArray.toList s1318) = true →
 Spec Tryd.prog 14 #[] u1317 (fun v1319 u1320 =>
 ∃ b1321 : Bool, v1319 = .bool b1321 ∧
 Ext w1 u1320 ∧
 Q (.bool b1321) u1320)) ∧
 ((ByteArray.toList s1315 == ByteArray.toList s1318) = false →
 Ext w1 u1317 ∧
 Q (.bool false) u1317)))) ∧
 ((ByteArray.toList s1291 == ByteArray.toList s1294) = false →
 Ext w1 u1293 ∧
 Ext w1 u1293 ∧
 Ext w1 u1293 ∧
 Q (.bool false) u1293))))) ∧
 ((ByteArray.toList s4 == ByteArray.toList s7) = false →
 Ext w1 u6 ∧
 Ext w1 u6 ∧
 (Ext w1 u6 ∧
 (Ext w1 u6 ∧
 Ext w1 u6 ∧
 Ext w1 u6 ∧
 Ext w1 u6 ∧
 Q (.bool false) u6)
 ∧ (Ext w1 u6 ∧
 Ext w1 u6 ∧
 Ext w1 u6 ∧
 Ext w1 u6 ∧
 Q (.bool false) u6))
 ∧ (Ext w1 u6 ∧
 Ext w1 u6 ∧
 Ext w1 u6 ∧
 Ext w1 u6 ∧
 Ext w1 u6 ∧
 Q (.bool false) u6)))))))))
set_option maxRecDepth 100000 in
theorem f3_vc (c : Call) (t_0 : Int) (t_1 : Int) (t_2 : Int) (t_3 : Option Addr) (t_3_l t_3_c : Nat) (e_0 : Int) (e_1 : Int) (e_2 : Int) (e_3 : Int) (e_4 : Int) (u : PH) (Q : Value → PH → Prop) : fnVC Tryd.prog f3_h Tryd.f3 [.agg [.v (.int .i64 c.client), .v (.int .i64 c.id), .v (.int .i64 c.op.kind), .v (.int .i64 c.op.key), .v (.int .i64 c.op.val), .v (.int .i64 c.op.cost), .v (.int .i64 c.op.ttl), .v (.int .i64 c.beg), .v (.int .i64 c.at_), .v (.int .i64 c.end_), .v (.int .i64 c.tick), .v (.bool c.ok), .v (.int .i64 c.got)], .agg [.v (.int .i64 t_0), .v (.int .i64 t_1), .v (.int .i64 t_2), .v (.slice t_3 t_3_l t_3_c)], .agg [.v (.int .i64 e_0), .v (.int .u64 e_1), .v (.int .u64 e_2), .v (.int .i64 e_3), .v (.int .i64 e_4)]] u Q = f3_V c t_0 t_1 t_2 t_3 t_3_l t_3_c e_0 e_1 e_2 e_3 e_4 u Q := by kernel_rfl
theorem f3_of {c : Call} {t_0 : Int} {t_1 : Int} {t_2 : Int} {t_3 : Option Addr} {t_3_l t_3_c : Nat} {e_0 : Int} {e_1 : Int} {e_2 : Int} {e_3 : Int} {e_4 : Int} {u : PH} {Q : Value → PH → Prop} (h : f3_V c t_0 t_1 t_2 t_3 t_3_l t_3_c e_0 e_1 e_2 e_3 e_4 u Q) : Spec Tryd.prog 3 #[.agg #[.int .i64 c.client, .int .i64 c.id, .int .i64 c.op.kind, .int .i64 c.op.key, .int .i64 c.op.val, .int .i64 c.op.cost, .int .i64 c.op.ttl, .int .i64 c.beg, .int .i64 c.at_, .int .i64 c.end_, .int .i64 c.tick, .bool c.ok, .int .i64 c.got], .agg #[.int .i64 t_0, .int .i64 t_1, .int .i64 t_2, .slice t_3 t_3_l t_3_c], .agg #[.int .i64 e_0, .int .u64 e_1, .int .u64 e_2, .int .i64 e_3, .int .i64 e_4]] u Q :=
  spec_of_vc (H := f3_h) (ps := [.agg [.v (.int .i64 c.client), .v (.int .i64 c.id), .v (.int .i64 c.op.kind), .v (.int .i64 c.op.key), .v (.int .i64 c.op.val), .v (.int .i64 c.op.cost), .v (.int .i64 c.op.ttl), .v (.int .i64 c.beg), .v (.int .i64 c.at_), .v (.int .i64 c.end_), .v (.int .i64 c.tick), .v (.bool c.ok), .v (.int .i64 c.got)], .agg [.v (.int .i64 t_0), .v (.int .i64 t_1), .v (.int .i64 t_2), .v (.slice t_3 t_3_l t_3_c)], .agg [.v (.int .i64 e_0), .v (.int .u64 e_1), .v (.int .u64 e_2), .v (.int .i64 e_3), .v (.int .i64 e_4)]]) Tryd.func3 rfl (by rw [f3_vc]; exact h)
end Go.Proofs.YtlmnfhhmgfnbpaaDoor.E
