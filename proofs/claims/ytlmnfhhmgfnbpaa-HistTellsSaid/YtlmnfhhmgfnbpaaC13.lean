/- CONTRACTS: the law HistTells. -/
import Derived.Test.YtlmnfhhmgfnbpaaC12
namespace Go.Proofs.Ytlmnfhhmgfnbpaa.E
open Go
def awA : Call := ⟨0, 0, ⟨0, 0, 0, 0, 0⟩, 0, 1, 4, 0, false, 0⟩
def awB : Call := ⟨0, 1, ⟨0, 0, 0, 0, 0⟩, 5, 6, -1, 0, false, 0⟩
theorem f6_spec (u : PH) : Spec Try.prog 6 #[] u fun v u' => v = .bool true ∧ Ext u u' := by
  refine f6_of ?_
  unfold f6_V
  refine (f7_spec awA awB u).use ?_
  rintro v u1 ⟨rfl, rfl⟩
  refine ⟨_, rfl, fun _ => ?_, fun h => absurd h (by decide)⟩
  refine (f7_spec awB awA _).use ?_
  rintro v u2 ⟨rfl, rfl⟩
  refine ⟨_, rfl, fun _ B hB => ?_, fun h => absurd h (by decide)⟩
  refine (f9_spec (L := [awA, awB]) ((Own.fresh (u := u2) hB 28 [awA, awB] Call.cells_len (by unfold maxLen; simp)).sl Call.cells_len) (by simp) (by simp)).use ?_
  rintro v u3 ⟨rfl, hE⟩
  exact ⟨_, rfl, congrArg Value.bool (by decide), (Ext.add hB _).trans hE⟩
section
variable {u : PH} {a : Option Addr} {n c : Nat} {L : List Call}
theorem tail {u1 : PH} {client : Int} (hL : Sl Call.cells 13 u1 a n L) (hn : n ≤ 60) (hc : n ≤ c) {Q : Value → PH → Prop} (hQ : ∀ u', Ext u1 u' → Q (.bool true) u') :
 Spec Try.prog 9 #[.slice a n c] u1 (fun v71 u72 =>
 ∃ b73 : Bool, v71 = .bool b73 ∧
 Spec Try.prog 10 #[.slice a n c] u72 (fun v74 u75 =>
 ∃ b76 : Bool, v74 = .bool b76 ∧
 ((b73 == b76) = true →
 Spec Try.prog 11 #[.slice a n c] u75 (fun v77 u78 =>
 ∃ b79 : Bool, v77 = .bool b79 ∧
 Spec Try.prog 12 #[.slice a n c] u78 (fun v80 u81 =>
 ∃ b82 : Bool, v80 = .bool b82 ∧
 ((b79 == b82) = true →
 Spec Try.prog 14 #[.slice a n c] u81 (fun v83 u84 =>
 ∃ (a85 : Option Addr) (l86 c87 : Nat), v83 = .slice a85 l86 c87 ∧
 Spec Try.prog 15 #[.slice a n c] u84 (fun v88 u89 =>
 ∃ (a90 : Option Addr) (l91 c92 : Nat), v88 = .slice a90 l91 c92 ∧
 Spec Try.prog 13 #[.slice a85 l86 c87, .slice a90 l91 c92] u89 (fun v93 u94 =>
 ∃ b95 : Bool, v93 = .bool b95 ∧
 (b95 = true →
 Spec Try.prog 16 #[.slice a n c] u94 (fun v96 u97 =>
 ∃ (a98 : Option Addr) (l99 c100 : Nat), v96 = .slice a98 l99 c100 ∧
 Spec Try.prog 17 #[.slice a n c] u97 (fun v101 u102 =>
 ∃ (a103 : Option Addr) (l104 c105 : Nat), v101 = .slice a103 l104 c105 ∧
 Spec Try.prog 13 #[.slice a98 l99 c100, .slice a103 l104 c105] u102 (fun v106 u107 =>
 ∃ b108 : Bool, v106 = .bool b108 ∧
 (b108 = true →
 Spec Try.prog 18 #[.slice a n c, .int .i64 client] u107 (fun v109 u110 =>
 ∃ (a111 : Option Addr) (l112 c113 : Nat), v109 = .slice a111 l112 c113 ∧
 Spec Try.prog 19 #[.slice a n c, .int .i64 client] u110 (fun v114 u115 =>
 ∃ (a116 : Option Addr) (l117 c118 : Nat), v114 = .slice a116 l117 c118 ∧
 Spec Try.prog 13 #[.slice a111 l112 c113, .slice a116 l117 c118] u115 (fun v119 u120 =>
 ∃ b121 : Bool, v119 = .bool b121 ∧
 (b121 = true →
 Spec Try.prog 20 #[.slice a n c] u120 (fun v122 u123 =>
 ∃ n124 : Int, v122 = .int .i64 n124 ∧
 Spec Try.prog 21 #[.slice a n c] u123 (fun v125 u126 =>
 ∃ n127 : Int, v125 = .int .i64 n127 ∧
 (((n124 : Int) == n127) = true →
 Spec Try.prog 6 #[] u126 (fun v128 u129 =>
 ∃ b130 : Bool, v128 = .bool b130 ∧
 Q (.bool b130) u129)) ∧
 (((n124 : Int) == n127) = false →
 Q (.bool false) u126)))) ∧
 (b121 = false →
 Q (.bool false) u120))))) ∧
 (b108 = false →
 Q (.bool false) u107))))) ∧
 (b95 = false →
 Q (.bool false) u94))))) ∧
 ((b79 == b82) = false →
 Q (.bool false) u81)))) ∧
 ((b73 == b76) = false →
 Q (.bool false) u75))) := by
  have hn' : n ≤ 1000000 := by omega
  refine (f9_spec hL hn' hc).use ?_
  rintro v u2 ⟨rfl, e2⟩
  refine ⟨_, rfl, (f10_spec (hL.ext e2) hn').use ?_⟩
  rintro v u3 ⟨rfl, rfl⟩
  refine ⟨_, rfl, fun _ => ?_, fun h => by simp at h⟩
  refine (f11_spec (hL.ext e2) hn').use ?_
  rintro v u4 ⟨rfl, rfl⟩
  refine ⟨_, rfl, (f12_spec (hL.ext e2) hn').use ?_⟩
  rintro v u5 ⟨rfl, rfl⟩
  refine ⟨_, rfl, fun _ => ?_, fun h => by simp at h⟩
  have cnt : ∀ {src l : List Call} {key : Call → Int}, src.length ≤ n → Srt.Stable key src l → l.length ≤ 1000000 := fun h1 h2 => by rw [h2.len]; omega
  have hfl : ∀ p : Call → Bool, (L.filter p).length ≤ n := fun p => by have := List.length_filter_le p L; have := hL.len; omega
  refine (f14_spec (hL.ext e2) hn').use ?_
  rintro v u6 ⟨a1, m1, c1, L1, rfl, o1, x1, s1⟩
  refine ⟨_, _, _, rfl, ?_⟩
  have e6 := e2.trans x1
  refine (f15_spec (hL.ext e6) hn').use ?_
  rintro v u7 ⟨a2, m2, c2, L2, rfl, o2, x2, s2⟩
  refine ⟨_, _, _, rfl, ?_⟩
  have e7 := e6.trans x2
  refine (f13_spec ((o1.sl Call.cells_len).ext x2) (o2.sl Call.cells_len) (by have := o1.len; have := cnt (hfl _) s1; omega) (s1.uniq s2)).use ?_
  rintro v u8 ⟨rfl, rfl⟩
  refine ⟨_, rfl, fun _ => ?_, fun h => by simp at h⟩
  refine (f16_spec (hL.ext e7) hn').use ?_
  rintro v u9 ⟨a3, m3, c3, L3, rfl, o3, x3, s3⟩
  refine ⟨_, _, _, rfl, ?_⟩
  have e9 := e7.trans x3
  refine (f17_spec (hL.ext e9) hn').use ?_
  rintro v u10 ⟨a4, m4, c4, L4, rfl, o4, x4, s4⟩
  refine ⟨_, _, _, rfl, ?_⟩
  have e10 := e9.trans x4
  refine (f13_spec ((o3.sl Call.cells_len).ext x4) (o4.sl Call.cells_len) (by have := o3.len; have := cnt (Nat.le_of_eq hL.len) s3; omega) (s3.uniq s4)).use ?_
  rintro v u11 ⟨rfl, rfl⟩
  refine ⟨_, rfl, fun _ => ?_, fun h => by simp at h⟩
  refine (f18_spec (hL.ext e10) hn').use ?_
  rintro v u12 ⟨a5, m5, c5, L5, rfl, o5, x5, s5⟩
  refine ⟨_, _, _, rfl, ?_⟩
  have e12 := e10.trans x5
  refine (f19_spec (hL.ext e12) hn').use ?_
  rintro v u13 ⟨a6, m6, c6, L6, rfl, o6, x6, s6⟩
  refine ⟨_, _, _, rfl, ?_⟩
  have e13 := e12.trans x6
  refine (f13_spec ((o5.sl Call.cells_len).ext x6) (o6.sl Call.cells_len) (by have := o5.len; have := cnt (hfl _) s5; omega) (s5.uniq s6)).use ?_
  rintro v u14 ⟨rfl, rfl⟩
  refine ⟨_, rfl, fun _ => ?_, fun h => by simp at h⟩
  refine (f20_spec (hL.ext e13) hn' hc).use ?_
  rintro v u15 ⟨rfl, rfl⟩
  refine ⟨_, rfl, (f21_spec (hL.ext e13) hn').use ?_⟩
  rintro v u16 ⟨rfl, rfl⟩
  refine ⟨_, rfl, fun _ => ?_, fun h => by simp at h⟩
  refine (f6_spec _).use ?_
  rintro v u17 ⟨rfl, x7⟩
  exact ⟨_, rfl, hQ _ (e13.trans x7)⟩
theorem f3_spec {client : Int} (hL : Sl Call.cells 13 u a n L) (hc : n ≤ c) : Spec Try.prog 3 #[.slice a n c, .int .i64 client] u fun v u' => v = .bool true ∧ Ext u u' := by
  refine f3_of ?_
  unfold f3_V
  refine ⟨fun h => (f6_spec u).use ?_, fun h => ⟨u, Ext.refl u, fun h1 => ?_, fun h1 => ⟨Ext.refl u, Ext.refl u, ?_⟩⟩⟩
  · rintro v u1 ⟨rfl, hE⟩
    exact ⟨_, rfl, rfl, hE⟩
  · have h := of_decide_eq_false h
    have h1 := of_decide_eq_true h1
    obtain ⟨x, hx⟩ := hL.idx (i := 0) (by omega) (by omega)
    obtain ⟨y, hy⟩ := hL.idx (i := 1) (by omega) (by omega)
    refine hL.call (i := 0) (by omega) hx fun b o _ => hL.call (i := 1) (by omega) hy fun b o _ => hL.call (i := 0) (by omega) hx fun b o _ => hL.call (i := 1) (by omega) hy fun b o _ => ?_
    refine (f7_spec x y u).use ?_
    rintro v u1 ⟨rfl, rfl⟩
    refine ⟨_, rfl, Ext.refl _, (f8_spec x y u1).use ?_⟩
    rintro v u2 ⟨rfl, rfl⟩
    refine ⟨_, rfl, Ext.refl _, fun h => by simp at h, fun _ => ?_⟩
    exact tail (Q := fun v u' => v = Value.bool true ∧ Ext _ u') hL (by omega) hc fun u' hE => ⟨rfl, hE⟩
  · have h := of_decide_eq_false h
    exact tail (Q := fun v u' => v = Value.bool true ∧ Ext _ u') hL (by omega) hc fun u' hE => ⟨rfl, hE⟩
end
end Go.Proofs.Ytlmnfhhmgfnbpaa.E
