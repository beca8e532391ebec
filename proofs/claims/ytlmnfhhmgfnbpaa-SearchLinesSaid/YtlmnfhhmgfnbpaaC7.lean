/- CONTRACTS: hist's and the document's lists of calls. -/
import Derived.Test.YtlmnfhhmgfnbpaaC6
namespace Go.Proofs.Ytlmnfhhmgfnbpaa.E
open Go
theorem Own.base {α : Type} {enc : α → List Value} {k : Nat} {e : TypeId} {u0 u1 u : PH} {a : Option Addr} {n c : Nat} {l : List α} (h : Own enc k e u1 u a n c l) (he : Ext u0 u1) : Own enc k e u0 u a n c l :=
  ⟨h.len, h.le, h.max, by
    rcases h.row with h | ⟨b, cs, h1, h2, h3, h4, h5⟩
    · exact .inl h
    · refine .inr ⟨b, cs, h1, ?_, h3, h4, h5⟩
      cases hu : u0 b with
      | none => rfl
      | some o => rw [he b o hu] at h2; cases h2⟩
theorem add_none {u : PH} {b k : Nat} {o : Obj} (h : PH.add u b o k = none) : k ≠ b ∧ u k = none := by
  by_cases e : k = b
  · subst e; rw [PH.add_eq] at h; cases h
  · rw [PH.add_ne e] at h; exact ⟨e, h⟩
set_option maxRecDepth 10000 in
theorem ins_vc {u7 : PH} {l a3 : Option Addr} {l_l i l4 c5 p : Nat} {x : Call} {L out : List Call} (hL : Sl Call.cells 13 u7 l l_l L) (hx : L[i]? = some x) (ho : Sl Call.cells 13 u7 a3 l4 out) (hlc : l4 ≤ c5) (hl4 : l4 ≤ 1000000) (hp : p ≤ l4)
    {K : Option Addr → Nat → Nat → PH → Prop} (hK : ∀ a n c u', Own Call.cells 13 28 u7 u' a n c (out.take p ++ [x] ++ out.drop p) → Ext u7 u' → K a n c u') :
 ∃ w21 : PH, Ext w21 u7 ∧
 (((0 : Int) ≤ 0 ∧ (0 : Int) ≤ (p : Int) ∧ (p : Int) ≤ ((c5 : Nat) : Int)) ∧
 ∃ b22 o23 : Nat, (l : Option Addr) = some ⟨b22, o23, none⟩ ∧ ((0 : Int) ≤ (i : Int) ∧ (i : Int) < ((l_l : Nat) : Int)) ∧
 ∃ n24 : Int, ∃ n25 : Int, ∃ n26 : Int, ∃ n27 : Int, ∃ n28 : Int, ∃ n29 : Int, ∃ n30 : Int, ∃ n31 : Int, ∃ n32 : Int, ∃ n33 : Int, ∃ n34 : Int, ∃ b35 : Bool, ∃ n36 : Int, PH.cells w21 b22 (o23 + (i : Int).toNat * 13) [.int .i64 n24, .int .i64 n25, .int .i64 n26, .int .i64 n27, .int .i64 n28, .int .i64 n29, .int .i64 n30, .int .i64 n31, .int .i64 n32, .int .i64 n33, .int .i64 n34, .bool b35, .int .i64 n36] ∧
 ((0 : Int) ≤ (p : Int) ∧ (p : Int) ≤ ((l4 : Nat) : Int) ∧ ((l4 : Nat) : Int) ≤ ((c5 : Nat) : Int)) ∧
 (∀ B37 : Nat, u7 B37 = none →
 Ext w21 (PH.add u7 B37 (.cells #[] 28)) ∧
 (SemSpec Try.prog (Builtin.append_ #[22, 22] 22 #[.slice ((some ⟨B37, 0, none⟩)) 0 0, .slice ((subA a3 (0 : Int).toNat c5 13)) (((p : Int).toNat - (0 : Int).toNat)) ((c5 - (0 : Int).toNat))]) (PH.add u7 B37 (.cells #[] 28)) (fun v38 u39 =>
 ∃ (a40 : Option Addr) (l41 c42 : Nat), v38 = .slice a40 l41 c42 ∧
 Ext w21 u39 ∧
 ∀ B43 : Nat, u39 B43 = none →
 SemSpec Try.prog (Builtin.append_ #[22, 22] 22 #[.slice a40 l41 c42, .slice ((some ⟨B43, 0, none⟩)) 1 1]) (PH.add u39 B43 (.cells #[.int .i64 n24, .int .i64 n25, .int .i64 n26, .int .i64 n27, .int .i64 n28, .int .i64 n29, .int .i64 n30, .int .i64 n31, .int .i64 n32, .int .i64 n33, .int .i64 n34, .bool b35, .int .i64 n36] 28)) (fun v44 u45 =>
 ∃ (a46 : Option Addr) (l47 c48 : Nat), v44 = .slice a46 l47 c48 ∧
 Ext w21 u45 ∧
 SemSpec Try.prog (Builtin.append_ #[22, 22] 22 #[.slice a46 l47 c48, .slice ((subA a3 (p : Int).toNat c5 13)) (((((l4 : Nat) : Int) : Int).toNat - (p : Int).toNat)) ((c5 - (p : Int).toNat))]) u45 (fun v49 u50 =>
 ∃ (a51 : Option Addr) (l52 c53 : Nat), v49 = .slice a51 l52 c53 ∧
 Ext w21 u50 ∧
 K a51 l52 c53 u50))))
 ∧ (∀ B54 : Nat, (PH.add u7 B37 (.cells #[] 28)) B54 = none →
 SemSpec Try.prog (Builtin.append_ #[22, 22] 22 #[.slice ((some ⟨B37, 0, none⟩)) 0 0, .slice ((subA a3 (0 : Int).toNat c5 13)) (((p : Int).toNat - (0 : Int).toNat)) ((c5 - (0 : Int).toNat))]) (PH.add (PH.add u7 B37 (.cells #[] 28)) B54 (.cells #[.int .i64 n24, .int .i64 n25, .int .i64 n26, .int .i64 n27, .int .i64 n28, .int .i64 n29, .int .i64 n30, .int .i64 n31, .int .i64 n32, .int .i64 n33, .int .i64 n34, .bool b35, .int .i64 n36] 28)) (fun v55 u56 =>
 ∃ (a57 : Option Addr) (l58 c59 : Nat), v55 = .slice a57 l58 c59 ∧
 Ext w21 u56 ∧
 SemSpec Try.prog (Builtin.append_ #[22, 22] 22 #[.slice a57 l58 c59, .slice ((some ⟨B54, 0, none⟩)) 1 1]) u56 (fun v60 u61 =>
 ∃ (a62 : Option Addr) (l63 c64 : Nat), v60 = .slice a62 l63 c64 ∧
 Ext w21 u61 ∧
 SemSpec Try.prog (Builtin.append_ #[22, 22] 22 #[.slice a62 l63 c64, .slice ((subA a3 (p : Int).toNat c5 13)) (((((l4 : Nat) : Int) : Int).toNat - (p : Int).toNat)) ((c5 - (p : Int).toNat))]) u61 (fun v65 u66 =>
 ∃ (a67 : Option Addr) (l68 c69 : Nat), v65 = .slice a67 l68 c69 ∧
 Ext w21 u66 ∧
 K a67 l68 c69 u66)))))
 ∧ (∀ B70 : Nat, u7 B70 = none →
 ∀ B71 : Nat, (PH.add u7 B70 (.cells #[.int .i64 n24, .int .i64 n25, .int .i64 n26, .int .i64 n27, .int .i64 n28, .int .i64 n29, .int .i64 n30, .int .i64 n31, .int .i64 n32, .int .i64 n33, .int .i64 n34, .bool b35, .int .i64 n36] 28)) B71 = none →
 Ext w21 (PH.add (PH.add u7 B70 (.cells #[.int .i64 n24, .int .i64 n25, .int .i64 n26, .int .i64 n27, .int .i64 n28, .int .i64 n29, .int .i64 n30, .int .i64 n31, .int .i64 n32, .int .i64 n33, .int .i64 n34, .bool b35, .int .i64 n36] 28)) B71 (.cells #[] 28)) ∧
 SemSpec Try.prog (Builtin.append_ #[22, 22] 22 #[.slice ((some ⟨B71, 0, none⟩)) 0 0, .slice ((subA a3 (0 : Int).toNat c5 13)) (((p : Int).toNat - (0 : Int).toNat)) ((c5 - (0 : Int).toNat))]) (PH.add (PH.add u7 B70 (.cells #[.int .i64 n24, .int .i64 n25, .int .i64 n26, .int .i64 n27, .int .i64 n28, .int .i64 n29, .int .i64 n30, .int .i64 n31, .int .i64 n32, .int .i64 n33, .int .i64 n34, .bool b35, .int .i64 n36] 28)) B71 (.cells #[] 28)) (fun v72 u73 =>
 ∃ (a74 : Option Addr) (l75 c76 : Nat), v72 = .slice a74 l75 c76 ∧
 Ext w21 u73 ∧
 SemSpec Try.prog (Builtin.append_ #[22, 22] 22 #[.slice a74 l75 c76, .slice ((some ⟨B70, 0, none⟩)) 1 1]) u73 (fun v77 u78 =>
 ∃ (a79 : Option Addr) (l80 c81 : Nat), v77 = .slice a79 l80 c81 ∧
 Ext w21 u78 ∧
 SemSpec Try.prog (Builtin.append_ #[22, 22] 22 #[.slice a79 l80 c81, .slice ((subA a3 (p : Int).toNat c5 13)) (((((l4 : Nat) : Int) : Int).toNat - (p : Int).toNat)) ((c5 - (p : Int).toNat))]) u78 (fun v82 u83 =>
 ∃ (a84 : Option Addr) (l85 c86 : Nat), v82 = .slice a84 l85 c86 ∧
 Ext w21 u83 ∧
 K a84 l85 c86 u83))))) := by
  refine ⟨u7, Ext.refl u7, ⟨by omega, by omega, by omega⟩, ?_⟩
  refine hL.call (i := (i : Int)) (by omega) (by simpa using hx) fun b o _ => ⟨⟨by omega, by omega, by omega⟩, ?_⟩
  simp only [Int.toNat_natCast, show (0 : Int).toNat = 0 from rfl, Nat.sub_zero]
  have holen := ho.len
  have S1 := ho.sub (i := 0) (j := p) (c := c5) (by omega) hp hlc
  have S3 := ho.sub (i := p) (j := l4) (c := c5) hp (Nat.le_refl _) hlc
  rw [Nat.sub_zero, List.drop_zero] at S1
  rw [List.take_of_length_le (l := out.drop p) (by rw [List.length_drop]; omega)] at S3
  have H3 : ∀ {a : Option Addr} {n c : Nat} {u : PH}, Own Call.cells 13 28 u7 u a n c (out.take p ++ [x]) → Ext u7 u → SemSpec Try.prog (Builtin.append_ #[22, 22] 22 #[.slice a n c, .slice (subA a3 p c5 13) (l4 - p) (c5 - p)]) u fun v u' => ∃ (a : Option Addr) (l c : Nat), v = .slice a l c ∧ Ext u7 u' ∧ K a l c u' := by
    intro a n c u hO hE
    have hn := hO.len
    simp at hn
    refine (app_calls hO (S3.ext hE) (by omega) hE).use ?_
    rintro v u' ⟨a', c', rfl, hO', hE', _⟩
    exact ⟨_, _, _, rfl, hE', hK _ _ _ _ hO' hE'⟩
  have H2 : ∀ {a : Option Addr} {n c B : Nat} {u : PH}, Own Call.cells 13 28 u7 u a n c (out.take p) → Sl Call.cells 13 u (some ⟨B, 0, none⟩) 1 [x] → Ext u7 u → SemSpec Try.prog (Builtin.append_ #[22, 22] 22 #[.slice a n c, .slice (some ⟨B, 0, none⟩) 1 1]) u fun v u' => ∃ (a : Option Addr) (l c : Nat), v = .slice a l c ∧ Ext u7 u' ∧
      SemSpec Try.prog (Builtin.append_ #[22, 22] 22 #[.slice a l c, .slice (subA a3 p c5 13) (l4 - p) (c5 - p)]) u' fun v u' => ∃ (a : Option Addr) (l c : Nat), v = .slice a l c ∧ Ext u7 u' ∧ K a l c u' := by
    intro a n c B u hO hX hE
    have hn := hO.len
    simp at hn
    refine (app_calls hO hX (by omega) hE).use ?_
    rintro v u' ⟨a', c', rfl, hO', hE', _⟩
    exact ⟨_, _, _, rfl, hE', H3 hO' hE'⟩
  have emp : ∀ {u : PH} {B : Nat}, u7 B = none → Own Call.cells 13 28 u7 (PH.add u B (.cells #[] 28)) (some ⟨B, 0, none⟩) 0 0 [] := fun hB => Own.fresh (u := _) hB 28 ([] : List Call) Call.cells_len (by unfold maxLen; simp)
  refine ⟨fun B1 h1 => ⟨Ext.add h1 _, ?_, fun B2 h2 => ?_⟩, fun B1 h1 B2 h2 => ⟨(Ext.add h1 _).trans (Ext.add h2 _), ?_⟩⟩
  · refine (app_calls (emp h1) (S1.ext (Ext.add h1 _)) (by omega) (Ext.add h1 _)).use ?_
    rintro v u1 ⟨a1, c1, rfl, hO1, hE1, _⟩
    refine ⟨_, _, _, rfl, hE1, fun B2 h2 => ?_⟩
    rw [List.nil_append] at hO1
    exact H2 (hO1.ext (Ext.add h2 _)) (Sl.one u1 B2 x 28) (hE1.trans (Ext.add h2 _))
  · obtain ⟨hne, h2'⟩ := add_none h2
    refine (app_calls ((emp h1).ext (Ext.add h2 _)) (S1.ext ((Ext.add h1 _).trans (Ext.add h2 _))) (by omega) ((Ext.add h1 _).trans (Ext.add h2 _))).use ?_
    rintro v u1 ⟨a1, c1, rfl, hO1, hE1, hS1⟩
    refine ⟨_, _, _, rfl, hE1, ?_⟩
    rw [List.nil_append] at hO1
    exact H2 hO1 ((Sl.one _ B2 x 28).stays hS1 (fun y z hy hz => by cases hy; cases hz; exact hne) (by omega) Call.cells_len) hE1
  · obtain ⟨hne, h2'⟩ := add_none h2
    refine (app_calls (emp h2') (S1.ext ((Ext.add h1 _).trans (Ext.add h2 _))) (by omega) ((Ext.add h1 _).trans (Ext.add h2 _))).use ?_
    rintro v u1 ⟨a1, c1, rfl, hO1, hE1, hS1⟩
    refine ⟨_, _, _, rfl, hE1, ?_⟩
    rw [List.nil_append] at hO1
    exact H2 hO1 (((Sl.one u7 B1 x 28).ext (Ext.add h2 _)).stays hS1 (fun y z hy hz => by cases hy; cases hz; exact Ne.symm hne) (by omega) Call.cells_len) hE1
section
variable {u : PH} {a : Option Addr} {n c : Nat} {L : List Call}
/-- the result of a list of calls -/
abbrev Lst (u : PH) (key : Call → Int) (src : List Call) : Value → PH → Prop := fun v u' => ∃ a' m c' L', v = .slice a' m c' ∧ Own Call.cells 13 28 u u' a' m c' L' ∧ Ext u u' ∧ Srt.Stable key src L'
theorem e39 : entersB Try.prog 39 = true := by kernel_rfl
theorem e40 : entersB Try.prog 40 = true := by kernel_rfl
theorem e41 : entersB Try.prog 41 = true := by kernel_rfl
theorem e42 : entersB Try.prog 42 = true := by kernel_rfl
theorem e43 : entersB Try.prog 43 = true := by kernel_rfl
theorem e44 : entersB Try.prog 44 = true := by kernel_rfl
theorem f14_spec (hL : Sl Call.cells 13 u a n L) (hn : n ≤ 1000000) : Spec Try.prog 14 #[.slice a n c] u (Lst u (·.at_) (L.filter fun x => decide (x.at_ ≥ 0))) := by
  refine f14_of ?_
  unfold f14_V
  refine (f38_spec hL hn rfl rfl (p := fun x => decide (x.at_ ≥ 0)) (key := (·.at_)) (fun u1 _ x => .inl ⟨39, #[], rfl, e39, ?_⟩) (fun u1 _ x => .inl ⟨40, #[], rfl, e40, ?_⟩)).use ?_
  · refine f39_of ?_; unfold f39_V; exact ⟨rfl, rfl⟩
  · refine f40_of ?_; unfold f40_V; exact ⟨rfl, rfl⟩
  · rintro v u' ⟨a', m, c', L', rfl, h⟩; exact ⟨_, _, _, rfl, _, _, _, _, rfl, h⟩
theorem f16_spec (hL : Sl Call.cells 13 u a n L) (hn : n ≤ 1000000) : Spec Try.prog 16 #[.slice a n c] u (Lst u (·.beg) L) := by
  refine f16_of ?_
  unfold f16_V
  refine (f38_spec hL hn rfl rfl (p := fun x => true) (key := (·.beg)) (fun u1 _ x => .inl ⟨41, #[], rfl, e41, ?_⟩) (fun u1 _ x => .inl ⟨42, #[], rfl, e42, ?_⟩)).use ?_
  · refine f41_of ?_; unfold f41_V; exact ⟨rfl, rfl⟩
  · refine f42_of ?_; unfold f42_V; exact ⟨rfl, rfl⟩
  · rintro v u' ⟨a', m, c', L', rfl, h1, h2, h3⟩
    rw [List.filter_eq_self.2 (by simp)] at h3
    exact ⟨_, _, _, rfl, _, _, _, _, rfl, h1, h2, h3⟩
theorem f18_spec {client : Int} (hL : Sl Call.cells 13 u a n L) (hn : n ≤ 1000000) : Spec Try.prog 18 #[.slice a n c, .int .i64 client] u (Lst u (fun _ => 0) (L.filter fun x => x.client == client)) := by
  refine f18_of ?_
  unfold f18_V
  intro B hB
  refine (f38_spec (hL.ext (Ext.add hB _)) hn rfl rfl (p := fun x => x.client == client) (key := fun _ => 0) (fun u1 h1 x => .inl ⟨43, _, rfl, e43, ?_⟩) (fun u1 _ x => .inl ⟨44, #[], rfl, e44, ?_⟩)).use ?_
  · refine f43_of ?_; unfold f43_V
    exact ⟨client, h1.cell (by rw [PH.cell_eq (PH.add_eq _ _ _)]; rfl), rfl, rfl⟩
  · refine f44_of ?_; unfold f44_V; exact ⟨rfl, rfl⟩
  · rintro v u' ⟨a', m, c', L', rfl, h1, h2, h3⟩
    exact ⟨_, _, _, rfl, _, _, _, _, rfl, h1.base (Ext.add hB _), (Ext.add hB _).trans h2, h3⟩
end
end Go.Proofs.Ytlmnfhhmgfnbpaa.E
