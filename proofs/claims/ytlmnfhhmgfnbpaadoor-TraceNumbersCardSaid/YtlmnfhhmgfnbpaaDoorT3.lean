/- CONTRACTS: the lines of events and turns. -/
import Derived.Test.YtlmnfhhmgfnbpaaDoorT2
namespace Go.Proofs.YtlmnfhhmgfnbpaaDoor.E
open Go Go.RowKit
abbrev I64 (n : Int) : Prop := -9223372036854775808 ≤ n ∧ n ≤ 9223372036854775807
theorem itoa_len {n : Int} (h : I64 n) : (Lib.itoa n).length ≤ 21 := by
  unfold Lib.itoa
  split
  · have := Lib.decDigits_length n.natAbs
    have := nDigits_le (N := n.natAbs) (by omega)
    simp only [List.length_cons]; omega
  · have := Lib.decDigits_length n.toNat
    have := nDigits_le (N := n.toNat) (by omega)
    omega
theorem dec_len {N : Nat} (h : N < 18446744073709551616) : (Lib.decDigits N).length ≤ 20 := by
  rw [Lib.decDigits_length]; exact nDigits_le h
theorem evL_len (k : Int) : (evL k).length ≤ 6 := by
  unfold evL
  split
  · decide
  split
  · decide
  split
  · decide
  split
  · decide
  split
  · decide
  split
  · decide
  · decide
def eventL (k : Int) (N : Nat) (id val : Int) : List UInt8 := evL k ++ [32] ++ Lib.decDigits N ++ [32] ++ Lib.itoa id ++ [32] ++ Lib.itoa val
theorem f12_spec {k cf val id : Int} {N : Nat} (hN : N < 18446744073709551616) (hv : I64 val) (hi : I64 id) {u : PH} (T : Tb u) :
    Spec Tryd.prog 12 #[.agg #[.int .i64 k, .int .u64 N, .int .u64 cf, .int .i64 val, .int .i64 id]] u fun v u' => v = .string (S (eventL k N id val)) ∧ Ext u u' := by
  have l0 := evL_len k
  have l1 := dec_len hN
  have l2 := itoa_len hv
  have l3 := itoa_len hi
  refine f12_of ?_
  unfold f12_V
  refine ⟨u, Ext.refl _, (f37_spec k u).use ?_⟩
  rintro v u' ⟨rfl, rfl⟩
  refine ⟨_, rfl, Ext.refl _, (by simp only [S_add, S_size, List.length_append, List.length_cons, List.length_nil]; omega), (f38_spec hN T).use ?_⟩
  rintro v u6 ⟨rfl, hE⟩
  refine ⟨_, rfl, hE, (by simp only [S_add, S_size, List.length_append, List.length_cons, List.length_nil]; omega), (by simp only [S_add, S_size, List.length_append, List.length_cons, List.length_nil]; omega), (f17_spec hi.1 hi.2 (T.ext hE)).use ?_⟩
  rintro v u' ⟨rfl, rfl⟩
  refine ⟨_, rfl, hE, (by simp only [S_add, S_size, List.length_append, List.length_cons, List.length_nil]; omega), (by simp only [S_add, S_size, List.length_append, List.length_cons, List.length_nil]; omega), (f17_spec hv.1 hv.2 (T.ext hE)).use ?_⟩
  rintro v u' ⟨rfl, rfl⟩
  refine ⟨_, rfl, hE, (by simp only [S_add, S_size, List.length_append, List.length_cons, List.length_nil]; omega), ?_, hE⟩
  simp only [S_add, eventL]
theorem f13_spec {k cf val id : Int} {N : Nat} (hN : N < 18446744073709551616) (hv : I64 val) (hi : I64 id) {u : PH} :
    Spec Tryd.prog 13 #[.agg #[.int .i64 k, .int .u64 N, .int .u64 cf, .int .i64 val, .int .i64 id]] u fun v u' => v = .string (S (eventL k N id val)) ∧ Ext u u' := by
  have l0 := evL_len k
  have l1 := dec_len hN
  have l2 := itoa_len hv
  have l3 := itoa_len hi
  refine f13_of ?_
  unfold f13_V
  refine ⟨fun h B hB => ?_, fun h => ?_⟩
  · have hev : ∃ s : ByteArray, PH.cell (PH.add u B (.cells #[.string (ByteArray.mk #[101, 118, 105, 99, 116]), .string (ByteArray.mk #[101, 120, 112, 105, 114, 101]), .string (ByteArray.mk #[100, 101, 108]), .string (ByteArray.mk #[99, 108, 101, 97, 114]), .string (ByteArray.mk #[99, 108, 111, 115, 101]), .string (ByteArray.mk #[114, 101, 106, 101, 99, 116])] 9)) B (0 + (IntKind.wrap .i64 (k - 1)).toNat * 1) = some (.string s) ∧ s = S (evL k) := by
      rcases ev_cases h with rfl | rfl | rfl | rfl | rfl | rfl <;> exact ⟨_, by rw [PH.cell_eq (PH.add_eq _ _ _)]; rfl, rfl⟩
    obtain ⟨s, hc, rfl⟩ := hev
    have hk := ev_cases h
    refine ⟨B, 0, rfl, by rw [wrap_i64 (by omega) (by omega)]; omega, _, hc, _, Ext.refl _, (by simp only [S_add, S_size, List.length_append, List.length_cons, List.length_nil]; omega), (f39_spec hN).use ?_⟩
    rintro v u7 ⟨rfl, hE⟩
    refine ⟨_, rfl, hE, (by simp only [S_add, S_size, List.length_append, List.length_cons, List.length_nil]; omega), (by simp only [S_add, S_size, List.length_append, List.length_cons, List.length_nil]; omega), (f18_spec hi.1 hi.2).use ?_⟩
    rintro v u8 ⟨rfl, hE2⟩
    refine ⟨_, rfl, hE.trans hE2, (by simp only [S_add, S_size, List.length_append, List.length_cons, List.length_nil]; omega), (by simp only [S_add, S_size, List.length_append, List.length_cons, List.length_nil]; omega), (f18_spec hv.1 hv.2).use ?_⟩
    rintro v u9 ⟨rfl, hE3⟩
    refine ⟨_, rfl, hE.trans (hE2.trans hE3), (by simp only [S_add, S_size, List.length_append, List.length_cons, List.length_nil]; omega), ?_, (Ext.add hB _).trans (hE.trans (hE2.trans hE3))⟩
    simp only [S_add, eventL]
  · have e0 := ev_none h
    refine ⟨u, Ext.refl _, (by simp only [S_add, S_size, List.length_append, List.length_cons, List.length_nil]; omega), (f39_spec hN).use ?_⟩
    rintro v u7 ⟨rfl, hE⟩
    refine ⟨_, rfl, hE, (by simp only [S_add, S_size, List.length_append, List.length_cons, List.length_nil]; omega), (by simp only [S_add, S_size, List.length_append, List.length_cons, List.length_nil]; omega), (f18_spec hi.1 hi.2).use ?_⟩
    rintro v u8 ⟨rfl, hE2⟩
    refine ⟨_, rfl, hE.trans hE2, (by simp only [S_add, S_size, List.length_append, List.length_cons, List.length_nil]; omega), (by simp only [S_add, S_size, List.length_append, List.length_cons, List.length_nil]; omega), (f18_spec hv.1 hv.2).use ?_⟩
    rintro v u9 ⟨rfl, hE3⟩
    refine ⟨_, rfl, hE.trans (hE2.trans hE3), (by simp only [S_add, S_size, List.length_append, List.length_cons, List.length_nil]; omega), ?_, hE.trans (hE2.trans hE3)⟩
    simp only [S_add, eventL, e0]
/-! turns -/
def pickL (l : List (List UInt8)) (i : Int) : List UInt8 := if i < 0 then [] else (l[i.toNat]?).getD []
theorem f35_spec {u : PH} {b n c : Nat} {l : List (List UInt8)} (hl : l.length = n) (hc : ∀ (j : Nat) x, l[j]? = some x → PH.cell u b j = some (.string (S x))) (i : Int) : Spec Tryd.prog 35 #[.slice (some ⟨b, 0, none⟩) n c, .int .i64 i] u fun v u' => v = .string (S (pickL l i)) ∧ u' = u := by
  refine f35_of ?_
  unfold f35_V
  refine ⟨fun h => ⟨?_, rfl⟩, fun h => ?_⟩
  · simp only [Bool.or_eq_true, decide_eq_true_eq] at h
    have : pickL l i = [] := by
      unfold pickL
      split
      · rfl
      · rw [List.getElem?_eq_none (by omega)]; rfl
    rw [this]
  · simp only [Bool.or_eq_false_iff, decide_eq_false_iff_not] at h
    have hx : l[i.toNat]? = some (l[i.toNat]'(by omega)) := List.getElem?_eq_getElem (by omega)
    have hp : pickL l i = l[i.toNat]'(by omega) := by
      unfold pickL
      rw [if_neg (by omega), hx]; rfl
    exact ⟨b, 0, rfl, by omega, _, by rw [Nat.zero_add, Nat.mul_one]; exact hc _ _ hx, by rw [hp], rfl⟩
theorem f36_spec {u : PH} {b n c : Nat} {l : List (List UInt8)} (hl : l.length = n) (hc : ∀ (j : Nat) x, l[j]? = some x → PH.cell u b j = some (.string (S x))) (i : Int) : Spec Tryd.prog 36 #[.slice (some ⟨b, 0, none⟩) n c, .int .i64 i] u fun v u' => v = .string (S (pickL l i)) ∧ u' = u := by
  refine f36_of ?_
  unfold f36_V
  refine ⟨fun h => ⟨?_, rfl⟩, fun h => ?_⟩
  · simp only [Bool.or_eq_true, decide_eq_true_eq] at h
    have : pickL l i = [] := by
      unfold pickL
      split
      · rfl
      · rw [List.getElem?_eq_none (by omega)]; rfl
    rw [this]
  · simp only [Bool.or_eq_false_iff, decide_eq_false_iff_not] at h
    have hx : l[i.toNat]? = some (l[i.toNat]'(by omega)) := List.getElem?_eq_getElem (by omega)
    have hp : pickL l i = l[i.toNat]'(by omega) := by
      unfold pickL
      rw [if_neg (by omega), hx]; rfl
    exact ⟨b, 0, rfl, by omega, _, by rw [Nat.zero_add, Nat.mul_one]; exact hc _ _ hx, by rw [hp], rfl⟩
abbrev kL : List (List UInt8) := [[105, 100, 108, 101], [108, 111, 99, 107], [97, 99, 116], [102, 114, 101, 101]]
abbrev cL : List (List UInt8) := [[98, 101, 103, 105, 110], [108, 111, 99, 107], [97, 99, 116], [102, 114, 101, 101], [108, 97, 115, 116]]
theorem pick_len {l : List (List UInt8)} {m : Nat} (h : ∀ x ∈ l, x.length ≤ m) (i : Int) : (pickL l i).length ≤ m := by
  unfold pickL
  split
  · simp
  · cases hx : l[i.toNat]? with
    | none => simp
    | some x => exact h x (List.mem_of_getElem? hx)
theorem kL_at {u : PH} {B : Nat} (j : Nat) (x : List UInt8) (h : kL[j]? = some x) : PH.cell (PH.add u B (.cells #[.string (ByteArray.mk #[105, 100, 108, 101]), .string (ByteArray.mk #[108, 111, 99, 107]), .string (ByteArray.mk #[97, 99, 116]), .string (ByteArray.mk #[102, 114, 101, 101])] 9)) B j = some (.string (S x)) := by
  rw [PH.cell_eq (PH.add_eq _ _ _)]
  match j, h with
  | 0, h | 1, h | 2, h | 3, h => cases h; rfl
  | j + 4, h => cases h
theorem cL_at {u u' : PH} {B : Nat} (he : Ext (PH.add u B (.cells #[.string (ByteArray.mk #[98, 101, 103, 105, 110]), .string (ByteArray.mk #[108, 111, 99, 107]), .string (ByteArray.mk #[97, 99, 116]), .string (ByteArray.mk #[102, 114, 101, 101]), .string (ByteArray.mk #[108, 97, 115, 116])] 9)) u') (j : Nat) (x : List UInt8) (h : cL[j]? = some x) : PH.cell u' B j = some (.string (S x)) := by
  refine he.cell ?_
  rw [PH.cell_eq (PH.add_eq _ _ _)]
  match j, h with
  | 0, h | 1, h | 2, h | 3, h | 4, h => cases h; rfl
  | j + 5, h => cases h
def whoL (who stage : Int) : List UInt8 := if who = 1 then [107, 101, 101, 112, 101, 114, 32] ++ pickL kL stage else if who > 1 then [99, 108, 105, 101, 110, 116, 32] ++ Lib.itoa (who - 2) ++ [32] ++ pickL cL stage else [99, 108, 111, 99, 107]
def turnL (at_ who stage tick : Int) : List UInt8 := Lib.itoa at_ ++ [32] ++ whoL who stage ++ [32, 64] ++ Lib.itoa tick
theorem f10_spec {at_ who stage tick : Int} {a : Option Addr} {n c : Nat} (h0 : I64 at_) (h1 : I64 who) (h2 : I64 tick) {u : PH} (T : Tb u) :
    Spec Tryd.prog 10 #[.int .i64 at_, .agg #[.int .i64 who, .int .i64 stage, .int .i64 tick, .slice a n c]] u fun v u' => v = .string (S (turnL at_ who stage tick)) ∧ Ext u u' := by
  have l0 := itoa_len h0
  have l2 := itoa_len h2
  have l3 := pick_len (l := kL) (m := 5) (by decide) stage
  have l4 := pick_len (l := cL) (m := 5) (by decide) stage
  refine f10_of ?_
  unfold f10_V
  have fin : ∀ {u3 : PH} {s : List UInt8}, Ext u u3 → s = whoL who stage → s.length ≤ 100 → ∃ w5 : PH, Ext w5 u3 ∧ Spec Tryd.prog 17 #[.int .i64 at_] u3 fun v6 u7 => ∃ s8 : ByteArray, v6 = .string s8 ∧ Ext w5 u7 ∧ (s8.size + (ByteArray.mk #[32]).size ≤ 9223372036854775807) ∧
      (((s8 ++ (ByteArray.mk #[32]))).size + (S s).size ≤ 9223372036854775807) ∧ (((((s8 ++ (ByteArray.mk #[32]))) ++ (S s))).size + (ByteArray.mk #[32, 64]).size ≤ 9223372036854775807) ∧
      Spec Tryd.prog 17 #[.int .i64 tick] u7 fun v9 u10 => ∃ s11 : ByteArray, v9 = .string s11 ∧ (((((((s8 ++ (ByteArray.mk #[32]))) ++ (S s))) ++ (ByteArray.mk #[32, 64]))).size + s11.size ≤ 9223372036854775807) ∧
        (Value.string ((((((((s8 ++ (ByteArray.mk #[32]))) ++ (S s))) ++ (ByteArray.mk #[32, 64]))) ++ s11)) = .string (S (turnL at_ who stage tick)) ∧ Ext u u10) := by
    intro u3 s hE hs hl
    refine ⟨_, Ext.refl _, (f17_spec h0.1 h0.2 (T.ext hE)).use ?_⟩
    rintro v u' ⟨rfl, rfl⟩
    refine ⟨_, rfl, Ext.refl _, (by simp only [S_add, S_size, List.length_append, List.length_cons, List.length_nil]; omega), (by simp only [S_add, S_size, List.length_append, List.length_cons, List.length_nil]; omega), (by simp only [S_add, S_size, List.length_append, List.length_cons, List.length_nil]; omega), (f17_spec h2.1 h2.2 (T.ext hE)).use ?_⟩
    rintro v u' ⟨rfl, rfl⟩
    refine ⟨_, rfl, (by simp only [S_add, S_size, List.length_append, List.length_cons, List.length_nil]; omega), ?_, hE⟩
    simp only [S_add, turnL, hs]
  refine ⟨fun hw B hB => (f35_spec (l := kL) rfl (fun j x h => kL_at j x h) stage).use ?_, fun hw => ⟨fun hg => ?_, fun hg => ?_⟩⟩
  · have hw : who = 1 := by simpa using hw
    rintro v u' ⟨rfl, rfl⟩
    refine ⟨_, rfl, (by simp only [S_add, S_size, List.length_append, List.length_cons, List.length_nil]; omega), ?_⟩
    rw [S_add]
    exact fin (Ext.add hB _) (by simp [whoL, hw]) (by simp only [List.length_append, List.length_cons, List.length_nil]; omega)
  · have hw : ¬ who = 1 := by simpa using hw
    have hg := of_decide_eq_true hg
    have l5 := itoa_len (n := who - 2) ⟨by omega, by omega⟩
    rw [wrap_i64 (by omega) (by omega)]
    have hwho : whoL who stage = [99, 108, 105, 101, 110, 116, 32] ++ Lib.itoa (who - 2) ++ [32] ++ pickL cL stage := by rw [whoL, if_neg hw, if_pos hg]
    refine ⟨u, Ext.refl _, (f17_spec (by omega) (by omega) T).use ?_, fun B hB => ⟨Ext.add hB _, (f17_spec (by omega) (by omega) (T.ext (Ext.add hB _))).use ?_⟩⟩
    · rintro v u' ⟨rfl, rfl⟩
      refine ⟨_, rfl, Ext.refl _, (by simp only [S_add, S_size, List.length_append, List.length_cons, List.length_nil]; omega), (by simp only [S_add, S_size, List.length_append, List.length_cons, List.length_nil]; omega), fun B hB => ⟨Ext.add hB _, (f35_spec (l := cL) rfl (fun j x h => cL_at (Ext.refl _) j x h) stage).use ?_⟩⟩
      rintro v u' ⟨rfl, rfl⟩
      refine ⟨_, rfl, Ext.add hB _, (by simp only [S_add, S_size, List.length_append, List.length_cons, List.length_nil]; omega), ?_⟩
      simp only [S_add]
      exact fin (Ext.add hB _) (by rw [hwho]) (by simp only [List.length_append, List.length_cons, List.length_nil]; omega)
    · rintro v u' ⟨rfl, rfl⟩
      refine ⟨_, rfl, Ext.add hB _, (by simp only [S_add, S_size, List.length_append, List.length_cons, List.length_nil]; omega), (by simp only [S_add, S_size, List.length_append, List.length_cons, List.length_nil]; omega), (f35_spec (l := cL) rfl (fun j x h => cL_at (Ext.refl _) j x h) stage).use ?_⟩
      rintro v u' ⟨rfl, rfl⟩
      refine ⟨_, rfl, Ext.add hB _, (by simp only [S_add, S_size, List.length_append, List.length_cons, List.length_nil]; omega), ?_⟩
      simp only [S_add]
      exact fin (Ext.add hB _) (by rw [hwho]) (by simp only [List.length_append, List.length_cons, List.length_nil]; omega)
  · have hw : ¬ who = 1 := by simpa using hw
    have hg := of_decide_eq_false hg
    exact fin (s := [99, 108, 111, 99, 107]) (Ext.refl _) (by rw [whoL, if_neg hw, if_neg hg]) (by simp)
theorem f11_spec {at_ who stage tick : Int} {a : Option Addr} {n c : Nat} (h0 : I64 at_) (h1 : I64 who) (h2 : I64 tick) {u : PH} :
    Spec Tryd.prog 11 #[.int .i64 at_, .agg #[.int .i64 who, .int .i64 stage, .int .i64 tick, .slice a n c]] u fun v u' => v = .string (S (turnL at_ who stage tick)) ∧ Ext u u' := by
  have l0 := itoa_len h0
  have l2 := itoa_len h2
  have l3 := pick_len (l := kL) (m := 5) (by decide) stage
  have l4 := pick_len (l := cL) (m := 5) (by decide) stage
  refine f11_of ?_
  unfold f11_V
  refine (f18_spec h0.1 h0.2).use ?_
  rintro v u2 ⟨rfl, hE⟩
  refine ⟨_, rfl, (by simp only [S_add, S_size, List.length_append, List.length_cons, List.length_nil]; omega), fun hw B hB => (f36_spec (l := kL) rfl (fun j x h => kL_at j x h) stage).use ?_, fun hw => ⟨fun hg => ?_, fun hg => ⟨(by simp only [S_add, S_size, List.length_append, List.length_cons, List.length_nil]; omega), (by simp only [S_add, S_size, List.length_append, List.length_cons, List.length_nil]; omega), (f18_spec h2.1 h2.2).use ?_⟩⟩⟩
  · have hw : who = 1 := by simpa using hw
    rintro v u' ⟨rfl, rfl⟩
    refine ⟨_, rfl, (by simp only [S_add, S_size, List.length_append, List.length_cons, List.length_nil]; omega), (by simp only [S_add, S_size, List.length_append, List.length_cons, List.length_nil]; omega), (by simp only [S_add, S_size, List.length_append, List.length_cons, List.length_nil]; omega), (f18_spec h2.1 h2.2).use ?_⟩
    rintro v u9 ⟨rfl, hE2⟩
    refine ⟨_, rfl, (by simp only [S_add, S_size, List.length_append, List.length_cons, List.length_nil]; omega), ?_, hE.trans ((Ext.add hB _).trans hE2)⟩
    simp only [S_add, turnL, whoL, hw, if_true]
  · have hw : ¬ who = 1 := by simpa using hw
    have hg := of_decide_eq_true hg
    have l5 := itoa_len (n := who - 2) ⟨by omega, by omega⟩
    rw [wrap_i64 (by omega) (by omega)]
    have hwho : whoL who stage = [99, 108, 105, 101, 110, 116, 32] ++ Lib.itoa (who - 2) ++ [32] ++ pickL cL stage := by rw [whoL, if_neg hw, if_pos hg]
    refine ⟨u2, Ext.refl _, (f18_spec (by omega) (by omega)).use ?_, fun B hB => ⟨Ext.add hB _, (f18_spec (by omega) (by omega)).use ?_⟩⟩
    · rintro v u13 ⟨rfl, hE2⟩
      refine ⟨_, rfl, hE2, (by simp only [S_add, S_size, List.length_append, List.length_cons, List.length_nil]; omega), (by simp only [S_add, S_size, List.length_append, List.length_cons, List.length_nil]; omega), fun B hB => ⟨hE2.trans (Ext.add hB _), (f36_spec (l := cL) rfl (fun j x h => cL_at (Ext.refl _) j x h) stage).use ?_⟩⟩
      rintro v u' ⟨rfl, rfl⟩
      refine ⟨_, rfl, hE2.trans (Ext.add hB _), (by simp only [S_add, S_size, List.length_append, List.length_cons, List.length_nil]; omega), (by simp only [S_add, S_size, List.length_append, List.length_cons, List.length_nil]; omega), (by simp only [S_add, S_size, List.length_append, List.length_cons, List.length_nil]; omega), (f18_spec h2.1 h2.2).use ?_⟩
      rintro v u9 ⟨rfl, hE3⟩
      refine ⟨_, rfl, (by simp only [S_add, S_size, List.length_append, List.length_cons, List.length_nil]; omega), ?_, hE.trans (hE2.trans ((Ext.add hB _).trans hE3))⟩
      simp only [S_add, turnL, hwho]
    · rintro v u13 ⟨rfl, hE2⟩
      refine ⟨_, rfl, (Ext.add hB _).trans hE2, (by simp only [S_add, S_size, List.length_append, List.length_cons, List.length_nil]; omega), (by simp only [S_add, S_size, List.length_append, List.length_cons, List.length_nil]; omega), (f36_spec (l := cL) rfl (fun j x h => cL_at hE2 j x h) stage).use ?_⟩
      rintro v u' ⟨rfl, rfl⟩
      refine ⟨_, rfl, (Ext.add hB _).trans hE2, (by simp only [S_add, S_size, List.length_append, List.length_cons, List.length_nil]; omega), (by simp only [S_add, S_size, List.length_append, List.length_cons, List.length_nil]; omega), (by simp only [S_add, S_size, List.length_append, List.length_cons, List.length_nil]; omega), (f18_spec h2.1 h2.2).use ?_⟩
      rintro v u9 ⟨rfl, hE3⟩
      refine ⟨_, rfl, (by simp only [S_add, S_size, List.length_append, List.length_cons, List.length_nil]; omega), ?_, hE.trans ((Ext.add hB _).trans (hE2.trans hE3))⟩
      simp only [S_add, turnL, hwho]
  · have hw : ¬ who = 1 := by simpa using hw
    have hg := of_decide_eq_false hg
    rintro v u9 ⟨rfl, hE2⟩
    refine ⟨_, rfl, (by simp only [S_add, S_size, List.length_append, List.length_cons, List.length_nil]; omega), ?_, hE.trans hE2⟩
    simp only [S_add, turnL, whoL, hw, hg, if_false]
end Go.Proofs.YtlmnfhhmgfnbpaaDoor.E
