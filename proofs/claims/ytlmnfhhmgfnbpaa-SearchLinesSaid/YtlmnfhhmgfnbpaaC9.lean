/- CONTRACTS: calls, one by one and in pairs. -/
import Derived.Test.YtlmnfhhmgfnbpaaC8
namespace Go.Proofs.Ytlmnfhhmgfnbpaa.E
open Go
def ahead (a b : Call) : Bool := decide (a.end_ ≥ 0) && decide (a.end_ < b.beg)
theorem f7_spec (a b : Call) (u : PH) : Spec Try.prog 7 #[a.v, b.v] u fun v u' => v = .bool (ahead a b) ∧ u' = u := by
  refine f7_of ?_
  unfold f7_V
  exact ⟨rfl, rfl⟩
theorem f8_spec (a b : Call) (u : PH) : Spec Try.prog 8 #[a.v, b.v] u fun v u' => v = .bool (ahead a b) ∧ u' = u := by
  refine f8_of ?_
  unfold f8_V
  exact ⟨rfl, rfl⟩
def timed (x : Call) : Bool := if x.beg < 0 then false else if x.at_ < 0 then decide (x.end_ < 0) else decide (x.at_ ≥ x.beg) && (decide (x.end_ < 0) || decide (x.end_ ≥ x.at_))
theorem f32_spec (x : Call) (u : PH) : Spec Try.prog 32 #[x.v] u fun v u' => v = .bool (timed x) ∧ u' = u := by
  refine f32_of ?_
  unfold f32_V timed
  refine ⟨fun h => ?_, fun h => ⟨fun h2 => ?_, fun h2 => ?_⟩⟩
  · rw [if_pos (of_decide_eq_true h)]; exact ⟨rfl, rfl⟩
  · rw [if_neg (of_decide_eq_false h), if_pos (of_decide_eq_true h2)]; exact ⟨rfl, rfl⟩
  · rw [if_neg (of_decide_eq_false h), if_neg (of_decide_eq_false h2)]; exact ⟨rfl, rfl⟩
def apart (a b : Call) : Bool := !((a.id == b.id) || (decide (a.at_ ≥ 0) && (a.at_ == b.at_))) && ((a.client != b.client) || ahead a b || ahead b a)
theorem f34_spec (a b : Call) (u : PH) : Spec Try.prog 34 #[a.v, b.v] u fun v u' => v = .bool (apart a b) ∧ u' = u := by
  refine f34_of ?_
  unfold f34_V apart
  refine ⟨fun h => ?_, fun h => ⟨fun h2 => ?_, fun h2 => ?_⟩⟩
  · rw [h]; exact ⟨rfl, rfl⟩
  · rw [h, h2]; exact ⟨rfl, rfl⟩
  · rw [h, h2]
    refine (f7_spec a b u).use ?_
    rintro v u' ⟨rfl, rfl⟩
    refine ⟨_, rfl, fun h3 => ?_, fun h3 => (f7_spec b a _).use ?_⟩
    · rw [h3]; exact ⟨rfl, rfl⟩
    · rintro v u' ⟨rfl, rfl⟩
      rw [h3]; exact ⟨_, rfl, rfl, rfl⟩
section
variable {u : PH} {a b : Option Addr} {n m c c' : Nat} {L M : List Call} {f : Value}
theorem f54_spec (hf : notAgg f = true) (hL : Sl Call.cells 13 u a n L) (hn : n ≤ 1000000) (q : Call → Bool) (hq : ∀ x ∈ L, CallV Try.prog f [x.v] u fun v u' => v = .bool (q x) ∧ u' = u) :
    Spec Try.prog 54 #[.slice a n c, f] u fun v u' => ∃ r : Int, v = .int .i64 r ∧ (0 ≤ r ↔ L.any q = true) ∧ u' = u := by
  refine f54_of (hf := hf) ?_
  unfold f54_V
  refine ⟨fun _ i u' => ∃ k : Nat, i = k ∧ k ≤ n ∧ u' = u ∧ (L.take k).any q = false, fun _ i _ => n - i.toNat, ⟨0, rfl, by omega, rfl, rfl⟩, ?_⟩
  rintro z i u1 ⟨k, rfl, hk, rfl, hno⟩
  have hlen := hL.len
  refine ⟨fun hlt => ?_, fun hge => ?_⟩
  · have hlt := of_decide_eq_true hlt
    obtain ⟨x, hx⟩ := hL.idx (i := (k : Int)) (by omega) hlt
    have hx' : L[k]? = some x := by simpa using hx
    have htake : L.take (k + 1) = L.take k ++ [x] := by rw [List.take_add_one, hx']; rfl
    rw [wrap_i64 (x := (k : Int) + 1) (by omega) (by omega)]
    refine hL.call (by omega) hx fun b o _ => (hq x (List.mem_of_getElem? hx')).mono ?_
    rintro v u2 ⟨rfl, rfl⟩
    refine ⟨_, rfl, fun hp => ⟨_, rfl, ⟨fun _ => List.any_eq_true.2 ⟨x, List.mem_of_getElem? hx', hp⟩, fun _ => by omega⟩, rfl⟩, fun hp => ⟨⟨k + 1, by omega, by omega, rfl, ?_⟩, by show n - Int.toNat _ < n - Int.toNat _; omega⟩⟩
    rw [htake, List.any_append, hno]; simpa using hp
  · have hge := of_decide_eq_false hge
    have : k = n := by omega
    subst this
    rw [List.take_of_length_le (by omega)] at hno
    exact ⟨_, rfl, ⟨fun h => by omega, fun h => by rw [hno] at h; cases h⟩, rfl⟩
theorem f35_spec (hf : notAgg f = true) (hL : Sl Call.cells 13 u a n L) (hn : n ≤ 1000000) (q : Call → Bool) (hq : ∀ x ∈ L, CallV Try.prog f [x.v] u fun v u' => v = .bool (q x) ∧ u' = u) :
    Spec Try.prog 35 #[.slice a n c, f] u fun v u' => v = .bool (L.any q) ∧ u' = u := by
  refine f35_of (hf := hf) ?_
  unfold f35_V
  refine (f54_spec hf hL hn q hq).use ?_
  rintro v u' ⟨r, rfl, hr, rfl⟩
  refine ⟨r, rfl, ?_, rfl⟩
  congr 1
  rw [Bool.eq_iff_iff, decide_eq_true_iff, ← hr]
def ended (l : List Call) : Bool := !l.any fun x => decide (x.end_ < 0)
theorem e37 : entersB Try.prog 37 = true := by kernel_rfl
theorem f11_spec (hL : Sl Call.cells 13 u a n L) (hn : n ≤ 1000000) : Spec Try.prog 11 #[.slice a n c] u fun v u' => v = .bool (ended L) ∧ u' = u := by
  refine f11_of ?_
  unfold f11_V
  refine (f35_spec rfl hL hn (fun x => decide (x.end_ < 0)) fun x _ => .inl ⟨37, #[], rfl, e37, ?_⟩).use ?_
  · refine f37_of ?_; unfold f37_V; exact ⟨rfl, rfl⟩
  · rintro v u' ⟨rfl, rfl⟩; exact ⟨_, rfl, rfl, rfl⟩
theorem f12_spec (hL : Sl Call.cells 13 u a n L) (hn : n ≤ 1000000) : Spec Try.prog 12 #[.slice a n c] u fun v u' => v = .bool (ended L) ∧ u' = u := by
  refine f12_of ?_
  unfold f12_V
  refine ⟨fun _ i u' => ∃ k : Nat, i = k ∧ k ≤ n ∧ u' = u ∧ (L.take k).any (fun x => decide (x.end_ < 0)) = false, fun _ i _ => n - i.toNat, ⟨0, rfl, by omega, rfl, rfl⟩, ?_⟩
  rintro z i u1 ⟨k, rfl, hk, rfl, hno⟩
  have hlen := hL.len
  refine ⟨fun hlt => ?_, fun hge => ?_⟩
  · have hlt := of_decide_eq_true hlt
    obtain ⟨x, hx⟩ := hL.idx (i := (k : Int)) (by omega) hlt
    have hx' : L[k]? = some x := by simpa using hx
    have htake : L.take (k + 1) = L.take k ++ [x] := by rw [List.take_add_one, hx']; rfl
    rw [wrap_i64 (x := (k : Int) + 1) (by omega) (by omega)]
    refine hL.callInt (v := x.end_) (by omega) hx rfl fun b o _ => ⟨fun h => ⟨?_, rfl⟩, fun h => ⟨⟨k + 1, by omega, by omega, rfl, ?_⟩, by show n - Int.toNat _ < n - Int.toNat _; omega⟩⟩
    · have : L.any (fun x => decide (x.end_ < 0)) = true := List.any_eq_true.2 ⟨x, List.mem_of_getElem? hx', h⟩
      rw [ended, this]; rfl
    · rw [htake, List.any_append, hno]; simpa using h
  · have hge := of_decide_eq_false hge
    have : k = n := by omega
    subst this
    rw [List.take_of_length_le (by omega)] at hno
    exact ⟨by rw [ended, hno]; rfl, rfl⟩
/-! swaps -/
def swA : List Call → Nat
  | [] => 0
  | x :: r => r.countP (fun y => ahead y x) + swA r
theorem swA_snoc (x : Call) : ∀ l : List Call, swA (l ++ [x]) = swA l + l.countP (fun y => ahead x y)
  | [] => rfl
  | y :: r => by
    simp only [List.cons_append, swA, swA_snoc x r, List.countP_append, List.countP_cons, List.countP_nil]
    omega
theorem f20_spec (hL : Sl Call.cells 13 u a n L) (hn : n ≤ 1000000) (hc : n ≤ c) : Spec Try.prog 20 #[.slice a n c] u fun v u' => v = .int .i64 (swA L : Nat) ∧ u' = u := by
  refine f20_of ?_
  unfold f20_V
  refine ⟨fun s i u' => ∃ k t : Nat, i = k ∧ s = t ∧ k ≤ n ∧ t ≤ 1000000 * k ∧ u' = u ∧ t + swA (L.drop k) = swA L, fun _ i _ => n - i.toNat, ⟨0, 0, rfl, rfl, by omega, by omega, rfl, by simp⟩, ?_⟩
  rintro s i u1 ⟨k, t, rfl, rfl, hk, ht, rfl, hsum⟩
  have hlen := hL.len
  refine ⟨fun hlt => ?_, fun hge => ?_⟩
  · have hlt := of_decide_eq_true hlt
    obtain ⟨x, hx⟩ := hL.idx (i := (k : Int)) (by omega) hlt
    have hx' : L[k]? = some x := by simpa using hx
    have hdrop : L.drop k = x :: L.drop (k + 1) := by
      rw [List.drop_eq_getElem_cons (by omega)]; congr 1
      rw [List.getElem?_eq_getElem (by omega)] at hx'; exact Option.some.inj hx'
    rw [wrap_i64 (x := (k : Int) + 1) (by omega) (by omega)]
    refine hL.call (by omega) hx fun b o _ => ⟨by omega, ?_⟩
    have hS := hL.sub (i := k + 1) (j := n) (c := c) (by omega) (Nat.le_refl _) hc
    rw [List.take_of_length_le (l := L.drop (k + 1)) (by rw [List.length_drop]; omega)] at hS
    rw [show ((k : Int) + 1).toNat = k + 1 by omega, Int.toNat_natCast]
    refine ⟨fun s j u' => ∃ q r : Nat, j = q ∧ s = r ∧ q ≤ n - (k + 1) ∧ r = t + ((L.drop (k + 1)).take q).countP (fun y => ahead y x) ∧ u' = u1, fun _ j _ => n - j.toNat, ⟨0, t, rfl, rfl, by omega, by simp, rfl⟩, ?_⟩
    rintro s j u2 ⟨q, r, rfl, rfl, hq, hr, rfl⟩
    have hcl : ((L.drop (k + 1)).take q).countP (fun y => ahead y x) ≤ q := Nat.le_trans List.countP_le_length (List.length_take_le _ _)
    refine ⟨fun hlt2 => ?_, fun hge2 => ?_⟩
    · have hlt2 := of_decide_eq_true hlt2
      obtain ⟨y, hy⟩ := hS.idx (i := (q : Int)) (by omega) hlt2
      have hy' : (L.drop (k + 1))[q]? = some y := by simpa using hy
      have htake : (L.drop (k + 1)).take (q + 1) = (L.drop (k + 1)).take q ++ [y] := by rw [List.take_add_one, hy']; rfl
      refine hS.call (by omega) hy fun b o _ => (f7_spec y x _).use ?_
      rintro v u3 ⟨rfl, rfl⟩
      rw [wrap_i64 (x := (r : Int) + 1) (by omega) (by omega), wrap_i64 (x := (q : Int) + 1) (by omega) (by omega)]
      refine ⟨_, rfl, fun h => ⟨⟨q + 1, r + 1, by omega, by omega, by omega, ?_, rfl⟩, by show n - Int.toNat _ < n - Int.toNat _; omega⟩, fun h => ⟨⟨q + 1, r, by omega, rfl, by omega, ?_, rfl⟩, by show n - Int.toNat _ < n - Int.toNat _; omega⟩⟩
      · rw [htake, List.countP_append]; simp [h]; omega
      · rw [htake, List.countP_append]; simp [h]; omega
    · have hge2 := of_decide_eq_false hge2
      have : q = n - (k + 1) := by omega
      subst this
      rw [List.take_of_length_le (by rw [List.length_drop]; omega)] at hr hcl
      refine ⟨⟨k + 1, r, by omega, rfl, by omega, by omega, rfl, ?_⟩, by show n - Int.toNat _ < n - Int.toNat _; omega⟩
      rw [hdrop, swA] at hsum
      omega
  · have hge := of_decide_eq_false hge
    have : k = n := by omega
    subst this
    rw [List.drop_of_length_le (by omega)] at hsum
    exact ⟨by rw [← hsum]; rfl, rfl⟩
theorem f21_spec (hL : Sl Call.cells 13 u a n L) (hn : n ≤ 1000000) : Spec Try.prog 21 #[.slice a n c] u fun v u' => v = .int .i64 (swA L : Nat) ∧ u' = u := by
  refine f21_of ?_
  unfold f21_V
  refine ⟨fun s i u' => ∃ k t : Nat, i = k ∧ s = t ∧ k ≤ n ∧ t ≤ 1000000 * k ∧ u' = u ∧ t = swA (L.take k), fun _ i _ => n - i.toNat, ⟨0, 0, rfl, rfl, by omega, by omega, rfl, by simp [swA]⟩, ?_⟩
  rintro s i u1 ⟨k, t, rfl, rfl, hk, ht, rfl, hsum⟩
  have hlen := hL.len
  refine ⟨fun hlt => ?_, fun hge => ?_⟩
  · have hlt := of_decide_eq_true hlt
    obtain ⟨x, hx⟩ := hL.idx (i := (k : Int)) (by omega) hlt
    have hx' : L[k]? = some x := by simpa using hx
    have htake0 : L.take (k + 1) = L.take k ++ [x] := by rw [List.take_add_one, hx']; rfl
    refine ⟨fun s j u' => ∃ q r : Nat, j = q ∧ s = r ∧ q ≤ k ∧ r = t + (L.take q).countP (fun y => ahead x y) ∧ u' = u1, fun _ j _ => n - j.toNat, ⟨0, t, rfl, rfl, by omega, by simp, rfl⟩, ?_⟩
    rintro s j u2 ⟨q, r, rfl, rfl, hq, hr, rfl⟩
    have hcl := List.countP_le_length (p := fun y => ahead x y) (l := L.take q)
    rw [List.length_take] at hcl
    refine ⟨fun hlt2 => ?_, fun hge2 => ?_⟩
    · have hlt2 := of_decide_eq_true hlt2
      obtain ⟨y, hy⟩ := hL.idx (i := (q : Int)) (by omega) (by omega)
      have hy' : L[q]? = some y := by simpa using hy
      have htake : L.take (q + 1) = L.take q ++ [y] := by rw [List.take_add_one, hy']; rfl
      refine hL.call (by omega) hx fun b o _ => hL.call (by omega) hy fun b o _ => (f8_spec x y _).use ?_
      rintro v u3 ⟨rfl, rfl⟩
      rw [wrap_i64 (x := (r : Int) + 1) (by omega) (by omega), wrap_i64 (x := (q : Int) + 1) (by omega) (by omega)]
      refine ⟨_, rfl, fun h => ⟨⟨q + 1, r + 1, by omega, by omega, by omega, ?_, rfl⟩, by show n - Int.toNat _ < n - Int.toNat _; omega⟩, fun h => ⟨⟨q + 1, r, by omega, rfl, by omega, ?_, rfl⟩, by show n - Int.toNat _ < n - Int.toNat _; omega⟩⟩
      · rw [htake, List.countP_append]; simp [h]; omega
      · rw [htake, List.countP_append]; simp [h]; omega
    · have hge2 := of_decide_eq_false hge2
      have : q = k := by omega
      subst this
      rw [wrap_i64 (x := (q : Int) + 1) (by omega) (by omega)]
      refine ⟨⟨q + 1, r, by omega, rfl, by omega, by omega, rfl, ?_⟩, by show n - Int.toNat _ < n - Int.toNat _; omega⟩
      rw [htake0, swA_snoc]; omega
  · have hge := of_decide_eq_false hge
    have : k = n := by omega
    subst this
    rw [List.take_of_length_le (by omega)] at hsum
    exact ⟨by rw [hsum], rfl⟩
/-! the same calls? -/
theorem f13_spec (hL : Sl Call.cells 13 u a n L) (hM : Sl Call.cells 13 u b m M) (hn : n ≤ 1000000) (h : L = M) : Spec Try.prog 13 #[.slice a n c, .slice b m c'] u fun v u' => v = .bool true ∧ u' = u := by
  subst h
  have hlen := hL.len
  have hmn : m = n := by rw [← hM.len, hlen]
  subst hmn
  refine f13_of ?_
  unfold f13_V
  refine ⟨fun h => by simp at h, fun _ => ⟨fun _ i u' => ∃ k : Nat, i = k ∧ k ≤ m ∧ u' = u, fun _ i _ => m - i.toNat, ⟨0, rfl, by omega, rfl⟩, ?_⟩⟩
  rintro z i u1 ⟨k, rfl, hk, rfl⟩
  refine ⟨fun hlt => ?_, fun hge => ⟨rfl, rfl⟩⟩
  have hlt := of_decide_eq_true hlt
  obtain ⟨x, hx⟩ := hL.idx (i := (k : Int)) (by omega) hlt
  rw [wrap_i64 (x := (k : Int) + 1) (by omega) (by omega)]
  refine hL.call (by omega) hx fun _ _ _ => hM.call (by omega) hx fun _ _ _ => ⟨fun h => by simp at h, fun _ => ⟨⟨k + 1, by omega, by omega, rfl⟩, by show m - Int.toNat _ < m - Int.toNat _; omega⟩⟩
end
end Go.Proofs.Ytlmnfhhmgfnbpaa.E
