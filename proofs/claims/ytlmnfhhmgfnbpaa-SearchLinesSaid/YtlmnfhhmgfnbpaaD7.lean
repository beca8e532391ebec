/- CONTRACTS: the document's replays and lines. -/
import Derived.Test.YtlmnfhhmgfnbpaaD6
namespace Go.Proofs.Ytlmnfhhmgfnbpaa.E
open Go
section
variable {u : PH} {a ao : Option Addr} {n c m co : Nat} {L : List Call} {O : List Int}
theorem f45_spec (hL : Sl Call.cells 13 u a n L) (hn : n ≤ 1000000) (hc : n ≤ c) : Spec Try.prog 45 #[.slice a n c] u fun v u' => ∃ r : Int, v = .int .i64 r ∧ (r = n ↔ okAll Em L = true) ∧ u' = u := by
  refine f45_of ?_
  unfold f45_V
  refine ⟨fun _ i u' => ∃ k : Nat, i = k ∧ k ≤ n ∧ u' = u ∧ ∀ j x, j < k → L[j]? = some x → (Em.run (L.take j)).may x = true, fun _ i _ => n - i.toNat, ⟨0, rfl, by omega, rfl, fun j x h => by omega⟩, ?_⟩
  rintro z i u1 ⟨k, rfl, hk, rfl, hall⟩
  have hlen := hL.len
  refine ⟨fun hlt => ?_, fun hge => ?_⟩
  · have hlt := of_decide_eq_true hlt
    obtain ⟨x, hx⟩ := hL.idx (i := (k : Int)) (by omega) hlt
    have hx' : L[k]? = some x := by simpa using hx
    rw [wrap_i64 (x := (k : Int) + 1) (by omega) (by omega)]
    refine ⟨⟨by omega, by omega, by omega⟩, hL.call (by omega) hx fun b o _ => ?_⟩
    have hS := hL.sub (i := 0) (j := k) (c := c) (by omega) hk hc
    refine (f59_spec hS (by omega) x).use ?_
    rintro v u2 ⟨rfl, rfl⟩
    have hdrop : (L.drop 0).take (k - 0) = L.take k := by simp
    rw [hdrop]
    refine ⟨_, rfl, fun h => ⟨_, rfl, ⟨fun h' => by omega, fun h' => ?_⟩, rfl⟩, fun h => ⟨⟨k + 1, by omega, by omega, rfl, fun j y hj hy => ?_⟩, by show n - Int.toNat _ < n - Int.toNat _; omega⟩⟩
    · have := (okAll_iff Em L).1 h' k x hx'
      rw [this] at h; cases h
    · by_cases e : j = k
      · subst e
        rw [hx'] at hy; cases hy
        simpa using h
      · exact hall j y (by omega) hy
  · have hge := of_decide_eq_false hge
    exact ⟨_, rfl, ⟨fun _ => (okAll_iff Em L).2 fun j x hx => hall j x (by have := (List.getElem?_eq_some_iff.1 hx).1; omega) hx, fun _ => rfl⟩, rfl⟩
theorem f25_spec (hL : Sl Call.cells 13 u a n L) (hn : n ≤ 1000000) : Spec Try.prog 25 #[.slice a n c] u fun v u' => ∃ C, Srt.Stable (·.at_) (L.filter fun x => decide (x.at_ ≥ 0)) C ∧ v = .bool (rightH L && okAll Em C) ∧ Ext u u' := by
  refine f25_of ?_
  unfold f25_V
  refine (f15_spec hL hn).use ?_
  rintro v u1 ⟨a1, m1, c1, C, rfl, hO, hE, hS⟩
  refine ⟨_, _, _, rfl, (f10_spec (hL.ext hE) hn).use ?_⟩
  rintro v u2 ⟨rfl, rfl⟩
  refine ⟨_, rfl, fun h => ?_, fun h => ⟨C, hS, by rw [h]; rfl, hE⟩⟩
  have hm : m1 ≤ 1000000 := by
    have h1 := hO.len
    have h2 := List.length_filter_le (fun x : Call => decide (x.at_ ≥ 0)) L
    have h3 := hS.len
    have := hL.len
    omega
  refine (f45_spec (hO.sl Call.cells_len) hm hO.le).use ?_
  rintro v u3 ⟨r, rfl, hr, rfl⟩
  refine ⟨r, rfl, C, hS, ?_, hE⟩
  congr 1
  rw [h, Bool.true_and, Bool.eq_iff_iff, ← hr]
  simp
def pick (L : List Call) (O : List Int) : List Call := O.filterMap fun i => L[i.toNat]?
def IdxOk (n : Nat) (O : List Int) : Prop := ∀ (k : Nat) (i : Int), O[k]? = some i → 0 ≤ i ∧ i < n ∧ ¬ i ∈ O.take k
def IsLine (L : List Call) (O : List Int) : Prop := O.length = L.length ∧ IdxOk L.length O ∧ swA (pick L O) = 0 ∧ okAll Em (pick L O) = true
theorem f24_spec (hL : Sl Call.cells 13 u a n L) (hO : Sl encI 1 u ao m O) (hn : n ≤ 1000) : Spec Try.prog 24 #[.slice a n c, .slice ao m co] u fun v u' => ∃ b, v = .bool b ∧ (b = true ↔ IsLine L O) ∧ Ext u u' := by
  have hlen := hL.len
  have holen := hO.len
  refine f24_of ?_
  unfold f24_V
  refine ⟨fun h => ⟨_, rfl, ⟨fun h => (by cases h), fun h' => ?_⟩, Ext.refl _⟩, fun h => ?_⟩
  · have h : ¬ ((m : Int) = n) := by simpa using h
    have := h'.1
    omega
  have h : (m : Int) = n := by simpa using h
  have hmn : m = n := by omega
  refine ⟨fun _ a' l' c' i u' => ∃ k : Nat, i = k ∧ k ≤ m ∧ Own Call.cells 13 28 u u' a' l' c' (pick L (O.take k)) ∧ Ext u u' ∧ l' = k ∧ ∀ (j : Nat) (i : Int), j < k → O[j]? = some i → 0 ≤ i ∧ i < n ∧ ¬ i ∈ O.take j, fun _ _ _ _ i _ => m - i.toNat, ⟨0, rfl, by omega, Own.nil _ _, Ext.refl _, rfl, fun j i h => by omega⟩, ?_⟩
  rintro z a' l' c' i u1 ⟨k, rfl, hk, hW, hE, rfl, hall⟩
  refine ⟨fun hlt => ?_, fun hge => ?_⟩
  · have hlt := of_decide_eq_true hlt
    obtain ⟨x, hx⟩ := (hO.ext hE).idx (i := (l' : Int)) (by omega) hlt
    have hx' : O[l']? = some x := by simpa using hx
    have no : ¬ (0 ≤ x ∧ x < n ∧ ¬ x ∈ O.take l') → (∃ b, Value.bool false = .bool b ∧ (b = true ↔ IsLine L O) ∧ Ext u u1) := fun hno => ⟨_, rfl, ⟨fun h => (by cases h), fun h' => by
      have := h'.2.1 l' x hx'
      rw [hlen] at this
      exact (hno this).elim⟩, hE⟩
    refine (hO.ext hE).int (by omega) hx fun b o _ => ⟨fun h1 => ?_, fun h1 => ?_⟩
    · have h1 := of_decide_eq_true h1
      exact no fun h => by omega
    have h1 := of_decide_eq_false h1
    refine (hO.ext hE).int (by omega) hx fun b o _ => ⟨fun h2 => ?_, fun h2 => ?_⟩
    · have h2 := of_decide_eq_true h2
      exact no fun h => by omega
    have h2 := of_decide_eq_false h2
    refine ⟨fun _ j u' => ∃ q : Nat, j = q ∧ q ≤ l' ∧ u' = u1 ∧ ¬ x ∈ O.take q, fun _ j _ => m - j.toNat, ⟨0, rfl, by omega, rfl, by simp⟩, ?_⟩
    rintro z2 j u2 ⟨q, rfl, hq, rfl, hnot⟩
    refine ⟨fun hlt2 => ?_, fun hge2 => ?_⟩
    · have hlt2 := of_decide_eq_true hlt2
      obtain ⟨y, hy⟩ := (hO.ext hE).idx (i := (q : Int)) (by omega) (by omega)
      have hy' : O[q]? = some y := by simpa using hy
      have htake : O.take (q + 1) = O.take q ++ [y] := by rw [List.take_add_one, hy']; rfl
      rw [wrap_i64 (x := (q : Int) + 1) (by omega) (by omega)]
      refine (hO.ext hE).int (by omega) hy fun b o _ => (hO.ext hE).int (by omega) hx fun b o _ => ⟨fun h3 => no fun hh => ?_, fun h3 => ⟨⟨q + 1, by omega, by omega, rfl, ?_⟩, by show m - Int.toNat _ < m - Int.toNat _; omega⟩⟩
      · have h3 : y = x := by simpa using h3
        exact hh.2.2 (List.mem_of_getElem? (i := q) (by rw [List.getElem?_take_of_lt (by omega), hy', h3]))
      · have h3 : ¬ y = x := by simpa using h3
        rw [htake]
        simp only [List.mem_append, List.mem_singleton]
        rintro (h4 | h4)
        · exact hnot h4
        · exact h3 h4.symm
    · have hge2 := of_decide_eq_false hge2
      have : q = l' := by omega
      subst this
      obtain ⟨w, hw⟩ := (hL.ext hE).idx (i := x) (by omega) (by omega)
      have htake : O.take (q + 1) = O.take q ++ [x] := by rw [List.take_add_one, hx']; rfl
      have hpick : pick L (O.take (q + 1)) = pick L (O.take q) ++ [w] := by rw [htake, pick, List.filterMap_append]; simp [pick, hw]
      rw [wrap_i64 (x := (q : Int) + 1) (by omega) (by omega)]
      refine (hO.ext hE).int (by omega) hx fun b o _ => (hL.ext hE).call (by omega) hw fun b o _ B hB => ?_
      refine (app_calls (hW.ext (Ext.add hB _)) (Sl.one u2 B w 28) (by omega) (hE.trans (Ext.add hB _))).use ?_
      rintro v u3 ⟨a3, c3, rfl, hO3, hE3, _⟩
      refine ⟨_, _, _, rfl, ⟨q + 1, by omega, by omega, by rw [hpick]; exact hO3, hE3, rfl, fun j y hj hy => ?_⟩, by show m - Int.toNat _ < m - Int.toNat _; omega⟩
      by_cases e : j = q
      · subst e
        rw [hx'] at hy; cases hy
        exact ⟨by omega, by omega, hnot⟩
      · exact hall j y (by omega) hy
  · have hge := of_decide_eq_false hge
    have : l' = m := by omega
    subst this
    rw [List.take_of_length_le (by omega)] at hW
    have hidx : IdxOk L.length O := fun j i hi => by
      rw [hlen]; exact hall j i (by have := (List.getElem?_eq_some_iff.1 hi).1; omega) hi
    refine (f21_spec (hW.sl Call.cells_len) (by omega)).use ?_
    rintro v u2 ⟨rfl, rfl⟩
    refine ⟨_, rfl, fun hsw => ?_, fun hsw => ⟨_, rfl, ⟨fun h => (by cases h), fun h' => ?_⟩, hE⟩⟩
    · have hsw : ((swA (pick L O) : Nat) : Int) = 0 := by simpa using hsw
      refine (f45_spec (hW.sl Call.cells_len) (by omega) hW.le).use ?_
      rintro v u3 ⟨r, rfl, hr, rfl⟩
      refine ⟨r, rfl, _, rfl, ?_, hE⟩
      rw [beq_iff_eq, hr]
      exact ⟨fun h => ⟨by omega, hidx, by omega, h⟩, fun h => h.2.2.2⟩
    · have hsw : ¬ ((swA (pick L O) : Nat) : Int) = 0 := by simpa using hsw
      have := h'.2.2.1
      omega
end
end Go.Proofs.Ytlmnfhhmgfnbpaa.E
