/- CONTRACTS: hist's other functions, and the document's. -/
import Derived.Test.YtlmnfhhmgfnbpaaC7
namespace Go.Proofs.Ytlmnfhhmgfnbpaa.E
open Go
section
variable {u : PH} {a : Option Addr} {n c : Nat} {L : List Call}
/-- the document's insertion -/
theorem f15_spec (hL : Sl Call.cells 13 u a n L) (hn : n ≤ 1000000) : Spec Try.prog 15 #[.slice a n c] u (Lst u (·.at_) (L.filter fun x => decide (x.at_ ≥ 0))) := by
  refine f15_of ?_
  unfold f15_V
  refine ⟨fun a' m c' i u' => ∃ (k : Nat) (out : List Call), i = k ∧ k ≤ n ∧ Own Call.cells 13 28 u u' a' m c' out ∧ Ext u u' ∧ Srt.Stable (·.at_) ((L.take k).filter fun x => decide (x.at_ ≥ 0)) out, fun _ _ _ i _ => n - i.toNat, ⟨0, [], rfl, by omega, Own.nil _ _, Ext.refl u, Srt.Stable.nil⟩, ?_⟩
  rintro a' m c' i u1 ⟨k, out, rfl, hk, hO, hE, hS⟩
  have hlen := hL.len
  have hm : m ≤ 1000000 := by
    have h1 := hO.len
    have h2 := List.length_filter_le (fun x : Call => decide (x.at_ ≥ 0)) (L.take k)
    have h3 := hS.len
    rw [List.length_take] at h2
    omega
  refine ⟨fun hlt => ?_, fun hge => ?_⟩
  · have hlt := of_decide_eq_true hlt
    obtain ⟨x, hx⟩ := (hL.ext hE).idx (i := (k : Int)) (by omega) hlt
    have hx' : L[k]? = some x := by simpa using hx
    have htake : L.take (k + 1) = L.take k ++ [x] := by rw [List.take_add_one, hx']; rfl
    rw [wrap_i64 (x := (k : Int) + 1) (by omega) (by omega)]
    refine (hL.ext hE).callInt (v := x.at_) (by omega) hx rfl fun b o _ => ⟨fun hneg => ?_, fun hpos => ?_⟩
    · refine ⟨⟨k + 1, out, by omega, by omega, hO, hE, ?_⟩, by show n - Int.toNat _ < n - Int.toNat _; omega⟩
      have hneg := of_decide_eq_true hneg
      rw [htake, List.filter_append]
      simpa [show ¬ (0 : Int) ≤ x.at_ by omega] using hS
    · have hpos := of_decide_eq_false hpos
      have ho := hO.sl Call.cells_len
      have hol := hO.len
      refine ⟨fun i u' => ∃ p : Nat, i = p ∧ p ≤ m ∧ u' = u1 ∧ (∀ q y, p ≤ q → out[q]? = some y → x.at_ < y.at_) ∧ (p = 0 ∨ ∃ y, out[p - 1]? = some y ∧ ¬ x.at_ < y.at_), ⟨fun i u' => ∃ p : Nat, i = p ∧ p ≤ m ∧ u' = u1 ∧ (∀ q y, p ≤ q → out[q]? = some y → x.at_ < y.at_), fun i _ => i.toNat,
        ⟨m, rfl, Nat.le_refl _, rfl, fun q y h1 h2 => by rw [List.getElem?_eq_none (by omega)] at h2; cases h2⟩, ?_⟩, ?_⟩
      · rintro i u2 ⟨p, rfl, hp, rfl, hall⟩
        refine ⟨fun hgt => ?_, fun hle => ?_⟩
        · have hgt := of_decide_eq_true hgt
          rw [wrap_i64 (x := (p : Int) - 1) (by omega) (by omega)]
          obtain ⟨y, hy⟩ := ho.idx (i := (p : Int) - 1) (by omega) (by omega)
          have hy' : out[p - 1]? = some y := by rwa [show ((p : Int) - 1).toNat = p - 1 by omega] at hy
          refine ho.callInt (v := y.at_) (by omega) hy rfl fun b2 o2 _ => (hL.ext hE).callInt (v := x.at_) (by omega) hx rfl fun b3 o3 _ => ⟨fun h1 => ?_, fun h1 => ?_⟩
          · have h1 := of_decide_eq_true h1
            refine ⟨⟨p - 1, by omega, by omega, rfl, fun q z h2 h3 => ?_⟩, by show Int.toNat _ < Int.toNat _; omega⟩
            by_cases hq : q = p - 1
            · rw [hq, hy'] at h3; cases h3; exact h1
            · exact hall q z (by omega) h3
          · have h1 := of_decide_eq_false h1
            exact ⟨p, rfl, hp, rfl, hall, .inr ⟨y, hy', h1⟩⟩
        · have hle := of_decide_eq_false hle
          exact ⟨p, rfl, hp, rfl, hall, .inl (by omega)⟩
      · rintro i u2 ⟨p, rfl, hp, rfl, hall, hd⟩
        refine ins_vc (hL.ext hE) hx' ho hO.le hm hp fun a3 m3 c3 u3 hO3 hE3 => ⟨⟨k + 1, _, by omega, by omega, hO3.base hE, hE.trans hE3, ?_⟩, by show n - Int.toNat _ < n - Int.toNat _; omega⟩
        rw [htake, List.filter_append]
        have : [x].filter (fun x : Call => decide (x.at_ ≥ 0)) = [x] := by simp; omega
        rw [this]
        exact hS.ins x (by omega) hall hd
  · have hge := of_decide_eq_false hge
    have : k = n := by omega
    subst this
    rw [List.take_of_length_le (by omega)] at hS
    exact ⟨_, _, _, _, rfl, hO, hE, hS⟩
theorem f17_spec (hL : Sl Call.cells 13 u a n L) (hn : n ≤ 1000000) : Spec Try.prog 17 #[.slice a n c] u (Lst u (·.beg) L) := by
  refine f17_of ?_
  unfold f17_V
  refine ⟨fun a' m c' i u' => ∃ (k : Nat) (out : List Call), i = k ∧ k ≤ n ∧ Own Call.cells 13 28 u u' a' m c' out ∧ Ext u u' ∧ Srt.Stable (·.beg) (L.take k) out, fun _ _ _ i _ => n - i.toNat, ⟨0, [], rfl, by omega, Own.nil _ _, Ext.refl u, Srt.Stable.nil⟩, ?_⟩
  rintro a' m c' i u1 ⟨k, out, rfl, hk, hO, hE, hS⟩
  have hlen := hL.len
  have hm : m ≤ 1000000 := by
    have h1 := hO.len
    have h3 := hS.len
    rw [List.length_take] at h3
    omega
  refine ⟨fun hlt => ?_, fun hge => ?_⟩
  · have hlt := of_decide_eq_true hlt
    obtain ⟨x, hx⟩ := (hL.ext hE).idx (i := (k : Int)) (by omega) hlt
    have hx' : L[k]? = some x := by simpa using hx
    have htake : L.take (k + 1) = L.take k ++ [x] := by rw [List.take_add_one, hx']; rfl
    rw [wrap_i64 (x := (k : Int) + 1) (by omega) (by omega)]
    have ho := hO.sl Call.cells_len
    have hol := hO.len
    refine ⟨fun i u' => ∃ p : Nat, i = p ∧ p ≤ m ∧ u' = u1 ∧ (∀ q y, p ≤ q → out[q]? = some y → x.beg < y.beg) ∧ (p = 0 ∨ ∃ y, out[p - 1]? = some y ∧ ¬ x.beg < y.beg), ⟨fun i u' => ∃ p : Nat, i = p ∧ p ≤ m ∧ u' = u1 ∧ (∀ q y, p ≤ q → out[q]? = some y → x.beg < y.beg), fun i _ => i.toNat,
      ⟨m, rfl, Nat.le_refl _, rfl, fun q y h1 h2 => by rw [List.getElem?_eq_none (by omega)] at h2; cases h2⟩, ?_⟩, ?_⟩
    · rintro i u2 ⟨p, rfl, hp, rfl, hall⟩
      refine ⟨fun hgt => ?_, fun hle => ?_⟩
      · have hgt := of_decide_eq_true hgt
        rw [wrap_i64 (x := (p : Int) - 1) (by omega) (by omega)]
        obtain ⟨y, hy⟩ := ho.idx (i := (p : Int) - 1) (by omega) (by omega)
        have hy' : out[p - 1]? = some y := by rwa [show ((p : Int) - 1).toNat = p - 1 by omega] at hy
        refine ho.callInt (v := y.beg) (by omega) hy rfl fun b2 o2 _ => (hL.ext hE).callInt (v := x.beg) (by omega) hx rfl fun b3 o3 _ => ⟨fun h1 => ?_, fun h1 => ?_⟩
        · have h1 := of_decide_eq_true h1
          refine ⟨⟨p - 1, by omega, by omega, rfl, fun q z h2 h3 => ?_⟩, by show Int.toNat _ < Int.toNat _; omega⟩
          by_cases hq : q = p - 1
          · rw [hq, hy'] at h3; cases h3; exact h1
          · exact hall q z (by omega) h3
        · have h1 := of_decide_eq_false h1
          exact ⟨p, rfl, hp, rfl, hall, .inr ⟨y, hy', h1⟩⟩
      · have hle := of_decide_eq_false hle
        exact ⟨p, rfl, hp, rfl, hall, .inl (by omega)⟩
    · rintro i u2 ⟨p, rfl, hp, rfl, hall, hd⟩
      refine ins_vc (hL.ext hE) hx' ho hO.le hm hp fun a3 m3 c3 u3 hO3 hE3 => ⟨⟨k + 1, _, by omega, by omega, hO3.base hE, hE.trans hE3, ?_⟩, by show n - Int.toNat _ < n - Int.toNat _; omega⟩
      rw [htake]
      exact hS.ins x (by omega) hall hd
  · have hge := of_decide_eq_false hge
    have : k = n := by omega
    subst this
    rw [List.take_of_length_le (by omega)] at hS
    exact ⟨_, _, _, _, rfl, hO, hE, hS⟩
theorem f19_spec {client : Int} (hL : Sl Call.cells 13 u a n L) (hn : n ≤ 1000000) : Spec Try.prog 19 #[.slice a n c, .int .i64 client] u (Lst u (fun _ => 0) (L.filter fun x => x.client == client)) := by
  refine f19_of ?_
  unfold f19_V
  refine ⟨fun a' m c' i u' => ∃ (k : Nat), i = k ∧ k ≤ n ∧ Own Call.cells 13 28 u u' a' m c' ((L.take k).filter fun x => x.client == client) ∧ Ext u u', fun _ _ _ i _ => n - i.toNat, ⟨0, rfl, by omega, Own.nil _ _, Ext.refl u⟩, ?_⟩
  rintro a' m c' i u1 ⟨k, rfl, hk, hO, hE⟩
  have hlen := hL.len
  have hm : m ≤ 1000000 := by
    have h1 := hO.len
    have h2 := List.length_filter_le (fun x : Call => x.client == client) (L.take k)
    rw [List.length_take] at h2
    omega
  refine ⟨fun hlt => ?_, fun hge => ?_⟩
  · have hlt := of_decide_eq_true hlt
    obtain ⟨x, hx⟩ := (hL.ext hE).idx (i := (k : Int)) (by omega) hlt
    have hx' : L[k]? = some x := by simpa using hx
    have htake : L.take (k + 1) = L.take k ++ [x] := by rw [List.take_add_one, hx']; rfl
    rw [wrap_i64 (x := (k : Int) + 1) (by omega) (by omega)]
    refine (hL.ext hE).callInt (v := x.client) (j := 0) (by omega) hx rfl fun b o _ => ⟨fun h1 => ?_, fun h1 => ?_⟩
    · refine (hL.ext hE).call (by omega) hx fun b2 o2 _ B hB => ?_
      refine (app_calls (hO.ext (Ext.add hB _)) (Sl.one u1 B x 28) (by omega) (hE.trans (Ext.add hB _))).use ?_
      rintro v u3 ⟨a3, c3, rfl, hO3, hE3, _⟩
      refine ⟨_, _, _, rfl, ⟨k + 1, by omega, by omega, ?_, hE3⟩, by show n - Int.toNat _ < n - Int.toNat _; omega⟩
      rw [htake, List.filter_append]
      simpa [h1] using hO3
    · refine ⟨⟨k + 1, by omega, by omega, ?_, hE⟩, by show n - Int.toNat _ < n - Int.toNat _; omega⟩
      rw [htake, List.filter_append]
      simpa [h1] using hO
  · have hge := of_decide_eq_false hge
    have : k = n := by omega
    subst this
    rw [List.take_of_length_le (by omega)] at hO
    refine ⟨_, _, _, _, rfl, hO, hE, ((L.filter fun x => x.client == client)).zipIdx, by rw [List.zipIdx_map_fst], ?_, List.Perm.refl _⟩
    rw [List.pairwise_iff_getElem]
    intro i j hi hj hij
    refine ⟨Int.le_refl _, fun _ => ?_⟩
    simp only [List.getElem_zipIdx, Srt.tagT]; omega
end
end Go.Proofs.Ytlmnfhhmgfnbpaa.E
