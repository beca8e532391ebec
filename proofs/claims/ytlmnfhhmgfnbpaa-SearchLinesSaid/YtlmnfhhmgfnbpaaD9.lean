/- CONTRACTS: the law SearchFinds. -/
import Derived.Test.YtlmnfhhmgfnbpaaD8
import Derived.Test.YtlmnfhhmgfnbpaaVD
namespace Go.Proofs.Ytlmnfhhmgfnbpaa.E
open Go
theorem f28_spec {u : PH} {a b : Option Addr} {n m c c' : Nat} {L M : List Int} (hL : Sl encI 1 u a n L) (hM : Sl encI 1 u b m M) (hn : n ≤ 1000000) (h : L = M) : Spec Try.prog 28 #[.slice a n c, .slice b m c'] u fun v u' => v = .bool true ∧ u' = u := by
  subst h
  have hlen := hL.len
  have hmn : m = n := by rw [← hM.len, hlen]
  subst hmn
  refine f28_of ?_
  unfold f28_V
  refine ⟨fun h => by simp at h, fun _ => ⟨fun _ i u' => ∃ k : Nat, i = k ∧ k ≤ m ∧ u' = u, fun _ i _ => m - i.toNat, ⟨0, rfl, by omega, rfl⟩, ?_⟩⟩
  rintro z i u1 ⟨k, rfl, hk, rfl⟩
  refine ⟨fun hlt => ?_, fun hge => ⟨rfl, rfl⟩⟩
  have hlt := of_decide_eq_true hlt
  obtain ⟨x, hx⟩ := hL.idx (i := (k : Int)) (by omega) hlt
  rw [wrap_i64 (x := (k : Int) + 1) (by omega) (by omega)]
  refine hL.int (by omega) hx fun _ _ _ => hM.int (by omega) hx fun _ _ _ => ⟨fun h => by simp at h, fun _ => ⟨⟨k + 1, by omega, by omega, rfl⟩, by show m - Int.toNat _ < m - Int.toNat _; omega⟩⟩
def awG : Call := ⟨0, 0, ⟨1, 1, 0, 0, 0⟩, 0, 5, 9, 0, true, 5⟩
def awS : Call := ⟨0, 0, ⟨2, 1, 5, 0, 0⟩, 1, 2, 3, 0, true, 0⟩
theorem aw_found : found [awG, awS] = some [1, 0] := by decide +kernel
theorem f22_spec (u : PH) : Spec Try.prog 22 #[] u fun v u' => v = .bool true ∧ Ext u u' := by
  refine f22_of ?_
  unfold f22_V
  intro B hB
  refine (f23_spec (L := [awG, awS]) ((Own.fresh (u := u) hB 28 [awG, awS] Call.cells_len (by unfold maxLen; simp)).sl Call.cells_len)).use ?_
  rintro v u1 ⟨hE, hf⟩
  rw [aw_found] at hf
  obtain ⟨a, m, c, rfl, hS⟩ := hf
  refine ⟨_, _, _, _, rfl, fun _ B8 h8 => ?_, fun h => by cases h⟩
  have h2 : Sl encI 1 (PH.add u1 B8 (.cells #[.int .i64 1, .int .i64 0] 3)) (some ⟨B8, 0, none⟩) 2 [1, 0] := (Own.fresh (u := u1) h8 3 ([1, 0] : List Int) encI_len (by unfold maxLen; simp)).sl encI_len
  have := hS.len
  refine (f28_spec (hS.ext (Ext.add h8 _)) h2 (by simp at this; omega) rfl).use ?_
  rintro v u2 ⟨rfl, rfl⟩
  exact ⟨_, rfl, rfl, (Ext.add hB _).trans (hE.trans (Ext.add h8 _))⟩
theorem f4_spec {u : PH} {a : Option Addr} {n c : Nat} {L : List Call} (hL : Sl Call.cells 13 u a n L) : Spec Try.prog 4 #[.slice a n c] u fun v u' => v = .bool true ∧ Ext u u' := by
  have hlen := hL.len
  refine f4_of ?_
  unfold f4_V
  have awake : ∀ {u1 : PH}, Ext u u1 → Spec Try.prog 22 #[] u1 fun v u2 => ∃ b, v = .bool b ∧ (Value.bool b = .bool true ∧ Ext u u2) := fun h => (f22_spec _).use (by
    rintro v u2 ⟨rfl, h2⟩
    exact ⟨_, rfl, rfl, h.trans h2⟩)
  refine ⟨fun h => awake (Ext.refl u), fun h => (f23_spec hL).use ?_⟩
  have h := of_decide_eq_false h
  rintro v u1 ⟨hE, hf⟩
  cases hfd : found L with
  | none =>
    rw [hfd] at hf
    have hf : v = .tuple #[.slice none 0 0, .bool false] := hf
    subst hf
    refine ⟨_, _, _, _, rfl, fun h7 => ⟨fun _ => awake hE, fun h => by simp at h⟩, fun h7 => ⟨fun h => (by cases h), fun _ => ⟨fun h => (by simp at h), fun _ => (f15_spec (hL.ext hE) (by omega)).use ?_⟩⟩⟩
    have h7 := of_decide_eq_false h7
    rintro v u2 ⟨a2, m2, c2, C1, rfl, hO, hE2, hS1⟩
    refine ⟨_, _, _, rfl, (f25_spec (hL.ext (hE.trans hE2)) (by omega)).use ?_⟩
    rintro v u3 ⟨C, hS, rfl, hE3⟩
    refine ⟨_, rfl, fun h => ?_, fun _ => awake (hE.trans (hE2.trans hE3))⟩
    exfalso
    simp only [Bool.and_eq_true, beq_iff_eq] at h
    obtain ⟨⟨⟨hr, hok⟩, hl⟩, _⟩ := h
    have := hO.len
    have hC : C1 = C := hS1.uniq hS
    obtain ⟨O, hLine⟩ := line_of_holds hr hS hok (by rw [← hC]; omega)
    exact found_some hLine (by omega) hfd
  | some q =>
    rw [hfd] at hf
    obtain ⟨a1, m1, c1, rfl, hS⟩ := hf
    have hLine := found_sound hfd
    have h7 : L.length ≤ 7 := by
      unfold found at hfd
      split at hfd
      · assumption
      · cases hfd
    refine ⟨_, _, _, _, rfl, fun h7' => ?_, fun h7' => ⟨fun _ => (f24_spec (hL.ext hE) hS (by omega)).use ?_, fun h => by cases h⟩⟩
    · have := of_decide_eq_true h7'; omega
    rintro v u2 ⟨b, rfl, hb, hE2⟩
    have hb' : b = true := hb.2 hLine
    subst hb'
    refine ⟨_, rfl, fun h => by simp at h, fun _ => (f15_spec (hL.ext (hE.trans hE2)) (by omega)).use ?_⟩
    rintro v u3 ⟨a3, m3, c3, C1, rfl, hO, hE3, hS1⟩
    refine ⟨_, _, _, rfl, (f25_spec (hL.ext (hE.trans (hE2.trans hE3))) (by omega)).use ?_⟩
    rintro v u4 ⟨C, hS4, rfl, hE4⟩
    refine ⟨_, rfl, fun h => by simp at h, fun _ => awake (hE.trans (hE2.trans (hE3.trans hE4)))⟩
end Go.Proofs.Ytlmnfhhmgfnbpaa.E
