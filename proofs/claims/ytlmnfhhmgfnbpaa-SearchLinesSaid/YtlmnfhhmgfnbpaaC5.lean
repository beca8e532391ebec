/- CONTRACTS: SortStableFunc, of calls. -/
import Derived.Test.YtlmnfhhmgfnbpaaC4
namespace Go.Proofs.Ytlmnfhhmgfnbpaa.E
open Go
section
variable {e : TypeId} {u0 u : PH} {b0 c n : Nat} {key : Call → Int} {cmp : Value} {f : Nat → CT}
theorem f67_spec (hc : notAgg cmp = true) (hC : CmpOk u0 b0 key cmp) (hn : n ≤ 1152921504606846976) (R : RowF encT 13 e u b0 c n f) (hs : SameBut u0 u b0) (ht : ∀ i j, i < j → j < n → tagC (f i) < tagC (f j)) :
    Spec Try.prog 67 #[.slice (some ⟨b0, 0, none⟩) n c, .int .i64 n, cmp] u fun v u' => v = .tuple #[] ∧ SameBut u0 u' b0 ∧ ∃ f', RowF encT 13 e u' b0 c n f' ∧ Srt.Done (keyC key) tagC f f' 0 n := by
  refine f67_of (hcmp := hc) ?_
  unfold f67_V
  refine ⟨fun i j u' => ∃ (a : Nat) (g : Nat → CT), i = a ∧ j = (a + 20 : Nat) ∧ a % 20 = 0 ∧ a ≤ n ∧ SameBut u0 u' b0 ∧ RowF encT 13 e u' b0 c n g ∧ Srt.Rearr 0 n f g ∧ Srt.Runs (keyC key) tagC (fun p => p % 20 = 0 ∨ a ≤ p) g n, fun i _ _ => n - i.toNat,
    ⟨0, f, rfl, rfl, rfl, by omega, hs, R, Srt.Rearr.refl _ _ _, (Srt.Runs.init ht).conv fun p _ _ => ⟨fun _ => .inr (by omega), fun _ => trivial⟩⟩, ?_⟩
  rintro i j u1 ⟨a, g, rfl, rfl, ha, han, hs1, R1, hr1, hR1⟩
  have tags : ∀ p q, a ≤ p → p < q → q < n → tagC (g p) < tagC (g q) := fun p q h1 h2 h3 => hR1.t q (.inr (by omega)) p q h2 (Nat.le_refl _) h3
  refine ⟨fun hle => ?_, fun hgt => ?_⟩
  · have hle := of_decide_eq_true hle
    refine (f81_spec hc hC R1 hs1 hn (a := a) (b := a + 20) (by omega) (by omega) fun p q h1 h2 h3 => tags p q h1 h2 (by omega)).use ?_
    rintro v u2 ⟨rfl, hs2, g2, R2, hD⟩
    rw [wrap_i64 (by omega) (by omega)]
    refine ⟨rfl, ⟨a + 20, g2, rfl, by omega, by omega, by omega, hs2, R2, hr1.trans (hD.2.mono (by omega) (by omega)), ?_⟩, by show n - Int.toNat _ < n - Int.toNat _; omega⟩
    refine hR1.join hD (by omega) (by omega) (fun _ _ => .inl ha) (fun _ => .inr (Nat.le_refl _)) (fun p h1 h2 h3 => ⟨by omega, by omega⟩) (fun p h1 h2 h3 h4 => ?_)
    rcases h4 with h4 | h4
    · exact .inl h4
    · rcases h3 with h3 | h3
      · have : p = a := by omega
        exact .inl (by omega)
      · exact .inr h3
  · have hgt := of_decide_eq_false hgt
    refine (f81_spec hc hC R1 hs1 hn (a := a) (b := n) han (Nat.le_refl _) fun p q h1 h2 h3 => tags p q h1 h2 h3).use ?_
    rintro v u2 ⟨rfl, hs2, g2, R2, hD⟩
    refine ⟨rfl, ?_⟩
    have hR2 : Srt.Runs (keyC key) tagC (fun p => p % 20 = 0) g2 n := by
      refine hR1.join hD han (Nat.le_refl _) (fun _ _ => ha) (fun h => by omega) (fun p h1 h2 h3 => ⟨.inl h3, by omega⟩) (fun p h1 h2 h3 h4 => ?_)
      rcases h4 with h4 | h4
      · exact h4
      · have : p = a := by omega
        omega
    refine ⟨fun s _ _ u' => ∃ (s' : Nat) (g : Nat → CT), s = s' ∧ 0 < s' ∧ (s' ≤ n ∨ s' ≤ 2 * n ∨ s' = 20) ∧ SameBut u0 u' b0 ∧ RowF encT 13 e u' b0 c n g ∧ Srt.Rearr 0 n f g ∧ Srt.Runs (keyC key) tagC (fun p => p % s' = 0) g n, fun s _ _ _ => (2 * n + 20 - s.toNat),
      ⟨20, g2, rfl, by omega, by omega, hs2, R2, hr1.trans (hD.2.mono (by omega) (Nat.le_refl _)), hR2⟩, ?_⟩
    rintro s x y u3 ⟨s, g3, rfl, hs0, hsn, hs3, R3, hr3, hR3⟩
    refine ⟨fun hlt => ?_, fun hge => ?_⟩
    · have hlt := of_decide_eq_true hlt
      rw [wrap_i64 (x := 2 * (s : Int)) (by omega) (by omega), wrap_i64 (x := (s : Int) * 2) (by omega) (by omega)]
      refine ⟨fun i j u' => ∃ (a : Nat) (g : Nat → CT), i = a ∧ j = (a + 2 * s : Nat) ∧ a % (2 * s) = 0 ∧ a ≤ n ∧ SameBut u0 u' b0 ∧ RowF encT 13 e u' b0 c n g ∧ Srt.Rearr 0 n f g ∧ Srt.Runs (keyC key) tagC (fun p => p % (2 * s) = 0 ∨ (p % s = 0 ∧ a ≤ p)) g n, fun i _ _ => n - i.toNat,
        ⟨0, g3, rfl, by omega, Nat.zero_mod _, by omega, hs3, R3, hr3, hR3.conv fun p _ _ => ⟨fun h => .inr ⟨h, by omega⟩, fun h => h.elim Srt.mod_half (·.1)⟩⟩, ?_⟩
      rintro i j u4 ⟨a, g4, rfl, rfl, ha, han, hs4, R4, hr4, hR4⟩
      have hno1 : ∀ p, a < p → p < a + s → ¬ (p % (2 * s) = 0 ∨ (p % s = 0 ∧ a ≤ p)) := fun p h1 h2 h3 => by
        have := Srt.mul_gap hs0 ha (h3.elim Srt.mod_half (·.1)) h1 (by omega); omega
      have hno2 : ∀ p, a + s < p → p < a + 2 * s → ¬ (p % (2 * s) = 0 ∨ (p % s = 0 ∧ a ≤ p)) := fun p h1 h2 h3 => by
        have := Srt.mul_gap hs0 ha (h3.elim Srt.mod_half (·.1)) (by omega) h2; omega
      have hmB : (a + s) % (2 * s) = 0 ∨ ((a + s) % s = 0 ∧ a ≤ a + s) := .inr ⟨Srt.mod_one ha, by omega⟩
      have hsub : ∀ p, 0 < p → (p % (2 * s) = 0) → (p % (2 * s) = 0 ∨ (p % s = 0 ∧ a ≤ p)) ∧ (p ≤ a ∨ a + 2 * s ≤ p) := fun p h0 h1 => by
        refine ⟨.inl h1, ?_⟩
        by_cases h2 : a < p ∧ p < a + 2 * s
        · have := Srt.mul_gap hs0 ha (Srt.mod_half h1) h2.1 h2.2
          subst this
          exact (Srt.mod_not hs0 ha h1).elim
        · omega
      refine ⟨fun hle => ?_, fun hgt => ?_⟩
      · have hle := of_decide_eq_true hle
        rw [wrap_i64 (x := (a : Int) + s) (by omega) (by omega), wrap_i64 (by omega) (by omega), show (a : Int) + s = ((a + s : Nat) : Int) by omega]
        refine (f82_spec hc hC hn _ (a := a) (m := a + s) (b := a + 2 * s) (Nat.le_refl _) R4 hs4 (by omega) (by omega) (by omega) (hR4.mrg hmB (by omega) (by omega) hno1 hno2)).use ?_
        rintro v u5 ⟨rfl, hs5, g5, R5, hD5⟩
        refine ⟨rfl, ⟨a + 2 * s, g5, by omega, by omega, Srt.mod_two ha, by omega, hs5, R5, hr4.trans (hD5.2.mono (by omega) (by omega)), ?_⟩, by show n - Int.toNat _ < n - Int.toNat _; omega⟩
        refine hR4.join hD5 (by omega) (by omega) (fun _ _ => .inl ha) (fun _ => .inl (Srt.mod_two ha)) (fun p h1 h2 h3 => ?_) (fun p h1 h2 h3 h4 => ?_)
        · rcases h3 with h3 | h3
          · exact hsub p h2 h3
          · exact ⟨.inr ⟨h3.1, by omega⟩, .inr h3.2⟩
        · rcases h4 with h4 | h4
          · exact .inl h4
          · rcases h3 with h3 | h3
            · have : p = a := by omega
              subst this; exact .inl ha
            · exact .inr ⟨h4.1, h3⟩
      · have hgt := of_decide_eq_false hgt
        rw [wrap_i64 (x := (a : Int) + s) (by omega) (by omega), show (a : Int) + s = ((a + s : Nat) : Int) by omega]
        refine ⟨fun hlt' => ?_, fun hge' => ?_⟩
        · have hlt' := of_decide_eq_true hlt'
          refine (f82_spec hc hC hn _ (a := a) (m := a + s) (b := n) (Nat.le_refl _) R4 hs4 (by omega) (by omega) (Nat.le_refl _) (hR4.mrg hmB (by omega) (Nat.le_refl _) hno1 (fun p h1 h2 => hno2 p h1 (by omega)))).use ?_
          rintro v u5 ⟨rfl, hs5, g5, R5, hD5⟩
          refine ⟨rfl, ⟨s * 2, g5, by omega, by omega, by omega, hs5, R5, hr4.trans (hD5.2.mono (by omega) (Nat.le_refl _)), ?_⟩, by show 2 * n + 20 - Int.toNat _ < 2 * n + 20 - Int.toNat _; omega⟩
          rw [Nat.mul_comm s 2]
          refine hR4.join hD5 (by omega) (Nat.le_refl _) (fun _ _ => ha) (fun h => by omega) (fun p h1 h2 h3 => ⟨(hsub p h2 h3).1, ?_⟩) (fun p h1 h2 h3 h4 => ?_)
          · have := (hsub p h2 h3).2; omega
          · rcases h4 with h4 | h4
            · exact h4
            · have : p = a := by omega
              subst this; exact ha
        · have hge' := of_decide_eq_false hge'
          refine ⟨⟨s * 2, g4, by omega, by omega, by omega, hs4, R4, hr4, ?_⟩, by show 2 * n + 20 - Int.toNat _ < 2 * n + 20 - Int.toNat _; omega⟩
          rw [Nat.mul_comm s 2]
          refine hR4.conv fun p h1 h2 => ⟨fun h => ?_, .inl⟩
          rcases h with h | h
          · exact h
          · by_cases hp : p = a
            · subst hp; exact ha
            · have := Srt.mul_gap hs0 ha h.1 (by omega) (by omega); omega
    · have hge := of_decide_eq_false hge
      exact ⟨rfl, hs3, g3, R3, hR3.all fun p h1 h2 => Srt.mod_small h1 (by omega), hr3⟩
theorem f56_spec (hc : notAgg cmp = true) (hC : CmpOk u0 b0 key cmp) (hn : n ≤ 1152921504606846976) (R : RowF encT 13 e u b0 c n f) (hs : SameBut u0 u b0) (ht : ∀ i j, i < j → j < n → tagC (f i) < tagC (f j)) :
    Spec Try.prog 56 #[.slice (some ⟨b0, 0, none⟩) n c, cmp] u fun v u' => v = .tuple #[] ∧ SameBut u0 u' b0 ∧ ∃ f', RowF encT 13 e u' b0 c n f' ∧ Srt.Done (keyC key) tagC f f' 0 n := by
  refine f56_of (hcmp := hc) ?_
  unfold f56_V
  refine (f67_spec hc hC hn R hs ht).use ?_
  rintro v u' ⟨rfl, h⟩
  exact ⟨rfl, rfl, h⟩
end
end Go.Proofs.Ytlmnfhhmgfnbpaa.E
