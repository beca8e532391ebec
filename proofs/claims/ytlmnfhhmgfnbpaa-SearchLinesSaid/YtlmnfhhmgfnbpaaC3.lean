/- CONTRACTS: sorting in place, of calls. -/
import Derived.Test.YtlmnfhhmgfnbpaaL4
import Derived.Test.YtlmnfhhmgfnbpaaVA
namespace Go.Proofs.Ytlmnfhhmgfnbpaa.E
open Go
theorem f68_spec (x : Int) (u : PH) : Spec Try.prog 68 #[.int .i64 x] u fun v u' => v = .bool false ∧ u' = u := by
  refine f68_of ?_
  unfold f68_V
  exact ⟨by simp, rfl⟩
theorem f58_spec (x y : Int) (u : PH) : Spec Try.prog 58 #[.int .i64 x, .int .i64 y] u fun v u' => ∃ r : Int, v = .int .i64 r ∧ (r < 0 ↔ x < y) ∧ (r = 0 ↔ x = y) ∧ u' = u := by
  refine f58_of ?_
  unfold f58_V
  refine (f68_spec x u).use ?_
  rintro v u' ⟨rfl, rfl⟩
  refine ⟨_, rfl, (f68_spec y _).use ?_⟩
  rintro v u' ⟨rfl, rfl⟩
  refine ⟨_, rfl, fun h => by simp at h, fun _ => ⟨fun h => by simp at h, fun _ => ⟨fun h => ?_, fun h => ⟨fun h2 => ?_, fun h2 => ?_⟩⟩⟩⟩
  · have h := of_decide_eq_true h; exact ⟨_, rfl, by omega, by omega, rfl⟩
  · have h := of_decide_eq_false h; have h2 := of_decide_eq_true h2; exact ⟨_, rfl, by omega, by omega, rfl⟩
  · have h := of_decide_eq_false h; have h2 := of_decide_eq_false h2; exact ⟨_, rfl, by omega, by omega, rfl⟩
section
variable {e : TypeId} {u0 u : PH} {b0 c n : Nat} {f : Nat → CT} {key : Call → Int} {cmp : Value}
/-- two places change -/
theorem RowF.swap (R : RowF encT 13 e u b0 c n f) {i j : Nat} (hi : i < n) (hj : j < n) :
    RowF encT 13 e (PH.write (PH.write u b0 (0 + i * 13) (encT (f j))) b0 (0 + j * 13) (encT (f i))) b0 c n (Srt.swp f i j) := by
  have := (R.write hi encT_len (f j)).write hj encT_len (f i)
  rwa [swp_upd] at this
theorem f116_spec (hc : notAgg cmp = true) (R : RowF encT 13 e u b0 c n f) (hs : SameBut u0 u b0) (hn : n ≤ 1152921504606846976) {a b m : Nat} (hab : a + m ≤ b) (hb : b + m ≤ n) :
    Spec Try.prog 116 #[.slice (some ⟨b0, 0, none⟩) n c, .int .i64 a, .int .i64 b, .int .i64 m, cmp] u fun v u' => v = .tuple #[] ∧ SameBut u0 u' b0 ∧ RowF encT 13 e u' b0 c n (Srt.swr f a b m) := by
  refine f116_of (hcmp := hc) ?_
  unfold f116_V
  refine ⟨fun i u' => ∃ k : Nat, i = k ∧ k ≤ m ∧ SameBut u0 u' b0 ∧ RowF encT 13 e u' b0 c n (Srt.swr f a b k), fun i _ => m - i.toNat, ⟨0, rfl, by omega, hs, by rw [Srt.swr_zero]; exact R⟩, ?_⟩
  rintro i u' ⟨k, rfl, hk, hs', R'⟩
  refine ⟨fun hlt => ?_, fun hge => ?_⟩
  · have hlt := of_decide_eq_true hlt
    rw [wrap_i64 (x := (b : Int) + k) (by omega) (by omega), wrap_i64 (x := (a : Int) + k) (by omega) (by omega), wrap_i64 (x := (k : Int) + 1) (by omega) (by omega)]
    refine R'.call (p := b + k) (by omega) (by omega) ?_
    refine R'.call (p := a + k) (by omega) (by omega) ?_
    refine R'.put (p := a + k) (by omega) (by omega) ?_
    refine ⟨b0, 0, rfl, by omega, ?_⟩
    have e1 : ((a : Int) + k).toNat = a + k := by omega
    have e2 : ((b : Int) + k).toNat = b + k := by omega
    rw [e1, e2]
    refine ⟨(R'.write (i := a + k) (by omega) encT_len _).free (by omega), ⟨k + 1, by omega, by omega, hs'.write.write, ?_⟩, by show _ - _ < _ - _; omega⟩
    rw [← Srt.swr_step (by omega)]
    exact R'.swap (by omega) (by omega)
  · have hge := of_decide_eq_false hge
    have : k = m := by omega
    subst this
    exact ⟨rfl, hs', R'⟩
theorem f103_spec (hc : notAgg cmp = true) (R : RowF encT 13 e u b0 c n f) (hs : SameBut u0 u b0) (hn : n ≤ 1152921504606846976) {a m b : Nat} (ham : a < m) (hmb : m < b) (hb : b ≤ n) :
    Spec Try.prog 103 #[.slice (some ⟨b0, 0, none⟩) n c, .int .i64 a, .int .i64 m, .int .i64 b, cmp] u fun v u' => v = .tuple #[] ∧ SameBut u0 u' b0 ∧ RowF encT 13 e u' b0 c n (Srt.rot f a m b) := by
  refine f103_of (hcmp := hc) ?_
  unfold f103_V
  rw [wrap_i64 (x := (m : Int) - a) (by omega) (by omega), wrap_i64 (x := (b : Int) - m) (by omega) (by omega)]
  refine ⟨fun i j u' => ∃ (p q : Nat) (g : Nat → CT), i = p ∧ j = q ∧ 0 < p ∧ 0 < q ∧ p ≤ m - a ∧ q ≤ b - m ∧ SameBut u0 u' b0 ∧ RowF encT 13 e u' b0 c n g ∧ Srt.rot g (m - p) m (m + q) = Srt.rot f a m b,
    fun i j _ => i.toNat + j.toNat, ⟨m - a, b - m, f, by omega, by omega, by omega, by omega, by omega, by omega, hs, R, by rw [show m - (m - a) = a by omega, show m + (b - m) = b by omega]⟩, ?_⟩
  rintro i j u' ⟨p, q, g, rfl, rfl, hp, hq, hp', hq', hs', R', hr⟩
  refine ⟨fun hne => ⟨fun hgt => ?_, fun hle => ?_⟩, fun heq => ?_⟩
  · have hgt := of_decide_eq_true hgt
    rw [wrap_i64 (x := (m : Int) - p) (by omega) (by omega), show (m : Int) - p = ((m - p : Nat) : Int) by omega]
    refine (f116_spec hc R' hs' hn (a := m - p) (b := m) (m := q) (by omega) (by omega)).use ?_
    rintro v u'' ⟨rfl, hs2, R2⟩
    rw [wrap_i64 (x := (p : Int) - q) (by omega) (by omega)]
    refine ⟨rfl, ⟨p - q, q, _, by omega, rfl, by omega, hq, by omega, hq', hs2, R2, ?_⟩, by show _ + _ < _ + _; omega⟩
    rw [← hr, ← Srt.rot_gt (by omega) (by omega)]
  · have hle := of_decide_eq_false hle
    have hne : (p : Int) ≠ q := by simpa using hne
    rw [wrap_i64 (x := (m : Int) - p) (by omega) (by omega), wrap_i64 (x := (m : Int) + q) (by omega) (by omega), wrap_i64 (x := (m : Int) + q - p) (by omega) (by omega), show (m : Int) - p = ((m - p : Nat) : Int) by omega, show (m : Int) + q - p = ((m + q - p : Nat) : Int) by omega]
    refine (f116_spec hc R' hs' hn (a := m - p) (b := m + q - p) (m := p) (by omega) (by omega)).use ?_
    rintro v u'' ⟨rfl, hs2, R2⟩
    rw [wrap_i64 (x := (q : Int) - p) (by omega) (by omega)]
    refine ⟨rfl, ⟨p, q - p, _, rfl, by omega, hp, by omega, hp', by omega, hs2, R2, ?_⟩, by show _ + _ < _ + _; omega⟩
    rw [← hr, ← Srt.rot_lt (by omega) (by omega)]
  · have heq : (p : Int) = q := by simpa using heq
    rw [wrap_i64 (x := (m : Int) - p) (by omega) (by omega), show (m : Int) - p = ((m - p : Nat) : Int) by omega]
    refine (f116_spec hc R' hs' hn (a := m - p) (b := m) (m := p) (by omega) (by omega)).use ?_
    rintro v u'' ⟨rfl, hs2, R2⟩
    refine ⟨rfl, rfl, hs2, ?_⟩
    rw [← hr, Srt.rot_eq (by omega) (by omega)]; exact R2
abbrev keyC (key : Call → Int) : CT → Int := fun x => key x.1
abbrev tagC : CT → Nat := fun x => x.2
theorem f81_spec (hc : notAgg cmp = true) (hC : CmpOk u0 b0 key cmp) (R : RowF encT 13 e u b0 c n f) (hs : SameBut u0 u b0) (hn : n ≤ 1152921504606846976) {a b : Nat} (hab : a ≤ b) (hb : b ≤ n)
    (ht : ∀ p q, a ≤ p → p < q → q < b → tagC (f p) < tagC (f q)) :
    Spec Try.prog 81 #[.slice (some ⟨b0, 0, none⟩) n c, .int .i64 a, .int .i64 b, cmp] u fun v u' => v = .tuple #[] ∧ SameBut u0 u' b0 ∧ ∃ f', RowF encT 13 e u' b0 c n f' ∧ Srt.Done (keyC key) tagC f f' a b := by
  refine f81_of (hcmp := hc) ?_
  unfold f81_V
  rw [wrap_i64 (x := (a : Int) + 1) (by omega) (by omega)]
  refine ⟨fun i u' => ∃ (k : Nat) (g : Nat → CT), i = k ∧ a + 1 ≤ k ∧ (k ≤ b → Srt.Done (keyC key) tagC f g a k) ∧ (b < k → k = a + 1 ∧ g = f) ∧ SameBut u0 u' b0 ∧ RowF encT 13 e u' b0 c n g, fun i _ => b - i.toNat,
    ⟨a + 1, f, by omega, by omega, fun _ => ⟨fun i j h1 h2 h3 => by omega, Srt.Rearr.refl _ _ _⟩, fun _ => ⟨rfl, rfl⟩, hs, R⟩, ?_⟩
  rintro i u' ⟨k, g, rfl, hk, hd, hd', hs', R'⟩
  refine ⟨fun hlt => ?_, fun hge => ?_⟩
  · have hlt := of_decide_eq_true hlt
    have hD := hd (by omega)
    refine ⟨fun j u' => ∃ (q : Nat) (h : Nat → CT), j = q ∧ a ≤ q ∧ q ≤ k ∧ Srt.Ins (keyC key) tagC f h a k q ∧ SameBut u0 u' b0 ∧ RowF encT 13 e u' b0 c n h, fun j _ => j.toNat,
      ⟨k, g, rfl, by omega, Nat.le_refl _, Srt.Ins.start hD.1 hD.2 fun p q h1 h2 h3 => ht p q h1 h2 (by omega), hs', R'⟩, ?_⟩
    rintro j u2 ⟨q, h, rfl, hq1, hq2, HI, hs2, R2⟩
    have out : ∀ {u3 : PH} {h : Nat → CT}, Srt.Sorted (keyC key) tagC h a (k + 1) → Srt.Rearr a (k + 1) f h → SameBut u0 u3 b0 → RowF encT 13 e u3 b0 c n h →
        (∃ (k' : Nat) (g : Nat → CT), IntKind.wrap .i64 ((k : Int) + 1) = k' ∧ a + 1 ≤ k' ∧ (k' ≤ b → Srt.Done (keyC key) tagC f g a k') ∧ (b < k' → k' = a + 1 ∧ g = f) ∧ SameBut u0 u3 b0 ∧ RowF encT 13 e u3 b0 c n g) ∧ b - (IntKind.wrap .i64 ((k : Int) + 1)).toNat < b - (k : Int).toNat := by
      intro u3 h h1 h2 h3 h4
      rw [wrap_i64 (by omega) (by omega)]
      exact ⟨⟨k + 1, h, by omega, by omega, fun _ => ⟨h1, h2⟩, fun hh => by omega, h3, h4⟩, by omega⟩
    refine ⟨fun hgt => ?_, fun hle => ?_⟩
    · have hgt := of_decide_eq_true hgt
      rw [wrap_i64 (x := (q : Int) - 1) (by omega) (by omega)]
      refine R2.call (p := q) rfl (by omega) ?_
      refine R2.call (p := q - 1) (by omega) (by omega) ?_
      refine (hC _ hs2 (h q).1 (h (q - 1)).1).mono ?_
      rintro v u3 ⟨r, rfl, hr, rfl⟩
      refine ⟨r, rfl, fun hneg => ?_, fun hpos => ?_⟩
      · have hneg := of_decide_eq_true hneg
        refine R2.call (p := q - 1) (by omega) (by omega) ?_
        refine R2.call (p := q) rfl (by omega) ?_
        refine R2.put (p := q) rfl (by omega) ?_
        refine ⟨b0, 0, rfl, by omega, ?_⟩
        have e1 : ((q : Int) - 1).toNat = q - 1 := by omega
        rw [e1, Int.toNat_natCast]
        refine ⟨(R2.write (i := q) (by omega) encT_len _).free (by omega), ⟨q - 1, _, by omega, by omega, by omega, HI.step (by omega) hq2 (hr.1 hneg), hs2.write.write, R2.swap (by omega) (by omega)⟩, by show ((q : Int) - 1).toNat < (q : Int).toNat; omega⟩
      · have hpos := of_decide_eq_false hpos
        exact out (HI.done hq1 hq2 (.inr fun hh => hpos (hr.2 hh))) HI.ra hs2 R2
    · have hle := of_decide_eq_false hle
      exact out (HI.done hq1 hq2 (.inl (by omega))) HI.ra hs2 R2
  · have hge := of_decide_eq_false hge
    refine ⟨rfl, hs', g, R', ?_⟩
    by_cases hkb : k ≤ b
    · have : k = b := by omega
      subst this; exact hd hkb
    · obtain ⟨rfl, rfl⟩ := hd' (by omega)
      exact ⟨fun i j h1 h2 h3 => by omega, Srt.Rearr.refl _ _ _⟩
end
end Go.Proofs.Ytlmnfhhmgfnbpaa.E
