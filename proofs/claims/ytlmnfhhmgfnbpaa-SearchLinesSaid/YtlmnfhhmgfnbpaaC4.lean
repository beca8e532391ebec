/- CONTRACTS: merging in place, and sorting, of calls. -/
import Derived.Test.YtlmnfhhmgfnbpaaC3
namespace Go.Proofs.Ytlmnfhhmgfnbpaa.E
open Go
theorem mid_eq {i j : Nat} (h : i + j ≤ 4611686018427387904) :
    IntKind.wrap .i64 (Int.fdiv (IntKind.wrap .u64 (IntKind.wrap .i64 ((i : Int) + (j : Int)))) (2 ^ (min (Int.toNat 1) (IntKind.bits .u64)))) = (((i + j) / 2 : Nat) : Int) := by
  have e1 : IntKind.wrap .i64 ((i : Int) + (j : Int)) = ((i + j : Nat) : Int) := by rw [wrap_i64 (by omega) (by omega)]; omega
  have e2 : IntKind.wrap .u64 ((i + j : Nat) : Int) = ((i + j : Nat) : Int) := by
    simp only [IntKind.wrap, IntKind.bits, IntKind.signed]; simp; omega
  have e3 : (2 : Int) ^ (min (Int.toNat 1) (IntKind.bits .u64)) = 2 := by decide
  rw [e1, e2, e3, Int.fdiv_eq_ediv_of_nonneg _ (by omega), wrap_i64 (by omega) (by omega)]
  omega
section
variable {e : TypeId} {u0 : PH} {b0 c n : Nat} {key : Call → Int} {cmp : Value}
theorem f82_spec (hc : notAgg cmp = true) (hC : CmpOk u0 b0 key cmp) (hn : n ≤ 1152921504606846976) : ∀ (d : Nat) {u : PH} {f : Nat → CT} {a m b : Nat}, b - a ≤ d →
    RowF encT 13 e u b0 c n f → SameBut u0 u b0 → a < m → m < b → b ≤ n → Srt.Mrg (keyC key) tagC f a m b →
    Spec Try.prog 82 #[.slice (some ⟨b0, 0, none⟩) n c, .int .i64 a, .int .i64 m, .int .i64 b, cmp] u fun v u' => v = .tuple #[] ∧ SameBut u0 u' b0 ∧ ∃ f', RowF encT 13 e u' b0 c n f' ∧ Srt.Done (keyC key) tagC f f' a b := by
  intro d
  induction d with
  | zero => intro u f a m b h1 _ _ h2 h3; omega
  | succ d ih =>
    intro u f a m b hd R hs ham hmb hb H
    refine f82_of (hx4 := hc) ?_
    unfold f82_V
    rw [wrap_i64 (x := (m : Int) - a) (by omega) (by omega), wrap_i64 (x := (b : Int) - m) (by omega) (by omega), mid_eq (i := a) (j := b) (by omega)]
    refine ⟨fun h1 => ?_, fun h1 => ⟨fun h2 => ?_, fun h2 => ?_⟩⟩
    · have h1 : (m : Int) - a = 1 := by simpa using h1
      refine ⟨fun i j u' => ∃ p q : Nat, i = p ∧ j = q ∧ m ≤ p ∧ p ≤ q ∧ q ≤ b ∧ u' = u ∧ (∀ t, m ≤ t → t < p → key (f t).1 < key (f a).1) ∧ (∀ t, q ≤ t → t < b → ¬ key (f t).1 < key (f a).1), fun i j _ => (j - i).toNat,
        ⟨m, b, rfl, rfl, Nat.le_refl _, by omega, Nat.le_refl _, rfl, fun t _ _ => by omega, fun t _ _ => by omega⟩, ?_⟩
      rintro i j _ ⟨p, q, rfl, rfl, hp, hpq, hq, rfl, hlo, hhi⟩
      refine ⟨fun hlt => ?_, fun hge => ?_⟩
      · have hlt := of_decide_eq_true hlt
        rw [mid_eq (i := p) (j := q) (by omega)]
        refine ⟨by omega, ?_⟩
        refine R.call (p := (p + q) / 2) rfl (by omega) ?_
        refine R.call (p := a) rfl (by omega) ?_
        refine (hC _ hs (f ((p + q) / 2)).1 (f a).1).mono ?_
        rintro v u3 ⟨r, rfl, hr, rfl⟩
        rw [wrap_i64 (by omega) (by omega)]
        have mono : ∀ s t, m ≤ s → s ≤ t → t < b → key (f s).1 ≤ key (f t).1 := fun s t h1 h2 h3 => by
          by_cases hst : s = t
          · rw [hst]; exact Int.le_refl _
          · exact (H.r s t h1 (by omega) h3).1
        refine ⟨r, rfl, fun hneg => ?_, fun hpos => ?_⟩
        · have hneg := of_decide_eq_true hneg
          refine ⟨⟨(p + q) / 2 + 1, q, by omega, rfl, by omega, by omega, hq, rfl, fun t h1 h2 => ?_, hhi⟩, by show Int.toNat _ < Int.toNat _; omega⟩
          have := hr.1 hneg; have := mono t ((p + q) / 2) h1 (by omega) (by omega); omega
        · have hpos := of_decide_eq_false hpos
          refine ⟨⟨p, (p + q) / 2, rfl, rfl, hp, by omega, by omega, rfl, hlo, fun t h1 h2 => ?_⟩, by show Int.toNat _ < Int.toNat _; omega⟩
          have h3 : ¬ key (f ((p + q) / 2)).1 < key (f a).1 := fun hh => hpos (hr.2 hh)
          have := mono ((p + q) / 2) t (by omega) h1 h2; omega
      · have hge := of_decide_eq_false hge
        have : p = q := by omega
        subst this
        rw [wrap_i64 (x := (p : Int) - 1) (by omega) (by omega)]
        refine ⟨fun k u' => ∃ k' : Nat, k = k' ∧ a ≤ k' ∧ k' ≤ p - 1 ∧ SameBut u0 u' b0 ∧ RowF encT 13 e u' b0 c n (Srt.mvUp f a k') ∧ Srt.Rearr a b f (Srt.mvUp f a k'), fun k _ => p - k.toNat,
          ⟨a, rfl, Nat.le_refl _, by omega, hs, by rw [Srt.mvUp_self]; exact R, by rw [Srt.mvUp_self]; exact Srt.Rearr.refl _ _ _⟩, ?_⟩
        rintro k u2 ⟨k, rfl, hk1, hk2, hs2, R2, hr2⟩
        refine ⟨fun hlt => ?_, fun hge => ?_⟩
        · have hlt := of_decide_eq_true hlt
          rw [wrap_i64 (x := (k : Int) + 1) (by omega) (by omega)]
          refine R2.call (p := k + 1) (by omega) (by omega) ?_
          refine R2.call (p := k) rfl (by omega) ?_
          refine R2.put (p := k) rfl (by omega) ?_
          refine ⟨b0, 0, rfl, by omega, ?_⟩
          have e1 : ((k : Int) + 1).toNat = k + 1 := by omega
          rw [e1, Int.toNat_natCast]
          refine ⟨(R2.write (i := k) (by omega) encT_len _).free (by omega), ⟨k + 1, by omega, by omega, by omega, hs2.write.write, ?_, ?_⟩, by show _ - _ < _ - _; omega⟩
          · rw [← Srt.mvUp_step hk1]; exact R2.swap (by omega) (by omega)
          · rw [← Srt.mvUp_step hk1]; exact hr2.trans (Srt.Rearr.swp (by omega) (by omega) (by omega) (by omega) _)
        · have hge := of_decide_eq_false hge
          have : k = p - 1 := by omega
          subst this
          exact ⟨rfl, hs2, _, R2, Srt.mvUp_sorted (by omega) H.r (fun j h1 h2 => H.t a j (Nat.le_refl _) (by omega) h1 h2) (by omega) hq hlo hhi, hr2⟩
    · have h2 : (b : Int) - m = 1 := by simpa using h2
      refine ⟨fun i j u' => ∃ p q : Nat, i = p ∧ j = q ∧ a ≤ p ∧ p ≤ q ∧ q ≤ m ∧ u' = u ∧ (∀ t, a ≤ t → t < p → ¬ key (f m).1 < key (f t).1) ∧ (∀ t, q ≤ t → t < m → key (f m).1 < key (f t).1), fun i j _ => (j - i).toNat,
        ⟨a, m, rfl, rfl, Nat.le_refl _, by omega, Nat.le_refl _, rfl, fun t _ _ => by omega, fun t _ _ => by omega⟩, ?_⟩
      rintro i j _ ⟨p, q, rfl, rfl, hp, hpq, hq, rfl, hlo, hhi⟩
      refine ⟨fun hlt => ?_, fun hge => ?_⟩
      · have hlt := of_decide_eq_true hlt
        rw [mid_eq (i := p) (j := q) (by omega)]
        refine ⟨by omega, ?_⟩
        refine R.call (p := m) rfl (by omega) ?_
        refine R.call (p := (p + q) / 2) rfl (by omega) ?_
        refine (hC _ hs (f m).1 (f ((p + q) / 2)).1).mono ?_
        rintro v u3 ⟨r, rfl, hr, rfl⟩
        rw [wrap_i64 (by omega) (by omega)]
        have mono : ∀ s t, a ≤ s → s ≤ t → t < m → key (f s).1 ≤ key (f t).1 := fun s t h1 h2 h3 => by
          by_cases hst : s = t
          · rw [hst]; exact Int.le_refl _
          · exact (H.l s t h1 (by omega) h3).1
        refine ⟨r, rfl, fun hpos => ?_, fun hneg => ?_⟩
        · have hpos : ¬ r < 0 := by simpa using hpos
          refine ⟨⟨(p + q) / 2 + 1, q, by omega, rfl, by omega, by omega, hq, rfl, fun t h1 h2 => ?_, hhi⟩, by show Int.toNat _ < Int.toNat _; omega⟩
          have h3 : ¬ key (f m).1 < key (f ((p + q) / 2)).1 := fun hh => hpos (hr.2 hh)
          have := mono t ((p + q) / 2) h1 (by omega) (by omega); omega
        · have hneg : r < 0 := by simpa using hneg
          refine ⟨⟨p, (p + q) / 2, rfl, rfl, hp, by omega, by omega, rfl, hlo, fun t h1 h2 => ?_⟩, by show Int.toNat _ < Int.toNat _; omega⟩
          have := hr.1 hneg; have := mono ((p + q) / 2) t (by omega) h1 h2; omega
      · have hge := of_decide_eq_false hge
        have : p = q := by omega
        subst this
        refine ⟨fun k u' => ∃ k' : Nat, k = k' ∧ p ≤ k' ∧ k' ≤ m ∧ SameBut u0 u' b0 ∧ RowF encT 13 e u' b0 c n (Srt.mvDn f m k') ∧ Srt.Rearr a b f (Srt.mvDn f m k'), fun k _ => k.toNat,
          ⟨m, rfl, by omega, Nat.le_refl _, hs, by rw [Srt.mvDn_self]; exact R, by rw [Srt.mvDn_self]; exact Srt.Rearr.refl _ _ _⟩, ?_⟩
        rintro k u2 ⟨k, rfl, hk1, hk2, hs2, R2, hr2⟩
        refine ⟨fun hgt => ?_, fun hle => ?_⟩
        · have hgt := of_decide_eq_true hgt
          rw [wrap_i64 (x := (k : Int) - 1) (by omega) (by omega)]
          refine R2.call (p := k - 1) (by omega) (by omega) ?_
          refine R2.call (p := k) rfl (by omega) ?_
          refine R2.put (p := k) rfl (by omega) ?_
          refine ⟨b0, 0, rfl, by omega, ?_⟩
          have e1 : ((k : Int) - 1).toNat = k - 1 := by omega
          rw [e1, Int.toNat_natCast]
          refine ⟨(R2.write (i := k) (by omega) encT_len _).free (by omega), ⟨k - 1, by omega, by omega, by omega, hs2.write.write, ?_, ?_⟩, by show Int.toNat _ < Int.toNat _; omega⟩
          · rw [← Srt.mvDn_step hk2 (by omega)]; exact R2.swap (by omega) (by omega)
          · rw [← Srt.mvDn_step hk2 (by omega)]; exact hr2.trans (Srt.Rearr.swp (by omega) (by omega) (by omega) (by omega) _)
        · have hle := of_decide_eq_false hle
          have : k = p := by omega
          subst this
          exact ⟨rfl, hs2, _, R2, Srt.mvDn_sorted (by omega) H.l (fun j h1 h2 => H.t j m h1 h2 (Nat.le_refl _) (by omega)) hp hq hlo hhi, hr2⟩
    · have h1 : (m : Int) - a ≠ 1 := by simpa using h1
      have h2 : (b : Int) - m ≠ 1 := by simpa using h2
      obtain ⟨mid, hmid⟩ : ∃ mid, mid = (a + b) / 2 := ⟨_, rfl⟩
      rw [← hmid]
      rw [wrap_i64 (x := (mid : Int) + m) (by omega) (by omega), wrap_i64 (x := (mid : Int) + m - 1) (by omega) (by omega), wrap_i64 (x := (mid : Int) + m - b) (by omega) (by omega)]
      refine ⟨by omega, fun i j u' => ∃ s r : Nat, i = s ∧ j = r ∧ s ≤ r ∧ u' = u ∧ ((mid < m ∧ s = mid + m - b ∧ r = mid) ∨ (m ≤ mid ∧ s = a ∧ r = m)), ⟨fun hgt => ?_, fun hle => ?_⟩, ?_⟩
      · have hgt := of_decide_eq_true hgt
        exact ⟨mid + m - b, mid, by omega, rfl, by omega, rfl, .inl ⟨by omega, rfl, rfl⟩⟩
      · have hle := of_decide_eq_false hle
        exact ⟨a, m, rfl, rfl, by omega, rfl, .inr ⟨by omega, rfl, rfl⟩⟩
      · rintro i j u1 ⟨s0, r0, rfl, rfl, hsr, rfl, hcase⟩
        refine ⟨fun i j u' => ∃ s r : Nat, i = s ∧ j = r ∧ s0 ≤ s ∧ s ≤ r ∧ r ≤ r0 ∧ u' = u1 ∧ (s0 < s → ¬ key (f (mid + m - 1 - (s - 1))).1 < key (f (s - 1)).1) ∧ (r < r0 → key (f (mid + m - 1 - r)).1 < key (f r).1), fun i j _ => (j - i).toNat,
          ⟨s0, r0, rfl, rfl, Nat.le_refl _, hsr, Nat.le_refl _, rfl, fun h => by omega, fun h => by omega⟩, ?_⟩
        rintro i j _ ⟨s, r, rfl, rfl, hs1, hs2, hs3, rfl, hN, hP⟩
        refine ⟨fun hlt => ?_, fun hge => ?_⟩
        · have hlt := of_decide_eq_true hlt
          rw [mid_eq (i := s) (j := r) (by omega), wrap_i64 (x := (mid : Int) + m - 1 - ((s + r) / 2 : Nat)) (by omega) (by omega)]
          refine ⟨by omega, ?_⟩
          refine R.call (p := mid + m - 1 - (s + r) / 2) (by omega) (by omega) ?_
          refine R.call (p := (s + r) / 2) rfl (by omega) ?_
          refine (hC _ hs (f (mid + m - 1 - (s + r) / 2)).1 (f ((s + r) / 2)).1).mono ?_
          rintro v u3 ⟨q, rfl, hr, rfl⟩
          rw [wrap_i64 (by omega) (by omega)]
          refine ⟨q, rfl, fun hpos => ?_, fun hneg => ?_⟩
          · have hpos : ¬ q < 0 := by simpa using hpos
            refine ⟨⟨(s + r) / 2 + 1, r, by omega, rfl, by omega, by omega, hs3, rfl, fun _ => ?_, hP⟩, by show Int.toNat _ < Int.toNat _; omega⟩
            rw [show (s + r) / 2 + 1 - 1 = (s + r) / 2 by omega]
            exact fun hh => hpos (hr.2 hh)
          · have hneg : q < 0 := by simpa using hneg
            exact ⟨⟨s, (s + r) / 2, rfl, rfl, hs1, by omega, by omega, rfl, hN, fun _ => hr.1 hneg⟩, by show Int.toNat _ < Int.toNat _; omega⟩
        · have hge := of_decide_eq_false hge
          have : s = r := by omega
          subst this
          obtain ⟨en, hen⟩ : ∃ en, en = mid + m - s := ⟨_, rfl⟩
          rw [wrap_i64 (x := (mid : Int) + m - s) (by omega) (by omega), show (mid : Int) + m - s = (en : Int) by omega]
          have hb1 : a ≤ s := by omega
          have hb2 : s ≤ m := by omega
          have hb3 : m ≤ en := by omega
          have hb4 : en ≤ b := by omega
          obtain ⟨M1, M2, hx⟩ := H.step hb1 hb2 hb3 hb4 (mid := mid) (by omega)
            (fun h1 h2 => by
              have := hP (by omega)
              rwa [show mid + m - 1 - s = en - 1 by omega] at this)
            (fun h1 h2 => by
              have := hN (by omega)
              rwa [show mid + m - 1 - (s - 1) = en by omega] at this)
          refine ⟨fun u' => SameBut u0 u' b0 ∧ RowF encT 13 e u' b0 c n (Srt.rot f s m en), ⟨fun hy => ?_, fun hno => ?_⟩, ?_⟩
          · have hy : s < m ∧ m < en := by simpa using hy
            refine (f103_spec hc R hs hn (a := s) (m := m) (b := en) hy.1 hy.2 (by omega)).use ?_
            rintro v u' ⟨rfl, g1, g2⟩
            exact ⟨rfl, g1, g2⟩
          · have hno : s < m → en ≤ m := by simpa using hno
            rw [Srt.rot_id (by omega) hb2 hb3]
            exact ⟨hs, R⟩
          · rintro u1 ⟨hs1', R1⟩
            refine ⟨fun u' => SameBut u0 u' b0 ∧ ∃ f1, RowF encT 13 e u' b0 c n f1 ∧ Srt.Done (keyC key) tagC (Srt.rot f s m en) f1 a mid, ⟨fun hy => ?_, fun hno => ?_⟩, ?_⟩
            · have hy : a < s ∧ s < mid := by simpa using hy
              refine (ih (a := a) (m := s) (b := mid) (by omega) R1 hs1' hy.1 hy.2 (by omega) M1).use ?_
              rintro v u' ⟨rfl, g1, g2⟩
              exact ⟨rfl, g1, g2⟩
            · have hno : a < s → mid ≤ s := by simpa using hno
              exact ⟨hs1', _, R1, M1.l.glue M1.r (by omega), Srt.Rearr.refl _ _ _⟩
            · rintro u2 ⟨hs2', f1, R2, D1⟩
              have M2' : Srt.Mrg (keyC key) tagC f1 mid en b := by
                have eq : ∀ t, mid ≤ t → f1 t = Srt.rot f s m en t := fun t ht => D1.2.out (.inr ht)
                refine ⟨fun i j h1 h2 h3 => ?_, fun i j h1 h2 h3 => ?_, fun i j h1 h2 h3 h4 => ?_⟩
                · rw [eq i (by omega), eq j (by omega)]; exact M2.l i j h1 h2 h3
                · rw [eq i (by omega), eq j (by omega)]; exact M2.r i j h1 h2 h3
                · rw [eq i (by omega), eq j (by omega)]; exact M2.t i j h1 h2 h3 h4
              have fin : ∀ {u3 : PH} {f2 : Nat → CT}, SameBut u0 u3 b0 → RowF encT 13 e u3 b0 c n f2 → Srt.Done (keyC key) tagC f1 f2 mid b →
                  ((.tuple #[] : Value) = .tuple #[] ∧ SameBut u0 u3 b0 ∧ ∃ f', RowF encT 13 e u3 b0 c n f' ∧ Srt.Done (keyC key) tagC f f' a b) := by
                intro u3 f2 k1 k2 k3
                have := D1.join k3 (by omega) (by omega) hx
                exact ⟨rfl, k1, f2, k2, this.1, ((Srt.Rearr.rot hb2 hb3 f).mono hb1 hb4).trans this.2⟩
              refine ⟨fun hy => ?_, fun hno => ?_⟩
              · have hy : mid < en ∧ en < b := by simpa using hy
                refine (ih (a := mid) (m := en) (b := b) (by omega) R2 hs2' hy.1 hy.2 hb M2').use ?_
                rintro v u' ⟨rfl, g1, f2, g2, g3⟩
                exact ⟨rfl, fin g1 g2 g3⟩
              · have hno : mid < en → b ≤ en := by simpa using hno
                exact fin hs2' R2 ⟨M2'.l.glue M2'.r (by omega), Srt.Rearr.refl _ _ _⟩
end
end Go.Proofs.Ytlmnfhhmgfnbpaa.E
