/- SORTING IN PLACE, by keys and tags: plain laws over functions of places. -/
namespace Go.Proofs.Ytlmnfhhmgfnbpaa.E
namespace Srt
variable {β : Type} {key : β → Int} {tag : β → Nat} {f g h : Nat → β} {a b m i j k n : Nat}
def upd (f : Nat → β) (i : Nat) (y : β) : Nat → β := fun j => if j = i then y else f j
def swp (f : Nat → β) (i j : Nat) : Nat → β := fun k => if k = i then f j else if k = j then f i else f k
def Rearr (a b : Nat) (f g : Nat → β) : Prop :=
  ∃ σ τ : Nat → Nat, (∀ i, τ (σ i) = i) ∧ (∀ i, σ (τ i) = i) ∧ (∀ i, a ≤ i → i < b → a ≤ σ i ∧ σ i < b) ∧ (∀ i, a ≤ i → i < b → a ≤ τ i ∧ τ i < b) ∧ (∀ i, (i < a ∨ b ≤ i) → σ i = i ∧ τ i = i) ∧ ∀ i, g i = f (σ i)
theorem Rearr.refl (a b : Nat) (f : Nat → β) : Rearr a b f f := ⟨id, id, by simp, by simp, fun i h1 h2 => ⟨h1, h2⟩, fun i h1 h2 => ⟨h1, h2⟩, by simp, by simp⟩
theorem Rearr.trans (h1 : Rearr a b f g) (h2 : Rearr a b g h) : Rearr a b f h := by
  obtain ⟨s, t, a1, a2, a3, a4, a5, a6⟩ := h1
  obtain ⟨s', t', b1, b2, b3, b4, b5, b6⟩ := h2
  refine ⟨fun i => s (s' i), fun i => t' (t i), fun i => by simp [a1, b1], fun i => by simp [a2, b2], fun i h1 h2 => ?_, fun i h1 h2 => ?_, fun i hi => ?_, fun i => by rw [b6, a6]⟩
  · have := b3 i h1 h2; exact a3 _ this.1 this.2
  · have := a4 i h1 h2; exact b4 _ this.1 this.2
  · simp only [(b5 i hi).1, (a5 i hi).1, (a5 i hi).2, (b5 i hi).2, and_self]
theorem Rearr.mono {a' b' : Nat} (h1 : Rearr a b f g) (ha : a' ≤ a) (hb : b ≤ b') : Rearr a' b' f g := by
  obtain ⟨s, t, a1, a2, a3, a4, a5, a6⟩ := h1
  refine ⟨s, t, a1, a2, fun i h1 h2 => ?_, fun i h1 h2 => ?_, fun i hi => a5 i (by omega), a6⟩
  · by_cases h : a ≤ i ∧ i < b
    · have := a3 i h.1 h.2; omega
    · rw [(a5 i (by omega)).1]; omega
  · by_cases h : a ≤ i ∧ i < b
    · have := a4 i h.1 h.2; omega
    · rw [(a5 i (by omega)).2]; omega
theorem Rearr.out (h1 : Rearr a b f g) (hi : i < a ∨ b ≤ i) : g i = f i := by
  obtain ⟨s, t, a1, a2, a3, a4, a5, a6⟩ := h1
  rw [a6, (a5 i hi).1]
theorem Rearr.mem (h1 : Rearr a b f g) (ha : a ≤ i) (hb : i < b) : ∃ k, a ≤ k ∧ k < b ∧ g i = f k := by
  obtain ⟨s, t, a1, a2, a3, a4, a5, a6⟩ := h1
  exact ⟨s i, (a3 i ha hb).1, (a3 i ha hb).2, a6 i⟩
theorem Rearr.symm (h1 : Rearr a b f g) : Rearr a b g f := by
  obtain ⟨s, t, a1, a2, a3, a4, a5, a6⟩ := h1
  exact ⟨t, s, a2, a1, a4, a3, fun i hi => ⟨(a5 i hi).2, (a5 i hi).1⟩, fun i => by rw [a6, a2]⟩
theorem Rearr.swp (hi : a ≤ i) (hi' : i < b) (hj : a ≤ j) (hj' : j < b) (f : Nat → β) : Rearr a b f (swp f i j) := by
  refine ⟨fun k => if k = i then j else if k = j then i else k, fun k => if k = i then j else if k = j then i else k, fun p => ?_, fun p => ?_, fun p h1 h2 => ?_, fun p h1 h2 => ?_, fun p hp => ?_, fun p => ?_⟩
  · simp only []; repeat' split
    all_goals omega
  · simp only []; repeat' split
    all_goals omega
  · simp only []; repeat' split
    all_goals omega
  · simp only []; repeat' split
    all_goals omega
  · simp only []; repeat' split
    all_goals omega
  · simp only [Srt.swp]; repeat' split
    all_goals rfl
def Bef (key : β → Int) (tag : β → Nat) (x y : β) : Prop := key x ≤ key y ∧ (key x = key y → tag x < tag y)
theorem Bef.trans {x y z : β} (h1 : Bef key tag x y) (h2 : Bef key tag y z) : Bef key tag x z := by
  unfold Bef at *; omega
def Sorted (key : β → Int) (tag : β → Nat) (f : Nat → β) (a b : Nat) : Prop := ∀ i j, a ≤ i → i < j → j < b → Bef key tag (f i) (f j)
/-! insertion -/
structure Ins (key : β → Int) (tag : β → Nat) (f h : Nat → β) (a i j : Nat) : Prop where
  ra : Rearr a (i + 1) f h
  tg : ∀ k, a ≤ k → k ≤ i → k ≠ j → tag (h k) < tag (h j)
  so : ∀ p q, a ≤ p → p < q → q ≤ i → p ≠ j → q ≠ j → Bef key tag (h p) (h q)
  up : ∀ q, j < q → q ≤ i → Bef key tag (h j) (h q)
theorem Ins.start (hs : Sorted key tag g a i) (hr : Rearr a i f g) (ht : ∀ p q, a ≤ p → p < q → q ≤ i → tag (f p) < tag (f q)) : Ins key tag f g a i i := by
  refine ⟨hr.mono (Nat.le_refl _) (by omega), fun k h1 h2 h3 => ?_, fun p q h1 h2 h3 h4 h5 => hs p q h1 h2 (by omega), fun q h1 h2 => by omega⟩
  obtain ⟨k', e1, e2, e3⟩ := hr.mem h1 (by omega)
  rw [e3, hr.out (i := i) (by omega)]
  exact ht _ _ e1 e2 (Nat.le_refl _)
theorem Ins.step (H : Ins key tag f h a i j) (h1 : a < j) (h2 : j ≤ i) (hk : key (h j) < key (h (j - 1))) : Ins key tag f (swp h j (j - 1)) a i (j - 1) := by
  have e1 : ∀ p, p ≠ j → p ≠ j - 1 → swp h j (j - 1) p = h p := fun p q1 q2 => by simp [swp, q1, q2]
  have e2 : swp h j (j - 1) j = h (j - 1) := by simp [swp]
  have e3 : swp h j (j - 1) (j - 1) = h j := by simp only [swp]; rw [if_neg (by omega)]; simp
  refine ⟨H.ra.trans (Rearr.swp (by omega) (by omega) (by omega) (by omega) h), fun k p1 p2 p3 => ?_, fun p q p1 p2 p3 p4 p5 => ?_, fun q p1 p2 => ?_⟩
  · rw [e3]
    by_cases hkj : k = j
    · rw [hkj, e2]; exact H.tg _ (by omega) (by omega) (by omega)
    · rw [e1 k hkj p3]; exact H.tg _ p1 p2 hkj
  · by_cases hp : p = j
    · subst hp; rw [e2, e1 q (by omega) (by omega)]; exact H.so _ _ (by omega) (by omega) p3 (by omega) (by omega)
    · rw [e1 p hp p4]
      by_cases hq : q = j
      · subst hq; rw [e2]; exact H.so _ _ p1 (by omega) (by omega) hp (by omega)
      · rw [e1 q hq p5]; exact H.so _ _ p1 p2 p3 hp hq
  · rw [e3]
    by_cases hq : q = j
    · subst hq; rw [e2]; unfold Bef; omega
    · rw [e1 q hq (by omega)]; exact H.up _ (by omega) p2
theorem Ins.done (H : Ins key tag f h a i j) (h1 : a ≤ j) (h2 : j ≤ i) (hd : j = a ∨ ¬ key (h j) < key (h (j - 1))) : Sorted key tag h a (i + 1) := by
  intro p q p1 p2 p3
  by_cases hp : p = j
  · subst hp; exact H.up _ p2 (by omega)
  · by_cases hq : q = j
    · subst hq
      have hd' : ¬ key (h q) < key (h (q - 1)) := by omega
      have hl : Bef key tag (h (q - 1)) (h q) := by
        have := H.tg (q - 1) (by omega) (by omega) (by omega)
        unfold Bef; omega
      by_cases e : p = q - 1
      · rw [e]; exact hl
      · exact (H.so p (q - 1) p1 (by omega) (by omega) hp (by omega)).trans hl
    · exact H.so p q p1 p2 (by omega) hp hq
/-! one moved up, one moved down -/
def mvUp (f : Nat → β) (a k : Nat) : Nat → β := fun p => if a ≤ p ∧ p < k then f (p + 1) else if p = k then f a else f p
theorem mvUp_self (f : Nat → β) (a : Nat) : mvUp f a a = f := by
  funext p; unfold mvUp
  split
  · omega
  · split
    · rename_i h; rw [h]
    · rfl
theorem mvUp_step (h : a ≤ k) : swp (mvUp f a k) k (k + 1) = mvUp f a (k + 1) := by
  funext p
  simp only [swp, mvUp]
  repeat' split
  all_goals first
    | (exfalso; omega)
    | rfl
    | (congr 1; omega)
    | (exfalso; simp_all; done)
def mvDn (f : Nat → β) (m k : Nat) : Nat → β := fun p => if k < p ∧ p ≤ m then f (p - 1) else if p = k then f m else f p
theorem mvDn_self (f : Nat → β) (m : Nat) : mvDn f m m = f := by
  funext p; unfold mvDn
  split
  · omega
  · split
    · rename_i h; rw [h]
    · rfl
theorem mvDn_step (h : k ≤ m) (h0 : 0 < k) : swp (mvDn f m k) k (k - 1) = mvDn f m (k - 1) := by
  funext p
  simp only [swp, mvDn]
  repeat' split
  all_goals first
    | (exfalso; omega)
    | rfl
    | (congr 1; omega)
    | (exfalso; simp_all; done)
/-- the left part is one element: it goes up to where all behind it are not less -/
theorem mvUp_sorted (hm : m = a + 1) (hs : Sorted key tag f m b) (ht : ∀ j, m ≤ j → j < b → tag (f a) < tag (f j)) (hi : m ≤ i) (hib : i ≤ b)
    (lo : ∀ p, m ≤ p → p < i → key (f p) < key (f a)) (hi' : ∀ p, i ≤ p → p < b → ¬ key (f p) < key (f a)) : Sorted key tag (mvUp f a (i - 1)) a b := by
  intro p q p1 p2 p3
  simp only [mvUp]
  by_cases hp : a ≤ p ∧ p < i - 1
  · rw [if_pos hp]
    by_cases hq : a ≤ q ∧ q < i - 1
    · rw [if_pos hq]; exact hs _ _ (by omega) (by omega) (by omega)
    · rw [if_neg hq]
      by_cases hq' : q = i - 1
      · rw [if_pos hq']; have := lo (p + 1) (by omega) (by omega); unfold Bef; omega
      · rw [if_neg hq']; exact hs _ _ (by omega) (by omega) (by omega)
  · rw [if_neg hp]
    by_cases hp' : p = i - 1
    · rw [if_pos hp', if_neg (by omega), if_neg (by omega)]
      have := hi' q (by omega) p3; have := ht q (by omega) p3; unfold Bef; omega
    · rw [if_neg hp', if_neg (by omega), if_neg (by omega)]; exact hs _ _ (by omega) p2 p3
theorem mvDn_sorted (hb : b = m + 1) (hs : Sorted key tag f a m) (ht : ∀ j, a ≤ j → j < m → tag (f j) < tag (f m)) (hi : a ≤ i) (hib : i ≤ m)
    (lo : ∀ p, a ≤ p → p < i → ¬ key (f m) < key (f p)) (hi' : ∀ p, i ≤ p → p < m → key (f m) < key (f p)) : Sorted key tag (mvDn f m i) a b := by
  intro p q p1 p2 p3
  simp only [mvDn]
  by_cases hp : i < p ∧ p ≤ m
  · rw [if_pos hp, if_pos (by omega)]; exact hs _ _ (by omega) (by omega) (by omega)
  · rw [if_neg hp]
    by_cases hp' : p = i
    · rw [if_pos hp', if_pos (by omega)]
      have := hi' (q - 1) (by omega) (by omega); unfold Bef; omega
    · rw [if_neg hp']
      by_cases hq : i < q ∧ q ≤ m
      · rw [if_pos hq]; exact hs _ _ (by omega) (by omega) (by omega)
      · rw [if_neg hq]
        by_cases hq' : q = i
        · rw [if_pos hq']; have := lo p p1 (by omega); have := ht p p1 (by omega); unfold Bef; omega
        · rw [if_neg hq']; exact hs _ _ (by omega) p2 (by omega)
/-! rotation -/
def swr (f : Nat → β) (a b n : Nat) : Nat → β := fun i => if a ≤ i ∧ i < a + n then f (i + (b - a)) else if b ≤ i ∧ i < b + n then f (i - (b - a)) else f i
theorem swr_zero (f : Nat → β) (a b : Nat) : swr f a b 0 = f := by
  funext p; simp only [swr]; rw [if_neg (by omega), if_neg (by omega)]
theorem swr_step (hab : a + n < b) : swp (swr f a b n) (a + n) (b + n) = swr f a b (n + 1) := by
  funext p
  simp only [swp, swr]
  repeat' split
  all_goals first
    | (exfalso; omega)
    | rfl
    | (congr 1; omega)
def rot (f : Nat → β) (a m b : Nat) : Nat → β := fun i => if a ≤ i ∧ i < a + (b - m) then f (i + (m - a)) else if a + (b - m) ≤ i ∧ i < b then f (i - (b - m)) else f i
theorem rot_eq (h : i = j) (hm : i ≤ m) : rot f (m - i) m (m + j) = swr f (m - i) m i := by
  subst h; funext p; simp only [rot, swr]
  repeat' split
  all_goals first
    | (exfalso; omega)
    | rfl
    | (congr 1; omega)
theorem rot_gt (h : j < i) (hm : i ≤ m) : rot f (m - i) m (m + j) = rot (swr f (m - i) m j) (m - (i - j)) m (m + j) := by
  funext p; simp only [rot, swr]
  repeat' split
  all_goals first
    | (exfalso; omega)
    | rfl
    | (congr 1; omega)
theorem rot_lt (h : i < j) (hm : i ≤ m) : rot f (m - i) m (m + j) = rot (swr f (m - i) (m + j - i) i) (m - i) m (m + (j - i)) := by
  funext p; simp only [rot, swr]
  repeat' split
  all_goals first
    | (exfalso; omega)
    | rfl
    | (congr 1; omega)
theorem rot_id (h : m = a ∨ m = b) (ha : a ≤ m) (hb : m ≤ b) : rot f a m b = f := by
  funext p; simp only [rot]
  repeat' split
  all_goals first
    | (exfalso; omega)
    | rfl
    | (congr 1; omega)
theorem Rearr.rot (ha : a ≤ m) (hb : m ≤ b) (f : Nat → β) : Rearr a b f (rot f a m b) := by
  refine ⟨fun i => if a ≤ i ∧ i < a + (b - m) then i + (m - a) else if a + (b - m) ≤ i ∧ i < b then i - (b - m) else i, fun i => if a ≤ i ∧ i < m then i + (b - m) else if m ≤ i ∧ i < b then i - (m - a) else i, fun p => ?_, fun p => ?_, fun p h1 h2 => ?_, fun p h1 h2 => ?_, fun p hp => ?_, fun p => ?_⟩
  · simp only []; repeat' split
    all_goals omega
  · simp only []; repeat' split
    all_goals omega
  · simp only []; repeat' split
    all_goals omega
  · simp only []; repeat' split
    all_goals omega
  · constructor <;> simp only [] <;> repeat' split
    all_goals omega
  · simp only [Srt.rot]; repeat' split
    all_goals rfl
/-! merging -/
structure Mrg (key : β → Int) (tag : β → Nat) (f : Nat → β) (a m b : Nat) : Prop where
  l : Sorted key tag f a m
  r : Sorted key tag f m b
  t : ∀ i j, a ≤ i → i < m → m ≤ j → j < b → tag (f i) < tag (f j)
def Done (key : β → Int) (tag : β → Nat) (f f' : Nat → β) (a b : Nat) : Prop := Sorted key tag f' a b ∧ Rearr a b f f'
theorem Done.join {g1 g2 : Nat → β} (h1 : Done key tag g g1 a m) (h2 : Done key tag g1 g2 m b) (ham : a ≤ m) (hmb : m ≤ b)
    (hc : ∀ i j, a ≤ i → i < m → m ≤ j → j < b → Bef key tag (g i) (g j)) : Done key tag g g2 a b := by
  refine ⟨fun i j h1' h2' h3' => ?_, (h1.2.mono (Nat.le_refl _) hmb).trans (h2.2.mono ham (Nat.le_refl _))⟩
  by_cases hj : j < m
  · rw [h2.2.out (.inl hj), h2.2.out (.inl (by omega))]; exact h1.1 i j h1' h2' hj
  · by_cases hi : m ≤ i
    · exact h2.1 i j hi h2' h3'
    · rw [h2.2.out (i := i) (.inl (by omega))]
      obtain ⟨k, k1, k2, k3⟩ := h1.2.mem h1' (by omega : i < m)
      obtain ⟨q, q1, q2, q3⟩ := h2.2.mem (by omega : m ≤ j) h3'
      rw [k3, q3, h1.2.out (.inr q1)]
      exact hc _ _ k1 k2 q1 q2
/-- two runs of which one is empty -/
theorem Sorted.glue (hs : Sorted key tag f a m) (hr : Sorted key tag f m b) (h : ¬ (a < m ∧ m < b)) : Sorted key tag f a b := fun i j h1 h2 h3 => by
  by_cases e : a < m
  · exact hs i j h1 h2 (by omega)
  · exact hr i j (by omega) h2 h3
/-- the middle step of a merge -/
theorem Mrg.step (H : Mrg key tag f a m b) {s e mid : Nat} (h1 : a ≤ s) (h2 : s ≤ m) (h3 : m ≤ e) (h4 : e ≤ b) (hmid : mid = s + (e - m))
    (hP : s < m → m < e → key (f (e - 1)) < key (f s)) (hN : a < s → e < b → ¬ key (f e) < key (f (s - 1))) :
    Mrg key tag (rot f s m e) a s mid ∧ Mrg key tag (rot f s m e) mid e b ∧ ∀ i j, a ≤ i → i < mid → mid ≤ j → j < b → Bef key tag (rot f s m e i) (rot f s m e j) := by
  have r1 : ∀ i, i < s → rot f s m e i = f i := fun i hi => by simp only [rot]; rw [if_neg (by omega), if_neg (by omega)]
  have r2 : ∀ i, s ≤ i → i < mid → rot f s m e i = f (i + (m - s)) := fun i hi hi' => by simp only [rot]; rw [if_pos (by omega)]
  have r3 : ∀ i, mid ≤ i → i < e → rot f s m e i = f (i - (e - m)) := fun i hi hi' => by simp only [rot]; rw [if_neg (by omega), if_pos (by omega)]
  have r4 : ∀ i, e ≤ i → rot f s m e i = f i := fun i hi => by simp only [rot]; rw [if_neg (by omega), if_neg (by omega)]
  refine ⟨⟨fun i j p1 p2 p3 => ?_, fun i j p1 p2 p3 => ?_, fun i j p1 p2 p3 p4 => ?_⟩, ⟨fun i j p1 p2 p3 => ?_, fun i j p1 p2 p3 => ?_, fun i j p1 p2 p3 p4 => ?_⟩, fun i j p1 p2 p3 p4 => ?_⟩
  · rw [r1 i (by omega), r1 j (by omega)]; exact H.l i j (by omega) p2 (by omega)
  · rw [r2 i (by omega) (by omega), r2 j (by omega) (by omega)]; exact H.r _ _ (by omega) (by omega) (by omega)
  · rw [r1 i (by omega), r2 j (by omega) (by omega)]; exact H.t _ _ (by omega) (by omega) (by omega) (by omega)
  · rw [r3 i (by omega) (by omega), r3 j (by omega) (by omega)]; exact H.l _ _ (by omega) (by omega) (by omega)
  · rw [r4 i (by omega), r4 j (by omega)]; exact H.r _ _ (by omega) (by omega) (by omega)
  · rw [r3 i (by omega) (by omega), r4 j (by omega)]; exact H.t _ _ (by omega) (by omega) (by omega) (by omega)
  · by_cases hi : i < s
    · rw [r1 i hi]
      by_cases hj : j < e
      · rw [r3 j p3 hj]; exact H.l _ _ (by omega) (by omega) (by omega)
      · rw [r4 j (by omega)]
        have q := hN (by omega) (by omega)
        have q1 : key (f i) ≤ key (f (s - 1)) := by
          by_cases e' : i = s - 1
          · rw [e']; exact Int.le_refl _
          · exact (H.l i (s - 1) p1 (by omega) (by omega)).1
        have q2 : key (f e) ≤ key (f j) := by
          by_cases e' : j = e
          · rw [e']; exact Int.le_refl _
          · exact (H.r e j (by omega) (by omega) p4).1
        have q3 := H.t i j p1 (by omega) (by omega) p4
        unfold Bef; omega
    · rw [r2 i (by omega) p2]
      by_cases hj : j < e
      · rw [r3 j p3 hj]
        have q := hP (by omega) (by omega)
        have q1 : key (f (i + (m - s))) ≤ key (f (e - 1)) := by
          by_cases e' : i + (m - s) = e - 1
          · rw [e']; exact Int.le_refl _
          · exact (H.r _ (e - 1) (by omega) (by omega) (by omega)).1
        have q2 : key (f s) ≤ key (f (j - (e - m))) := by
          by_cases e' : j - (e - m) = s
          · rw [e']; exact Int.le_refl _
          · exact (H.l s _ (by omega) (by omega) (by omega)).1
        unfold Bef; omega
      · rw [r4 j (by omega)]; exact H.r _ _ (by omega) (by omega) (by omega)
/-- the search of a merge: what holds at a place -/
theorem Mrg.lower (H : Mrg key tag f a m b) {p c c' : Nat} (h1 : a ≤ c') (h2 : c' ≤ c) (h3 : c < m) (h4 : m ≤ p - c) (h5 : p - c' < b) (hc : ¬ key (f (p - c)) < key (f c)) : ¬ key (f (p - c')) < key (f c') := by
  by_cases e : c' = c
  · rw [e]; exact hc
  · have q1 := (H.l c' c h1 (by omega) h3).1
    have q2 : key (f (p - c)) ≤ key (f (p - c')) := by
      by_cases e' : p - c = p - c'
      · rw [e']; exact Int.le_refl _
      · exact (H.r (p - c) (p - c') h4 (by omega) h5).1
    omega
theorem Mrg.upper (H : Mrg key tag f a m b) {p c c' : Nat} (h1 : a ≤ c) (h2 : c ≤ c') (h3 : c' < m) (h4 : m ≤ p - c') (h5 : p - c < b) (hc : key (f (p - c)) < key (f c)) : key (f (p - c')) < key (f c') := by
  by_cases e : c' = c
  · rw [e]; exact hc
  · have q1 := (H.l c c' h1 (by omega) h3).1
    have q2 : key (f (p - c')) ≤ key (f (p - c)) := by
      by_cases e' : p - c = p - c'
      · rw [e']; exact Int.le_refl _
      · exact (H.r (p - c') (p - c) h4 (by omega) h5).1
    omega
/-! runs -/
structure Runs (key : β → Int) (tag : β → Nat) (B : Nat → Prop) (f : Nat → β) (n : Nat) : Prop where
  t : ∀ p, B p → ∀ i j, i < p → p ≤ j → j < n → tag (f i) < tag (f j)
  s : ∀ i j, i < j → j < n → (∀ p, i < p → p ≤ j → ¬ B p) → Bef key tag (f i) (f j)
theorem Runs.init (h : ∀ i j, i < j → j < n → tag (f i) < tag (f j)) : Runs key tag (fun _ => True) f n :=
  ⟨fun p _ i j h1 h2 h3 => h i j (by omega) h3, fun i j h1 h2 h3 => (h3 j h1 (Nat.le_refl _) trivial).elim⟩
theorem Runs.join {B B' : Nat → Prop} {f' : Nat → β} (H : Runs key tag B f n) (hD : Done key tag f f' a b) (hab : a ≤ b) (hbn : b ≤ n)
    (ha : 0 < a → a < n → B' a) (hb : b < n → B' b) (hsub : ∀ p, p < n → 0 < p → B' p → B p ∧ (p ≤ a ∨ b ≤ p)) (hkeep : ∀ p, 0 < p → p < n → (p ≤ a ∨ b ≤ p) → B p → B' p) : Runs key tag B' f' n := by
  refine ⟨fun p hp i j h1 h2 h3 => ?_, fun i j h1 h2 h3 => ?_⟩
  · obtain ⟨q1, q2⟩ := hsub p (by omega) (by omega) hp
    rcases q2 with q2 | q2
    · rw [hD.2.out (i := i) (by omega)]
      by_cases hj : a ≤ j ∧ j < b
      · obtain ⟨k, k1, k2, k3⟩ := hD.2.mem hj.1 hj.2
        rw [k3]; exact H.t p q1 i k h1 (by omega) (by omega)
      · rw [hD.2.out (i := j) (by omega)]; exact H.t p q1 i j h1 h2 h3
    · rw [hD.2.out (i := j) (by omega)]
      by_cases hi : a ≤ i ∧ i < b
      · obtain ⟨k, k1, k2, k3⟩ := hD.2.mem hi.1 hi.2
        rw [k3]; exact H.t p q1 k j (by omega) (by omega) h3
      · rw [hD.2.out (i := i) (by omega)]; exact H.t p q1 i j h1 h2 h3
  · by_cases hi : a ≤ i
    · by_cases hj : j < b
      · exact hD.1 i j hi h1 hj
      · by_cases hib : i < b
        · exact (h3 b hib (by omega) (hb (by omega))).elim
        · rw [hD.2.out (i := i) (by omega), hD.2.out (i := j) (by omega)]
          exact H.s i j h1 h2 fun p p1 p2 p3 => h3 p p1 p2 (hkeep p (by omega) (by omega) (by omega) p3)
    · by_cases hj : a ≤ j
      · exact (h3 a (by omega) hj (ha (by omega) (by omega))).elim
      · rw [hD.2.out (i := i) (by omega), hD.2.out (i := j) (by omega)]
        exact H.s i j h1 h2 fun p p1 p2 p3 => h3 p p1 p2 (hkeep p (by omega) (by omega) (by omega) p3)
theorem Runs.mrg {B : Nat → Prop} (H : Runs key tag B f n) (hm : B m) (hmb : m ≤ b) (hbn : b ≤ n) (h1 : ∀ p, a < p → p < m → ¬ B p) (h2 : ∀ p, m < p → p < b → ¬ B p) : Mrg key tag f a m b :=
  ⟨fun i j p1 p2 p3 => H.s i j p2 (by omega) fun p q1 q2 => h1 p (by omega) (by omega), fun i j p1 p2 p3 => H.s i j p2 (by omega) fun p q1 q2 => h2 p (by omega) (by omega),
    fun i j p1 p2 p3 p4 => H.t m hm i j p2 p3 (by omega)⟩
theorem Runs.conv {B B' : Nat → Prop} (H : Runs key tag B f n) (h : ∀ p, 0 < p → p < n → (B p ↔ B' p)) : Runs key tag B' f n :=
  ⟨fun p hp i j h1 h2 h3 => H.t p ((h p (by omega) (by omega)).2 hp) i j h1 h2 h3, fun i j h1 h2 h3 => H.s i j h1 h2 fun p p1 p2 p3 => h3 p p1 p2 ((h p (by omega) (by omega)).1 p3)⟩
theorem Runs.all {B : Nat → Prop} (H : Runs key tag B f n) (h : ∀ p, 0 < p → p < n → ¬ B p) : Sorted key tag f 0 n :=
  fun i j _ h2 h3 => H.s i j h2 h3 fun p p1 p2 => h p (by omega) (by omega)
/-! multiples -/
theorem mul_gap {s p : Nat} (hs : 0 < s) (ha : a % (2 * s) = 0) (hp : p % s = 0) (h1 : a < p) (h2 : p < a + 2 * s) : p = a + s := by
  obtain ⟨q, rfl⟩ := Nat.dvd_of_mod_eq_zero ha
  obtain ⟨k, rfl⟩ := Nat.dvd_of_mod_eq_zero hp
  have e : 2 * s * q = s * (2 * q) := by rw [Nat.mul_comm 2 s, Nat.mul_assoc]
  rw [e] at h1 h2 ⊢
  have h3 : 2 * q < k := Nat.lt_of_mul_lt_mul_left h1
  have h4 : k < 2 * q + 2 := Nat.lt_of_mul_lt_mul_left (a := s) (by rw [Nat.mul_add, Nat.mul_comm s 2]; exact h2)
  have : k = 2 * q + 1 := by omega
  rw [this, Nat.mul_add, Nat.mul_one]
theorem mod_half {s p : Nat} (h : p % (2 * s) = 0) : p % s = 0 := by
  obtain ⟨q, rfl⟩ := Nat.dvd_of_mod_eq_zero h
  rw [Nat.mul_comm 2 s, Nat.mul_assoc]; exact Nat.mul_mod_right _ _
theorem mod_not {s : Nat} (hs : 0 < s) (h : a % (2 * s) = 0) : (a + s) % (2 * s) ≠ 0 := by
  rw [Nat.add_mod, h, Nat.zero_add, Nat.mod_mod, Nat.mod_eq_of_lt (by omega)]; omega
theorem mod_two {s : Nat} (h : a % (2 * s) = 0) : (a + 2 * s) % (2 * s) = 0 := by
  rw [Nat.add_mod_right]; exact h
theorem mod_one {s : Nat} (h : a % (2 * s) = 0) : (a + s) % s = 0 := by
  rw [Nat.add_mod_right]; exact mod_half h
theorem mod_small {s p : Nat} (h0 : 0 < p) (h : p < s) : p % s ≠ 0 := by
  rw [Nat.mod_eq_of_lt h]; omega
end Srt
end Go.Proofs.Ytlmnfhhmgfnbpaa.E
