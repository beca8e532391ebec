/- PLAIN LAWS: what is found is a line; a right history that holds has one. -/
import Derived.Test.YtlmnfhhmgfnbpaaD7
import Derived.Test.YtlmnfhhmgfnbpaaD5
namespace Go.Proofs.Ytlmnfhhmgfnbpaa.E
open Go
theorem okAll_snoc (M : LM) (l : List Call) (x : Call) : okAll M (l ++ [x]) = (okAll M l && (M.run l).may x) := by
  induction l generalizing M with
  | nil => simp [okAll, LM.run]
  | cons y r ih => simp only [List.cons_append, okAll, ih, LM.run, List.foldl_cons, Bool.and_assoc]
theorem pick_snoc {L : List Call} {P : List Int} {i : Int} {x : Call} (h : L[i.toNat]? = some x) : pick L (P ++ [i]) = pick L P ++ [x] := by
  simp [pick, List.filterMap_append, h]
structure GoodP (L : List Call) (P : List Int) : Prop where
  idx : IdxOk L.length P
  sw : swA (pick L P) = 0
  ok : okAll Em (pick L P) = true
  rem : ∀ i ∈ P, ∀ (k : Nat) x y, ¬ (k : Int) ∈ P → L[k]? = some x → L[i.toNat]? = some y → ahead x y = false
theorem GoodP.snoc {L : List Call} {P : List Int} {i : Nat} {x : Call} (h : GoodP L P) (hx : L[i]? = some x) (hm : mayB L P i = true) (hk : (Em.run (pick L P)).may x = true) : GoodP L (P ++ [(i : Int)]) := by
  have hi : i < L.length := (List.getElem?_eq_some_iff.1 hx).1
  simp only [mayB, Bool.and_eq_true, Bool.not_eq_true', List.all_eq_true, List.mem_range, Bool.or_eq_true, List.contains_eq_mem, decide_eq_true_eq, decide_eq_false_iff_not] at hm
  have hp := pick_snoc (P := P) (i := (i : Int)) (L := L) (x := x) (by simpa using hx)
  refine ⟨fun k j hj => ?_, ?_, ?_, fun j hj k x' y' hn hx' hy' => ?_⟩
  · by_cases hkl : k < P.length
    · rw [List.getElem?_append_left hkl] at hj
      obtain ⟨h1, h2, h3⟩ := h.idx k j hj
      refine ⟨h1, h2, ?_⟩
      rw [List.take_append_of_le_length (by omega)]; exact h3
    · rw [List.getElem?_append_right (by omega)] at hj
      have : k - P.length = 0 := by
        have := (List.getElem?_eq_some_iff.1 hj).1
        simp at this; omega
      rw [this] at hj
      simp at hj; subst hj
      refine ⟨by omega, by omega, ?_⟩
      rw [List.take_append_of_le_length (by omega), List.take_of_length_le (by omega)]
      exact hm.1
  · rw [hp, swA_snoc, h.sw, Nat.zero_add, List.countP_eq_zero]
    intro y hy
    simp only [pick, List.mem_filterMap] at hy
    obtain ⟨j, hj, hjy⟩ := hy
    have := h.rem j hj i x y hm.1 hx hjy
    simp [this]
  · rw [hp, okAll_snoc, h.ok, hk]; rfl
  · simp only [List.mem_append, List.mem_singleton, not_or] at hj hn
    rcases hj with hj | rfl
    · exact h.rem j hj k x' y' hn.1 hx' hy'
    · have hkl : k < L.length := (List.getElem?_eq_some_iff.1 hx').1
      have := hm.2 k hkl
      rw [Int.toNat_natCast] at hy'
      rw [hx'] at this
      rw [hy'] at this
      simp at this
      rcases this with (h1 | h1) | h1
      · exact (hn.2 (by omega)).elim
      · exact (hn.1 h1).elim
      · exact h1
theorem goL_sound {L : List Call} : ∀ (f : Nat) (P : List Int) (q : List Int), P.length + f = L.length → GoodP L P → q ∈ goL L f P (Em.run (pick L P)) → IsLine L q := by
  intro f
  induction f with
  | zero =>
    intro P q hf hg hq
    simp [goL] at hq
    subst hq
    exact ⟨by omega, hg.idx, hg.sw, hg.ok⟩
  | succ f ih =>
    intro P q hf hg hq
    simp only [goL, List.mem_flatMap, List.mem_range] at hq
    obtain ⟨i, hi, hq⟩ := hq
    split at hq
    · rename_i hm
      have hx : L[i]? = some (L[i]'hi) := List.getElem?_eq_getElem hi
      rw [hx] at hq
      simp only [] at hq
      split at hq
      · rename_i hk
        have hp := pick_snoc (P := P) (i := (i : Int)) (L := L) (x := L[i]'hi) (by simp)
        have : (Em.run (pick L P)).next (L[i]'hi) = Em.run (pick L (P ++ [(i : Int)])) := by rw [hp, LM.run_snoc]
        rw [this] at hq
        exact ih _ q (by rw [List.length_append]; simp; omega) (hg.snoc hx hm hk) hq
      · cases hq
    · cases hq
theorem good_nil (L : List Call) : GoodP L [] := ⟨fun k j hj => by simp at hj, rfl, rfl, fun i hi => by cases hi⟩
theorem found_sound {L : List Call} {q : List Int} (h : found L = some q) : IsLine L q := by
  unfold found at h
  split at h
  · exact goL_sound L.length [] q (by simp) (good_nil L) (List.mem_of_head? h)
  · cases h
/-! a line is found -/
theorem idx_nodup {n : Nat} {O : List Int} (h : IdxOk n O) : O.Nodup := by
  rw [List.Nodup, List.pairwise_iff_getElem]
  intro i j hi hj hij e
  have := (h j _ (List.getElem?_eq_getElem hj)).2.2
  exact this (List.mem_of_getElem? (i := i) (by rw [List.getElem?_take_of_lt hij, List.getElem?_eq_getElem hi, e]))
theorem idx_all {n : Nat} {O : List Int} (h : IdxOk n O) (hl : O.length = n) {k : Nat} (hk : k < n) : (k : Int) ∈ O := by
  rcases Classical.em ((k : Int) ∈ O) with hc | hno
  · exact hc
  · have hnd : ((k : Int) :: O).Nodup := List.nodup_cons.2 ⟨hno, idx_nodup h⟩
    have hsub : ((k : Int) :: O) ⊆ (List.range n).map Int.ofNat := by
      intro x hx
      rw [List.mem_cons] at hx
      rw [List.mem_map]
      rcases hx with rfl | hx
      · exact ⟨k, by simpa using hk, rfl⟩
      · obtain ⟨j, hj⟩ := List.getElem?_of_mem hx
        have := h j x hj
        exact ⟨x.toNat, by simp; omega, by simp; omega⟩
    have := hnd.length_le_of_subset hsub
    simp at this
    omega
theorem swA_at {l : List Call} (h : swA l = 0) : ∀ {a b : Nat} {x y : Call}, a < b → l[a]? = some x → l[b]? = some y → ahead y x = false := by
  induction l with
  | nil => intro a b x y _ hx; simp at hx
  | cons z r ih =>
    intro a b x y hab hx hy
    simp only [swA] at h
    have h1 : r.countP (fun y => ahead y z) = 0 := by omega
    have h2 : swA r = 0 := by omega
    cases b with
    | zero => omega
    | succ b =>
      simp only [List.getElem?_cons_succ] at hy
      cases a with
      | zero =>
        simp at hx; subst hx
        rw [List.countP_eq_zero] at h1
        simpa using h1 y (List.mem_of_getElem? hy)
      | succ a => exact ih h2 (a := a) (b := b) (by omega) (by simpa using hx) hy
theorem swA_of {l : List Call} (h : ∀ (a b : Nat) (x y : Call), a < b → l[a]? = some x → l[b]? = some y → ahead y x = false) : swA l = 0 := by
  induction l with
  | nil => rfl
  | cons z r ih =>
    have h1 : r.countP (fun y => ahead y z) = 0 := by
      rw [List.countP_eq_zero]
      intro y hy
      obtain ⟨b, hb⟩ := List.getElem?_of_mem hy
      simpa using h 0 (b + 1) z y (by omega) rfl (by simpa using hb)
    have h2 := ih fun a b x y hab hx hy => h (a + 1) (b + 1) x y (by omega) (by simpa using hx) (by simpa using hy)
    simp only [swA]; omega
theorem pick_get {L : List Call} : ∀ {O : List Int} {k : Nat} {i : Int}, (∀ i ∈ O, ∃ x, L[i.toNat]? = some x) → O[k]? = some i → (pick L O)[k]? = L[i.toNat]?
  | [], k, i, _, h => by simp at h
  | j :: r, k, i, hall, h => by
    obtain ⟨x, hx⟩ := hall j (by simp)
    have : pick L (j :: r) = x :: pick L r := by simp [pick, hx]
    rw [this]
    cases k with
    | zero => simp at h; subst h; simp [hx]
    | succ k =>
      simp only [List.getElem?_cons_succ] at h ⊢
      exact pick_get (fun i hi => hall i (by simp [hi])) h
theorem pick_len {L : List Call} : ∀ {P : List Int}, (∀ i ∈ P, ∃ x, L[i.toNat]? = some x) → (pick L P).length = P.length
  | [], _ => rfl
  | j :: r, h => by
    obtain ⟨x, hx⟩ := h j (by simp)
    have e : pick L (j :: r) = x :: pick L r := by simp [pick, hx]
    rw [e, List.length_cons, List.length_cons, pick_len fun i hi => h i (by simp [hi])]
theorem pick_append (L : List Call) (P R : List Int) : pick L (P ++ R) = pick L P ++ pick L R := List.filterMap_append ..
theorem goL_complete {L : List Call} {O : List Int} (h : IsLine L O) : ∀ (f : Nat) (P R : List Int), P ++ R = O → R.length = f → O ∈ goL L f P (Em.run (pick L P)) := by
  obtain ⟨hl, hidx, hsw, hok⟩ := h
  have hall : ∀ i ∈ O, ∃ x, L[i.toNat]? = some x := fun i hi => by
    obtain ⟨k, hk⟩ := List.getElem?_of_mem hi
    have := hidx k i hk
    exact ⟨_, List.getElem?_eq_getElem (by omega)⟩
  intro f
  induction f with
  | zero =>
    intro P R hPR hR
    have : R = [] := List.eq_nil_of_length_eq_zero hR
    subst this
    simp [goL, ← hPR]
  | succ f ih =>
    intro P R hPR hR
    cases R with
    | nil => simp at hR
    | cons i R =>
      have hi : O[P.length]? = some i := by rw [← hPR]; simp
      obtain ⟨h1, h2, h3⟩ := hidx _ _ hi
      have hP : O.take P.length = P := by rw [← hPR]; simp
      rw [hP] at h3
      have hx : L[i.toNat]? = some (L[i.toNat]'(by omega)) := List.getElem?_eq_getElem (by omega)
      have hii : ((i.toNat : Nat) : Int) = i := by omega
      simp only [goL, List.mem_flatMap, List.mem_range]
      refine ⟨i.toNat, by omega, ?_⟩
      have hpi := pick_get hall hi
      rw [hx] at hpi
      have hmay : mayB L P i.toNat = true := by
        simp only [mayB, Bool.and_eq_true, Bool.not_eq_true', List.all_eq_true, List.mem_range, Bool.or_eq_true, List.contains_eq_mem, decide_eq_true_eq, decide_eq_false_iff_not]
        refine ⟨by rw [hii]; exact h3, fun k hk => ?_⟩
        by_cases hki : k = i.toNat
        · exact .inl (.inl (by simpa using hki))
        · by_cases hkP : (k : Int) ∈ P
          · exact .inl (.inr hkP)
          · right
            have hkO := idx_all hidx hl hk
            obtain ⟨b, hb⟩ := List.getElem?_of_mem hkO
            have hbP : P.length < b := by
              rcases Nat.lt_trichotomy b P.length with h | h | h
              · exact (hkP (by rw [← hP]; exact List.mem_of_getElem? (i := b) (by rw [List.getElem?_take_of_lt h]; exact hb))).elim
              · rw [h, hi] at hb; cases hb; exact (hki (by simp)).elim
              · exact h
            have hpb := pick_get hall hb
            have hxk : L[k]? = some (L[k]'hk) := List.getElem?_eq_getElem hk
            rw [Int.toNat_natCast, hxk] at hpb
            rw [hxk, hx]
            simpa using swA_at hsw hbP hpi hpb
      rw [if_pos hmay, hx]
      simp only []
      have hmm : (Em.run (pick L P)).may (L[i.toNat]'(by omega)) = true := by
        have := (okAll_iff Em _).1 hok P.length _ hpi
        rw [← hPR, pick_append, List.take_append_of_le_length] at this
        · rw [List.take_of_length_le] at this
          · exact this
          · exact List.length_filterMap_le ..
        · rw [pick_len fun i hi => hall i (by rw [← hPR]; simp [hi])]; exact Nat.le_refl _
      rw [if_pos hmm]
      have hp := pick_snoc (P := P) (i := i) (L := L) hx
      rw [← LM.run_snoc, ← hp, hii]
      exact ih (P ++ [i]) R (by rw [← hPR]; simp) (by simpa using hR)
theorem found_some {L : List Call} {O : List Int} (h : IsLine L O) (hl : L.length ≤ 7) : found L ≠ none := by
  have := goL_complete h L.length [] O rfl h.1
  unfold found
  rw [if_pos hl]
  intro hn
  have e : goL L L.length [] M0 = [] := List.head?_eq_none_iff.1 hn
  have : O ∈ goL L L.length [] M0 := this
  rw [e] at this
  cases this
/-- the calls as they counted are a line -/
theorem line_of_holds {L C : List Call} (hr : rightH L = true) (hS : Srt.Stable (·.at_) (L.filter fun x => decide (x.at_ ≥ 0)) C) (hok : okAll Em C = true) (hlen : C.length = L.length) : ∃ O, IsLine L O := by
  have hfl : L.filter (fun x => decide (x.at_ ≥ 0)) = L := List.filter_eq_self.2 (by
    have := hS.len
    rw [hlen] at this
    exact List.length_filter_eq_length_iff.1 this.symm)
  rw [hfl] at hS
  obtain ⟨T, rfl, hp, hq⟩ := hS
  have hmem : ∀ t ∈ T, L[t.2]? = some t.1 := fun t ht => List.mem_zipIdx_iff_getElem?.1 (hq.mem_iff.1 ht)
  have hpos : ∀ x ∈ L, 0 ≤ x.at_ := fun x hx => by
    have := List.filter_eq_self.1 hfl x hx
    simpa using this
  have htimed : ∀ x ∈ L, timed x = true := fun x hx => by
    obtain ⟨k, hk⟩ := List.getElem?_of_mem hx
    rw [rightH, List.all_eq_true] at hr
    have hkl := (List.getElem?_eq_some_iff.1 hk).1
    have := hr k (by simpa using hkl)
    rw [hk] at this
    simp only [okAt, Bool.and_eq_true] at this
    exact this.1.2
  have hTL : ∀ t ∈ T, t.1 ∈ L := fun t ht => List.mem_of_getElem? (hmem t ht)
  have hpick : pick L (T.map fun t => (t.2 : Int)) = T.map (·.1) := by
    rw [pick, List.filterMap_map]
    clear hp hq hok hlen hTL
    induction T with
    | nil => rfl
    | cons t r ih =>
      have := hmem t (by simp)
      simp only [List.map_cons, List.filterMap_cons, Function.comp, Int.toNat_natCast, this]
      rw [← ih fun t ht => hmem t (by simp [ht])]
  have hnd : (T.map fun t => t.2).Nodup := by
    have h1 : (T.map fun t => t.2).Perm (L.zipIdx.map fun t => t.2) := hq.map _
    refine h1.symm.nodup ?_
    have : L.zipIdx.map (fun t => t.2) = List.range' 0 L.length := List.zipIdx_map_snd ..
    rw [this]; exact List.nodup_range' ..
  refine ⟨T.map fun t => (t.2 : Int), by rw [List.length_map, hq.length_eq, List.length_zipIdx], fun k i hi => ?_, ?_, by rw [hpick]; exact hok⟩
  · rw [List.getElem?_map, Option.map_eq_some_iff] at hi
    obtain ⟨t, ht, rfl⟩ := hi
    have h1 := hmem t (List.mem_of_getElem? ht)
    have h2 := (List.getElem?_eq_some_iff.1 h1).1
    refine ⟨by omega, by omega, fun hm => ?_⟩
    rw [← List.map_take, List.mem_map] at hm
    obtain ⟨s, hs, he⟩ := hm
    have he : s.2 = t.2 := by omega
    obtain ⟨j, hj⟩ := List.getElem?_of_mem hs
    rw [List.getElem?_take] at hj
    split at hj
    · rename_i hjk
      have hjl := (List.getElem?_eq_some_iff.1 hj)
      have hkl := (List.getElem?_eq_some_iff.1 ht)
      obtain ⟨q1, q2⟩ := hjl
      obtain ⟨q3, q4⟩ := hkl
      rw [List.Nodup, List.pairwise_map, List.pairwise_iff_getElem] at hnd
      exact hnd j k q1 q3 hjk (by rw [q2, q4]; exact he)
    · cases hj
  · rw [hpick]
    refine swA_of fun a b x y hab hx hy => ?_
    rw [List.getElem?_map, Option.map_eq_some_iff] at hx hy
    obtain ⟨s, hs, rfl⟩ := hx
    obtain ⟨t, ht, rfl⟩ := hy
    obtain ⟨q1, q2⟩ := List.getElem?_eq_some_iff.1 hs
    obtain ⟨q3, q4⟩ := List.getElem?_eq_some_iff.1 ht
    have hb := List.pairwise_iff_getElem.1 hp a b q1 q3 hab
    rw [q2, q4] at hb
    have hle : s.1.at_ ≤ t.1.at_ := hb.1
    have t1 := htimed s.1 (hTL s (List.mem_of_getElem? hs))
    have t2 := htimed t.1 (hTL t (List.mem_of_getElem? ht))
    have p1 := hpos s.1 (hTL s (List.mem_of_getElem? hs))
    have p2 := hpos t.1 (hTL t (List.mem_of_getElem? ht))
    unfold timed at t1 t2
    split at t1
    · cases t1
    · split at t2
      · cases t2
      · rw [if_neg (by omega)] at t1 t2
        simp at t1 t2
        unfold ahead
        simp
        omega
end Go.Proofs.Ytlmnfhhmgfnbpaa.E
