/- THE ENGINE, part 14: code, and a function. -/
import Derived.Test.YtlmnfhhmgfnbpaaDoorE17
import Derived.RangeFuncRecord
namespace Go.Proofs.YtlmnfhhmgfnbpaaDoor.E
open Go
variable {ro : Option Nat}
variable {P : Program}
theorem Cont.mono {g : Ghost} {ν : Nat → Nat} {st : St} {a : Act} {d d' : List Nat} {K : St → PH → Prop} {next : Act → World → Prop} (h : Cont g ν st a d K next) (hd : ∀ i ∈ d', i ∈ d) : Cont g ν st a d' K next :=
  fun ν' st' u' a' w' h1 h2 h3 h4 h5 => h ν' st' u' a' w' h1 h2 h3 (fun i hi => h4 i fun hm => hi (hd i hm)) h5
/-- a continuation behind a step -/
theorem Cont.after {g : Ghost} {ν ν1 : Nat → Nat} {st st1 : St} {a a1 : Act} {d d1 : List Nat} {K : St → PH → Prop} {next : Act → World → Prop} (h : Cont g ν st a (d1 ++ d) K next) (hL : Later ν st ν1 st1) (hk : Kept d1 a a1) : Cont g ν1 st1 a1 d K next :=
  fun ν' st' u' a' w' h1 h2 h3 h4 h5 => h ν' st' u' a' w' h1 h2 (hL.trans h3) (hk.trans h4 (fun i hi => List.mem_append_left _ hi) (fun i hi => List.mem_append_right _ hi)) h5
theorem fits_ok {h : Hint} {hd st : St} (hf : h.fits hd st = true) : (∀ k ob, look hd.own k = some ob → ∃ ob', look st.own k = some ob' ∧ ob'.ty = ob.ty) ∧ ∀ k ∈ st.dirty, k ∈ h.owns.map (·.1) ∨ hd.next ≤ k := by
  simp only [Hint.fits, Bool.and_eq_true, List.all_eq_true, Bool.or_eq_true] at hf
  refine ⟨fun k ob hk => ?_, fun k hk => ?_⟩
  · have hm : (k, ob) ∈ hd.own := by
      clear hf
      generalize hd.own = l at hk
      induction l with
      | nil => cases hk
      | cons p l ih =>
        obtain ⟨j, o⟩ := p
        simp only [look] at hk
        split at hk
        · rename_i e; subst e; cases hk; exact List.mem_cons_self
        · exact List.mem_cons_of_mem _ (ih hk)
    have := hf.1 (k, ob) hm
    simp only at this
    split at this
    · rename_i ob' h'; exact ⟨ob', h', by simpa using this⟩
    · cases this
  · rcases hf.2 k hk with h' | h'
    · exact .inl (hasN_ok.1 h')
    · exact .inr (Nat.le_of_ble_eq_true h')
/-- the ghost of a head -/
def gAt (g : Ghost) (n : Nat) (ν : Nat → Nat) (w : World) : Ghost := { g with m := n, ref := fun k => w.heap[ν k]? }
/-- behind a head's code, the outer ghost again -/
theorem back_inv {g : Ghost} {h : Hint} {st1 stx : St} {ν1 νx νh : Nat → Nat} {u1 ux : PH} {a1 ax : Act} {w1 wx wh : World} (h1 : Inv g ν1 st1 u1 a1 w1)
    (hh : ∀ k ob, look st1.own k = some ob → k ∉ h.owns.map (·.1) → wh.heap[νh k]? = w1.heap[ν1 k]?)
    (hx : Inv (gAt g st1.next νh wh) νx stx ux ax wx) (hown : ∀ k ob', look stx.own k = some ob' → k < st1.next → ∃ ob, look st1.own k = some ob) :
    Inv g νx { stx with dirty := stx.dirty ++ (h.owns.map (·.1) ++ st1.dirty) } ux ax wx := by
  refine ⟨hx.sub, hx.fr, hx.slots, hx.grd, hx.own, hx.inj, ?_, hx.size, hx.defers, Nat.le_trans h1.mle hx.mle⟩
  intro k ob hk hl hd
  simp only [List.mem_append, not_or] at hd
  have hlt : k < st1.next := Nat.lt_of_lt_of_le hk h1.mle
  have e1 := hx.clean k ob hlt hl hd.1
  obtain ⟨ob1, h2⟩ := hown k ob hl hlt
  refine e1.trans ((hh k ob1 h2 hd.2.1).trans ?_)
  exact h1.clean k ob1 hk h2 hd.2.2
theorem Later.ofHead {h : Hint} {wr : List Nat} {st1 stx : St} {ν1 νh νx : Nat → Nat} {cs : List Cell} (hν : ∀ k, k < st1.next → νh k = ν1 k) (hL : Later νh (h.head wr st1 cs) νx stx) : Later ν1 st1 νx stx :=
  ⟨hL.next, fun k hk => (hL.nu k hk).trans (hν k hk), hL.n, fun k ob' hk hlt => by
    obtain ⟨ob, h1⟩ := hL.own k ob' hk hlt
    obtain ⟨⟨ob0, h2, _⟩, _⟩ := look_putOwns h.owns st1.own _ k h1
    exact ⟨ob0, h2⟩⟩
theorem heap_kept {g : Ghost} {h : Hint} {st1 hd stx : St} {ν1 νx νh : Nat → Nat} {ux : PH} {ax : Act} {w1 wx wh : World} (hhd : hd.next = st1.next) (hdo : ∀ k ob, look st1.own k = some ob → ∃ ob', look hd.own k = some ob')
    (h1 : ∀ k ob, look st1.own k = some ob → k < st1.next)
    (hh : ∀ k ob, look st1.own k = some ob → k ∉ h.owns.map (·.1) → wh.heap[νh k]? = w1.heap[ν1 k]?)
    (hx : Inv (gAt g st1.next νh wh) νx stx ux ax wx) (hf : h.fits hd stx = true) : ∀ k ob, look st1.own k = some ob → k ∉ h.owns.map (·.1) → wx.heap[νx k]? = w1.heap[ν1 k]? := by
  intro k ob hk hn
  obtain ⟨f1, f2⟩ := fits_ok hf
  obtain ⟨ob', hk'⟩ := hdo k ob hk
  obtain ⟨obx, hkx, _⟩ := f1 k ob' hk'
  have hlt := h1 k ob hk
  refine (hx.clean k obx hlt hkx fun hm => ?_).trans (hh k ob hk hn)
  rcases f2 k hm with h' | h'
  · exact hn h'
  · omega
theorem look_putOwns_some : ∀ (l : List (Nat × List Sh)) (own : List (Nat × OB)) (cs : List Cell) (k : Nat) {ob : OB}, look own k = some ob → ∃ ob', look (putOwns own l cs) k = some ob' ∧ ob'.ty = ob.ty := by
  intro l
  induction l with
  | nil => intro own cs k ob h; exact ⟨ob, h, rfl⟩
  | cons p l ih =>
    obtain ⟨j, sh⟩ := p
    intro own cs k ob h
    simp only [putOwns]
    split
    · rename_i ob0 h0
      simp only [look]
      split
      · rename_i e; subst e; rw [h] at h0; cases h0; exact ⟨_, rfl, rfl⟩
      · exact ih own _ k h
    · exact ih own _ k h
set_option maxHeartbeats 2000000 in
theorem wpIn_loop_ghost {F : Fence} {m : Nat} {Q : Exit → Act → World → Prop} {a : Act} {w : World} {c : Code} (I : Nat → Act → World → Prop) (n₀ : Nat) (h₀ : I n₀ a w)
    (round : ∀ n a w, I n a w → c.wpIn F m P (Exit.then (fun a' w' => ∃ n', n' < n ∧ I n' a' w') Q) a w) : (Code.loop c).wpIn F m P Q a w := by
  refine wpIn_loop (fun a w => ∃ n, I n a w) (fun a w => leastOf (fun n => I n a w)) ⟨n₀, h₀⟩ ?_
  intro a w hI
  refine wpIn_mono (round _ a w (leastOf_spec hI).1) ?_
  intro e a' w' hq
  cases e with
  | normal =>
    obtain ⟨n', hlt, hI'⟩ := hq
    exact show (∃ n, I n a' w') ∧ leastOf (fun n => I n a' w') < leastOf (fun n => I n a w) from ⟨⟨n', hI'⟩, Nat.lt_of_le_of_lt ((leastOf_spec ⟨n', hI'⟩).2 n' hI') hlt⟩
  | _ => exact hq
theorem code_sound (H : Hints) : ∀ (c : Code) {ro : Option (Nat × Obj)} {g : Ghost} {ν : Nat → Nat} {st : St} {u : PH} {a : Act} {w : World} {V : Exit → St → PH → Prop} {Q : Exit → Act → World → Prop}, (∀ l o, ro = some (l, o) → ∃ r, o = .loop r) → 0 < st.next → Inv g ν st u a w →
    codeVC P H ro c st u V → (∀ e, Cont g ν st a (writes c) (V e) (Q e)) → c.wpIn (FF (ro.map (·.1))) 0 P Q a w := by
  intro c
  induction c with
  | skip => intro ro g ν st u a w V Q hro hpos hI hv hK; exact wpIn_skip (hK .normal ν st u a w hI hv (Later.refl _ _) (Kept.refl _ _) hpos)
  | region id ops draw =>
    intro ro g ν st u a w V Q hro hpos hI hv hK
    cases draw with
    | false => exact wpIn_region_list (ops_sound ops.toList hpos hI hv (hK .normal))
    | true =>
      simp only [codeVC, drawTop] at hv
      split at hv
      case isFalse => exact hv.elim
      rename_i hcond
      simp only [Bool.and_eq_true] at hcond
      have hI1 : Inv (gAt' g st.next ν { w with drawn := w.drawn + 1 }) ν { st with dirty := [] } u a { w with drawn := w.drawn + 1 } :=
        ⟨hI.sub, ⟨hI.fr.os, hI.fr.tape, hI.fr.output, hI.fr.size, hI.fr.keep⟩, hI.slots, hI.grd, hI.own, hI.inj, fun k ob _ _ _ => rfl, hI.size, hI.defers, Nat.le_refl _⟩
      have hI0 : Inv g ν st u a { w with drawn := w.drawn + 1 } :=
        ⟨hI.sub, ⟨hI.fr.os, hI.fr.tape, hI.fr.output, hI.fr.size, hI.fr.keep⟩, hI.slots, hI.grd, hI.own, hI.inj, hI.clean, hI.size, hI.defers, hI.mle⟩
      obtain ⟨us, hus, hv⟩ : ∃ us : PH, Ext us u ∧ drawVC P ops (brs P ops) { st with dirty := [] } us ops.size [] { st with dirty := [] } u fun st' u' => V .normal { st' with dirty := st'.dirty ++ st.dirty } u' := by
        split at hv
        · exact hv
        · exact ⟨u, fun _ _ h => h, hv⟩
      refine wpIn_mono (Q := fun e a w => match e with | .normal => Q .normal a w | _ => False) (wpIn_region_any hcond.1 (wpAny_of_S (S := atStart us { st with dirty := [] } ν) (br := brs P ops) _ _ _ _ ?_)) ?_
      · refine draw_sound (g0 := gAt' g st.next ν { w with drawn := w.drawn + 1 }) (a0 := a) (w0 := { w with drawn := w.drawn + 1 }) (ν0 := ν) (st0 := { st with dirty := [] }) hcond.2 (fun c a w h => h) hI1 ?_ ops.size [] _ (Rep.init _) (show 0 < ({ st with dirty := [] } : St).next from hpos) hI1 hv (Later.refl _ _) (Kept.refl _ _) (fun _ => ⟨fun b o hb => hI1.sub b o (hus b o hb), fun k ob hk => (hI1.own k ob hk).2.1⟩) (fun _ => ⟨hus, rfl⟩)
        intro ν' st' u' a' w' h1 h2 h3 h4 h5
        exact hK .normal ν' _ u' a' w' (back_inv (h := ⟨[], [], []⟩) hI0 (wh := { w with drawn := w.drawn + 1 }) (νh := ν) (fun _ _ _ _ => rfl) h1 h3.own) h2 ⟨h3.next, h3.nu, h3.n, h3.own⟩ h4 h5
      · intro e a w h
        cases e with
        | normal => exact h
        | _ => exact h.elim
  | seq x y ihx ihy =>
    intro ro g ν st u a w V Q hro hpos hI hv hK
    simp only [codeVC] at hv
    split at hv
    · refine wpIn_seq (ihx hro hpos hI hv fun e => ?_)
      intro ν' st' u' a' w' h1 h2 h3 h4 h5
      cases e with
      | normal => exact ihy hro h5 h1 h2 fun e => (hK e).after h3 h4
      | _ => exact (hK _).mono (fun i hi => List.mem_append_left _ hi) ν' st' u' a' w' h1 h2 h3 h4 h5
    · rename_i h hj
      obtain ⟨I, hv1, hv2⟩ := hv
      have hg : Inv (gAt g st.next ν w) ν { st with dirty := [] } u a w := ⟨hI.sub, hI.fr, hI.slots, hI.grd, hI.own, hI.inj, fun k ob _ _ _ => rfl, hI.size, hI.defers, Nat.le_refl _⟩
      refine wpIn_seq (ihx (st := { st with dirty := [] }) hro hpos hg hv1 fun e => ?_)
      intro ν' st' u' a' w' h1 h2 h3 h4 h5
      have h3' : Later ν st ν' st' := ⟨h3.next, h3.nu, h3.n, h3.own⟩
      cases e with
      | normal =>
        simp only at h2
        split at h2
        · rename_i cs hf hc
          obtain ⟨R, cs', q1, q2⟩ := apSh_ok _ _ _ _ h2
          obtain ⟨s1, s2, s3⟩ := apV_ok (R2 := PH → Prop) _ _ _ _ _ q1
          obtain ⟨R2, r1, r2, r3⟩ := s3 I _ hv2
          rw [q1] at r1; cases r1
          have hheap : ∀ k ob, look st.own k = some ob → k ∉ h.owns.map (·.1) → w'.heap[ν' k]? = w.heap[ν k]? :=
            heap_kept (h := h) (hd := st) rfl (fun k ob hk => ⟨ob, hk⟩) (fun k ob hk => (hI.own k ob hk).1) (fun _ _ _ _ => rfl) h1 hf
          have hH := head_inv (h := h) (wr := writes x) hI h1 h3' h4 hheap (fun k ob hk => (fits_ok hf).1 k ob hk) hc s1
          refine ihy (g := gAt g st.next ν' w') (st := h.head (writes x) st cs') hro hpos hH (r3 u' q2) fun e => ?_
          intro ν'' st'' u'' a'' w'' k1 k2 k3 k4 k5
          have hLL : Later ν st ν'' st'' := Later.ofHead h3'.nu k3
          exact hK e ν'' _ u'' a'' w'' (back_inv hI hheap k1 fun k ob' hk hlt => hLL.own k ob' hk hlt) k2 ⟨hLL.next, hLL.nu, hLL.n, hLL.own⟩
            (h4.trans k4 (fun i hi => List.mem_append_left _ hi) (fun i hi => List.mem_append_right _ hi)) k5
        · exact h2.elim
      | _ =>
        exact hK _ ν' _ u' a' w' (back_inv (h := ⟨[], [], []⟩) hI (fun _ _ _ _ => rfl) h1 h3'.own) h2 ⟨h3.next, h3.nu, h3.n, h3.own⟩ (fun i hi => h4 i fun hm => hi (List.mem_append_left _ hm)) h5
  | cond c x y ihx ihy =>
    intro ro g ν st u a w V Q hro hpos hI hv hK
    simp only [codeVC] at hv
    split at hv
    · rename_i hc
      exact wpIn_cond_true (St.cell_ok hI (CtxOk.nil _) hc).1 (ihx hro hpos hI hv fun e => (hK e).mono fun i hi => List.mem_append_left _ hi)
    · rename_i hc
      exact wpIn_cond_false (St.cell_ok hI (CtxOk.nil _) hc).1 (ihy hro hpos hI hv fun e => (hK e).mono fun i hi => List.mem_append_right _ hi)
    · rename_i t hc
      have e := (St.cell_ok hI (CtxOk.nil _) hc).1
      rw [Cell.toV_v] at e
      split at hv
      · rename_i s hs
        have hcs : c = .tmp s := by
          cases c <;> simp only [slotOf, Option.some.injEq, reduceCtorEq] at hs
          rw [hs]
        subst hcs
        have hts := tmp_of_eval e
        refine wpIn_cond_split e (fun ht => ?_) (fun ht => ?_)
        · subst ht
          exact ihx (st := st.assume s true) hro hpos (hI.assume s true hts) (hv.1 rfl) fun e => ((hK e).mono fun i hi => List.mem_append_left _ hi).assume s true
        · subst ht
          exact ihy (st := st.assume s false) hro hpos (hI.assume s false hts) (hv.2 rfl) fun e => ((hK e).mono fun i hi => List.mem_append_right _ hi).assume s false
      · exact hv.elim
    · exact hv.elim
  | block id x ih =>
    intro ro g ν st u a w V Q hro hpos hI hv hK
    refine wpIn_block (ih hro hpos hI hv fun e => ?_)
    intro ν' st' u' a' w' h1 h2 h3 h4 h5
    cases e with
    | exit i =>
      simp only at h2
      simp only [Exit.inBlock]
      split
      · rename_i e; rw [if_pos e] at h2; exact hK .normal ν' st' u' a' w' h1 h2 h3 h4 h5
      · rename_i e; rw [if_neg e] at h2; exact hK (.exit i) ν' st' u' a' w' h1 h2 h3 h4 h5
    | _ => exact hK _ ν' st' u' a' w' h1 h2 h3 h4 h5
  | loop x ih =>
    intro ro g ν st0 u0 a w V Q hro hpos0 hI0 hv0 hK0
    simp only [codeVC] at hv0
    split at hv0
    · exact hv0.elim
    rename_i h hj
    obtain ⟨st, u, hI, ⟨I, μ, hv1, hv2⟩, hL0⟩ := vcPub_sound _ _ _ _ _ hv0 hI0
    have hpos : 0 < st.next := Nat.lt_of_lt_of_le hpos0 hL0.next
    split at hv1
    case h_2 => exact hv1.elim
    rename_i cs0 hc0
    obtain ⟨R0, cs1, q1, q2⟩ := apSh_ok _ _ _ _ hv1
    obtain ⟨s1, s2, s3⟩ := apV_ok (R2 := PH → Nat) _ _ _ _ _ q1
    obtain ⟨m0, r1, r2, r3⟩ := s3 μ _ hv2
    obtain ⟨R0', cs1', t1, t2⟩ := apSh_ok _ _ _ _ r3
    rw [s2] at t1; cases t1
    have hH := head_inv (h := h) (wr := writes x) (mx := g.m) (rx := g.ref) hI hI (Later.refl _ _) (Kept.refl _ _) (fun _ _ _ _ => rfl) (fun k ob hk => ⟨ob, hk, rfl⟩) hc0 s1
    refine wpIn_loop_ghost (fun n a' w' => ∃ (ν' : Nat → Nat) (u' : PH) (cs : List Cell) (R : PH → Prop) (m : PH → Nat), Inv (gAt g st.next ν' w') ν' (h.head (writes x) st cs) u' a' w' ∧ (∀ k, k < st.next → ν' k = ν k) ∧ Kept (writes x) a a' ∧
      (∀ k ob, look st.own k = some ob → k ∉ h.owns.map (·.1) → w'.heap[ν' k]? = w.heap[ν k]?) ∧ R u' ∧ m u' = n ∧
      (∀ u', R u' → codeVC P H ro x (h.head (writes x) st cs) u' fun e st' u'' => match e with
            | .normal => match h.fits (h.head (writes x) st cs) st', h.cells st' with
              | true, some cs' => apSh h.shs I cs' fun R' => apSh h.shs μ cs' fun m' => R' u'' ∧ m' u'' < m u'
              | _, _ => False
            | e => V e { st' with dirty := st'.dirty ++ (h.owns.map (·.1) ++ st.dirty) } u'')) (m0 u)
      ⟨ν, u, cs1, R0, m0, hH, fun _ _ => rfl, Kept.refl _ _, fun _ _ _ _ => rfl, q2, rfl, t2⟩ ?_
    rintro n a' w' ⟨ν', u', cs, R, m, hJ, hν, hkept, hheap, hR, rfl, hbody⟩
    refine ih (g := gAt g st.next ν' w') (st := h.head (writes x) st cs) hro hpos hJ (hbody u' hR) fun e => ?_
    intro ν'' st'' u'' a'' w'' k1 k2 k3 k4 k5
    have hLL : Later ν st ν'' st'' := Later.ofHead hν k3
    cases e with
    | normal =>
      simp only at k2
      split at k2
      · rename_i cs' hf hc
        obtain ⟨R', c2, p1, p2⟩ := apSh_ok _ _ _ _ k2
        obtain ⟨m', c3, p3, p4, p5⟩ := apSh_ok _ _ _ _ p2
        obtain ⟨z1, z2, z3⟩ := apV_ok (R2 := PH → Nat) _ _ _ _ _ p1
        obtain ⟨m2, y1, y2, y3⟩ := z3 μ _ hv2
        rw [p3] at y1; cases y1
        obtain ⟨R2, c4, x1, x2⟩ := apSh_ok _ _ _ _ y3
        rw [z2] at x1; cases x1
        have hheap' : ∀ k ob, look st.own k = some ob → k ∉ h.owns.map (·.1) → w''.heap[ν'' k]? = w.heap[ν k]? :=
          heap_kept (h := h) (hd := h.head (writes x) st cs) rfl (fun k ob hk => by obtain ⟨ob', h', _⟩ := look_putOwns_some h.owns st.own (cs.drop h.slots.length) k hk; exact ⟨ob', h'⟩) (fun k ob hk => (hI.own k ob hk).1) hheap k1 hf
        have hkept' : Kept (writes x) a a'' := hkept.trans k4 (fun i hi => hi) (fun i hi => hi)
        have hH' := head_inv (h := h) (wr := writes x) hI k1 hLL hkept' hheap' (fun k ob hk => by
          obtain ⟨ob', h', hty⟩ := look_putOwns_some h.owns st.own (cs.drop h.slots.length) k hk
          obtain ⟨obx, h'', hty'⟩ := (fits_ok hf).1 k ob' h'
          exact ⟨obx, h'', hty'.trans hty⟩) hc z1
        exact ⟨_, p5, ν'', u'', c2, R', m', hH', hLL.nu, hkept', hheap', p4, rfl, x2⟩
      · exact k2.elim
    | _ =>
      exact (hK0 _) ν'' _ u'' a'' w'' (back_inv hI hheap k1 hLL.own) k2 (hL0.trans ⟨hLL.next, hLL.nu, hLL.n, hLL.own⟩) (hkept.trans k4 (fun i hi => hi) (fun i hi => hi)) k5
  | exit id => intro ro g ν st u a w V Q hro hpos hI hv hK; exact wpIn_exit (hK (.exit id) ν st u a w hI hv (Later.refl _ _) (Kept.refl _ _) hpos)
  | ret => intro ro g ν st u a w V Q hro hpos hI hv hK; exact wpIn_ret (hK .ret ν st u a w hI hv (Later.refl _ _) (Kept.refl _ _) hpos)
  | rangeFunc gf ps assign body iha ihb =>
    intro ro g ν st0 u0 a w V Q hro hpos0 hI0 hv0 hK0
    simp only [codeVC] at hv0
    obtain ⟨st, u, hI1, hv, hL0⟩ := vcPub_sound _ _ _ _ _ hv0 hI0
    have hpos : 0 < st.next := Nat.lt_of_lt_of_le hpos0 hL0.next
    split at hv
    case h_2 => exact hv.elim
    rename_i gc shs hgc hshs
    split at hv
    case isFalse => exact hv.elim
    rename_i hcond
    obtain ⟨hgr, hlen⟩ := hcond
    obtain ⟨har, hv⟩ := hv
    have hI := hI1.forget
    have eg : a.eval gf = gc.out := by rw [(St.cell_ok hI1 (CtxOk.nil _) hgc).1]; exact Cell.out_eq ν gc (by simpa using hgr)
    refine wpIn_rangeFunc fun fn _ => ?_
    obtain ⟨l, mark, w1, D, he, hlnone, hgl, hI2⟩ := enter_ok hro hI har fn ps assign body
    let r0 : Loop := { state := .ready, pending := none, fn, tmps := a.tmps, params := ps, assign, body, defers := D }
    let rb : Loop := { r0 with state := .busy }
    have hY : allV ps.size fun args => ∀ (u' : PH) (R : Value → PH → Prop),
          (u' l = some (.loop r0) ∧ exPars shs args fun xs =>
            codeVC P H (some (l, .loop r0)) assign (parSlots ps.toList xs { st with own := [] }) u' fun e st1 u1 => match e with
              | .normal => u1 l = some (.loop r0) ∧ codeVC P H (some (l, .loop rb)) body st1 (PH.add u1 l (.loop rb)) fun e _ u2 => match e with
                | .normal => u2 l = some (.loop rb) ∧ R (.bool true) (PH.add u2 l (.loop r0))
                | .ret => u2 l = some (.loop rb) ∧ R (.bool false) (PH.add u2 l (.loop { r0 with state := .done, pending := some .ret }))
                | .exit id => u2 l = some (.loop rb) ∧ R (.bool false) (PH.add u2 l (.loop { r0 with state := .done, pending := some (.exit id) }))
                | _ => False
              | _ => False) →
          CallV P (.func (.yield l) #[] #[]) args u' R := by
      refine allV_mk fun xs hxs u' R ⟨hr1, hr2⟩ => .inr ⟨l, rfl, fun w' hw' => ⟨r0, hw' l _ hr1, by simpa using hxs, roundIn_of_wpIn (F := Fence.wide) trivial ?_⟩⟩
      obtain ⟨ys, hc, hyl, hyv⟩ := exPars_ok hr2
      have hB : Inv { u0 := u', w0 := w', m := 0, ref := fun _ => none } ν { st with own := [] } u' { tmps := a.tmps, defers := [] } w' :=
        ⟨hw', ⟨rfl, rfl, rfl, Nat.le_refl _, fun b hb hn => ⟨rfl, hn⟩⟩, hI.slots, hI.grd, (fun k ob hk => by cases hk), (fun k k' o1 o2 hk => by cases hk), (fun k ob _ hk => by cases hk), hI.size, MarksOk.nil _ _ _, Nat.zero_le _⟩
      obtain ⟨hP, e1, e2⟩ := parSlots_ok ps.toList ys xs hyl hyv hB
      rw [← zip_foldl] at hP
      refine iha (ro := some (l, .loop r0)) (fun l' o' e => ⟨r0, by cases e; rfl⟩) (by rw [e1]; exact hpos) hP hc fun e => ?_
      intro ν' st' u'' a' w'' k1 k2 k3 k4 k5
      cases e with
      | normal =>
        obtain ⟨q1, q2⟩ := k2
        refine ⟨w''.putObj l (.loop rb), run_beginRound (k1.sub l _ q1) rfl, ?_⟩
        refine ihb (ro := some (l, .loop rb)) (fun l' o' e => ⟨rb, by cases e; rfl⟩) k5 (k1.setObj q1 _) q2 fun e => ?_
        intro ν3 st3 u3 a3 w3 m1 m2 m3 m4 m5
        cases e with
        | normal =>
          obtain ⟨q3, q4⟩ := m2
          exact ⟨_, _, run_endRound none (m1.sub l _ q3), _, _, rfl, (m1.setObj q3 _).sub, (m1.setObj q3 _).fr, q4⟩
        | ret =>
          obtain ⟨q3, q4⟩ := m2
          exact ⟨_, _, run_endRound (some .ret) (m1.sub l _ q3), _, _, rfl, (m1.setObj q3 _).sub, (m1.setObj q3 _).fr, q4⟩
        | exit id =>
          obtain ⟨q3, q4⟩ := m2
          exact ⟨_, _, run_endRound (some (.exit id)) (m1.sub l _ q3), _, _, rfl, (m1.setObj q3 _).sub, (m1.setObj q3 _).fr, q4⟩
        | _ => exact m2.elim
      | _ => exact k2.elim
    obtain ⟨f, caps, hx, hent, hspec⟩ := hv l (.loop r0) (.loop rb) (.loop { r0 with state := .done, pending := some .ret }) (fun id => .loop { r0 with state := .done, pending := some (.exit id) }) hlnone hY
    have hL : Later ν st0 ν { st with own := [] } := ⟨hL0.next, hL0.nu, hL0.n, fun k ob hk => by cases hk⟩
    refine ⟨l, mark, w1, { target := .fn (.func f) caps, args := #[.func (.yield l) #[] #[]] }, w1, f, #[.func (.yield l) #[] #[]] ++ caps, w1, he, ?_, fun _ _ => trivial, ?_, (fun h => by cases h), trivial, ?_⟩
    · simp only [resolve, rangeCall, eg, hx, Deferred.ofValue, Sem.run_pure]
      simp [Act.eval]
    · simp only [invoke]; exact entersB_ok hent _ _
    · refine (CallsIn.mono (callsFF (ro := ro.map (·.1)) (hspec w1 hI2.sub) 0) ?_).2
      rintro e w3 ⟨v, u3, rfl, hs3, hf3, hpost⟩
      have hI3 := hI2.after hs3 hf3
      obtain ⟨e, he', h1, hq⟩ := disjL_ok hpost
      have hcs : e = .normal ∨ e = .ret ∨ ∃ id, e = .exit id := by
        simp only [leaves, List.mem_cons, List.mem_append, List.mem_map] at he'
        rcases he' with h | h | ⟨i, _, h⟩
        · exact .inl h
        · split at h <;> simp at h
          exact .inr (.inl h)
        · exact .inr (.inr ⟨i, h.symm⟩)
      rcases hcs with rfl | rfl | ⟨id, rfl⟩
      · exact ⟨none, _, run_endLoop (hs3 l _ h1) (by simp [r0]), hK0 .normal ν _ _ _ _ (hI3.delObj h1 hgl _) hq hL (fun _ _ => rfl) hpos⟩
      · exact ⟨some .ret, _, run_endLoop (hs3 l _ h1) (by simp), wpIn_ret (hK0 .ret ν _ _ _ _ (hI3.delObj h1 hgl _) hq hL (fun _ _ => rfl) hpos)⟩
      · exact ⟨some (.exit id), _, run_endLoop (hs3 l _ h1) (by simp), wpIn_exit (hK0 (.exit id) ν _ _ _ _ (hI3.delObj h1 hgl _) hq hL (fun _ _ => rfl) hpos)⟩
  | _ => intro ro g ν st u a w V Q hro hpos hI hv hK; exact hv.elim

/-! ### A function -/
def resOne (tmps : Array Value) : ResultVar → Sem Value
  | .tmp t => pure (tmps.getD t undef)
  | .cell x t => do loadVar t (← asAddr (tmps.getD x undef))
theorem results_eq (fn : Func) (tmps : Array Value) : results fn tmps = (do let vs ← fn.results.mapM (resOne tmps); pure (if h : vs.size = 1 then vs[0] else .tuple vs)) := rfl
theorem asAddr_some (a : Addr) : asAddr (.pointer (some a)) = pure a := rfl
theorem resVC_sound {g : Ghost} {ν : Nat → Nat} {st : St} {u : PH} {a : Act} {w : World} (h : Inv g ν st u a w) : ∀ (rs : List ResultVar) (K : List Value → Prop), resVC P rs st u K →
    ∃ vs, (rs.mapM (resOne a.tmps)).run P w = .ok vs w ∧ vs.length = rs.length ∧ K vs := by
  intro rs
  induction rs with
  | nil => intro K hv; exact ⟨[], rfl, rfl, hv⟩
  | cons r rs ih =>
    intro K hv
    cases r with
    | tmp t =>
      simp only [resVC] at hv
      split at hv
      · rename_i p hp
        split at hv
        · rename_i hre
          obtain ⟨vs, h1, h2, h3⟩ := ih _ hv
          obtain ⟨e, _⟩ := St.part_ok h (CtxOk.nil _) hp
          have e' : a.tmps.getD t undef = p.out := e.trans (Part.out_eq ν p (by simpa using hre))
          exact ⟨p.out :: vs, by simp only [List.mapM_cons, resOne, Sem.run_bind, Sem.run_pure, Result.andThen_ok, h1, e'], by simp [h2], h3⟩
        · exact hv.elim
      · exact hv.elim
    | cell x t =>
      simp only [resVC] at hv
      split at hv
      · rename_i k off hc
        split at hv
        · rename_i ob hob
          split at hv
          · rename_i p hp
            split at hv
            · rename_i hre
              obtain ⟨vs, h1, h2, h3⟩ := ih _ hv
              obtain ⟨e, _⟩ := St.cell_ok h (CtxOk.nil _) hc
              have e' : a.tmps.getD x undef = .pointer (some ⟨ν k, off, none⟩) := e
              obtain ⟨l1, _⟩ := own_load (P := P) h hob hp
              rw [Part.out_eq ν p (by simpa using hre)] at l1
              exact ⟨p.out :: vs, by simp only [List.mapM_cons, resOne, Sem.run_bind, Sem.run_pure, Result.andThen_ok, h1, e', asAddr_some, l1], by simp [h2], h3⟩
            · exact hv.elim
          · exact hv.elim
        · exact hv.elim
      · rename_i b off hc
        obtain ⟨e, _⟩ := St.cell_ok h (CtxOk.nil _) hc
        have e' : a.tmps.getD x undef = .pointer (some ⟨b, off, none⟩) := e
        split at hv
        · rename_i s _ ha
          obtain ⟨c, hr, _, k1, k2⟩ := exSh_ok hv
          obtain ⟨vs, h1, h2, h3⟩ := ih _ k2
          have l1 := run_loadVar_one (P := P) ha (cell_ok' k1 h.sub)
          exact ⟨c.out :: vs, by simp only [List.mapM_cons, resOne, Sem.run_bind, Sem.run_pure, Result.andThen_ok, h1, e', asAddr_some, l1], by simp [h2], h3⟩
        · rename_i l _ ha
          split at hv
          · rename_i hl
            obtain ⟨cs, hr, hlen, k1, k2⟩ := exShs_ok hv
            obtain ⟨vs, h1, h2, h3⟩ := ih _ k2
            have l1 := run_loadVar_agg (P := P) (b := b) (o := off) (w := w) (vs := cs.map Cell.out) ha (by rw [hl, List.length_map, hlen]) fun j v hj => cell_ok' (k1 j v hj) h.sub
            exact ⟨(Part.agg cs).out :: vs, by simp only [List.mapM_cons, resOne, Sem.run_bind, Sem.run_pure, Result.andThen_ok, h1, e', asAddr_some, l1]; rfl, by simp [h2], h3⟩
          · exact hv.elim
        · exact hv.elim
      · exact hv.elim
theorem ret_sound {g : Ghost} {ν : Nat → Nat} {st : St} {u : PH} {a : Act} {w : World} (h : Inv g ν st u a w) {fn : Func} {Q : Value → PH → Prop} (hv : retVC P fn.results.toList Q st u) :
    ∃ v u', (results fn a.tmps).run P w = .ok v w ∧ Sub u' w ∧ Fr g.u0 g.w0 u' w ∧ Q v u' := by
  obtain ⟨st', u', hI, hv, _⟩ := vcPub_sound _ _ _ _ _ hv h
  obtain ⟨vs, h1, h2, h3⟩ := resVC_sound hI _ _ hv
  have hrun : (results fn a.tmps).run P w = .ok (if h : vs.toArray.size = 1 then vs.toArray[0] else .tuple vs.toArray) w := by
    rw [results_eq, Array.mapM_eq_mapM_toList]
    show Sem.run P (do let vs ← (do let x ← fn.results.toList.mapM (resOne a.tmps); pure x.toArray); pure _) w = _
    simp only [Sem.run_bind]
    rw [h1]
    simp only [Result.andThen_ok, Sem.run_pure]
  refine ⟨_, u', hrun, hI.sub, hI.fr, ?_⟩
  cases vs with
  | nil => exact h3
  | cons v vs =>
    cases vs with
    | nil => exact h3
    | cons v' vs => simpa using h3
theorem look_init : ∀ (ps : List Part) (n i : Nat) {e : Entry}, look (initSlots n ps) i = some e → ∃ p, ps[i - n]? = some p ∧ n ≤ i ∧ e = .ok (.p p) := by
  intro ps
  induction ps with
  | nil => intro n i e h; cases h
  | cons p ps ih =>
    intro n i e h
    simp only [initSlots, look] at h
    split at h
    · rename_i hn; subst hn; cases h; exact ⟨p, by simp, Nat.le_refl _, rfl⟩
    · obtain ⟨p', h1, h2, h3⟩ := ih (n + 1) i h
      refine ⟨p', ?_, by omega, h3⟩
      rw [show i - n = (i - (n + 1)) + 1 by omega]; simpa using h1
theorem lookG_init (ps : List Part) : ∀ (n i s : Nat), lookG (initSlots n ps) i s = none := by
  induction ps with
  | nil => intro n i s; rfl
  | cons p ps ih =>
    intro n i s
    simp only [initSlots, lookG]
    split
    · rfl
    · split
      · rfl
      · exact ih _ _ _
/-- the marks are taken, one by one -/
theorem marks_leave {F : Fence} {n0 : Nat} {fn : Func} {R : Ending → World → Prop} {g : Ghost} {ν : Nat → Nat} {st : St} {u : PH} {tmps : Array Value} : ∀ (ds : List Deferred) {w : World}, Inv g ν st u { tmps, defers := ds } w →
    (∀ w', Inv g ν st u { tmps, defers := [] } w' → ∃ v, (results fn tmps).run P w' = .ok v w' ∧ R (.returned v) w') → LeavesInM F n0 P fn tmps R ds .returning w := by
  intro ds
  induction ds with
  | nil =>
    intro w hI h
    obtain ⟨v, h1, h2⟩ := h w hI
    exact ⟨v, h1, h2⟩
  | cons d ds ih =>
    intro w hI h
    obtain ⟨D, rfl, h1, h2, h3⟩ := hI.defers.2 d List.mem_cons_self
    have hnd := List.nodup_cons.1 hI.defers.1
    have hoth : ∀ b, b ≠ D → (w.putObj D (.deferred none)).heap[b]? = w.heap[b]? := fun b hb => World.putObj_heap_other hb
    have hown : ∀ k ob, look st.own k = some ob → ν k ≠ D := fun k ob hk e => by
      have := (hI.own k ob hk).2.1
      rw [e, h2] at this; cases this
    refine ⟨by simp, .inl ⟨D, w.putObj D (.deferred none), rfl, run_takeDeferred h2, ih ?_ h⟩⟩
    refine ⟨fun b o hb => ?_, ⟨hI.fr.os, hI.fr.tape, hI.fr.output, by simp [World.putObj]; exact hI.fr.size, fun b hb hn => ?_⟩, hI.slots, hI.grd, fun k ob hk => ?_, hI.inj, fun k ob hm hk hd => ?_, hI.size, ⟨hnd.2, fun d hd => ?_⟩, hI.mle⟩
    · rw [hoth b (fun e => by rw [e, h3] at hb; cases hb)]; exact hI.sub b o hb
    · obtain ⟨k1, k2⟩ := hI.fr.keep b hb hn
      exact ⟨by rw [hoth b (by omega)]; exact k1, k2⟩
    · obtain ⟨g1, g2, g3, g4, g5⟩ := hI.own k ob hk
      exact ⟨g1, by rw [hoth _ (hown k ob hk)]; exact g2, g3, g4, g5⟩
    · rw [hoth _ (hown k ob hk)]; exact hI.clean k ob hm hk hd
    · obtain ⟨D', e, k1, k2, k3⟩ := hI.defers.2 d (List.mem_cons_of_mem _ hd)
      refine ⟨D', e, k1, ?_, k3⟩
      rw [hoth D' (fun e' => hnd.1 (by rw [← e', ← e]; exact hd))]; exact k2
/-- THE ENGINE's THEOREM. -/
theorem spec_of_vc {H : Hints} {f : FuncId} {fn : Func} {ps : List Part} {u : PH} {Q : Value → PH → Prop} (hf : P.funcs[f]? = some fn) (hr : ps.flatMap Part.refs = []) (hv : fnVC P H fn ps u Q) :
    Spec P f (ps.map Part.out).toArray u Q := by
  intro w hw
  unfold fnVC at hv
  split at hv
  · exact hv.elim
  · rename_i c hc
    split at hv
    · rename_i hlen
      refine (callsIn_wide (n := 0)).1 (callsIn_of_wp_marks (F := FF none) hf hc trivial ?_)
      let g : Ghost := { u0 := u, w0 := w, m := 0, ref := fun _ => none }
      have hI : Inv g (fun k => k) { slots := initSlots 0 ps, own := [], next := 1, dirty := [], n := fn.ntmps } u
          { tmps := (ps.map Part.out).toArray ++ Array.replicate (fn.ntmps - (ps.map Part.out).toArray.size) undef, defers := [] } w := by
        refine ⟨hw, ⟨rfl, rfl, rfl, Nat.le_refl _, fun b hb hn => ⟨rfl, hn⟩⟩, ?_, ?_, ?_, ?_, ?_, ?_, MarksOk.nil _ _ _, Nat.zero_le _⟩
        · intro i e hi
          obtain ⟨p, h1, _, rfl⟩ := look_init ps 0 i hi
          rw [Nat.sub_zero] at h1
          have hlt : i < ps.length := (List.getElem?_eq_some_iff.1 h1).1
          have hpr : p.refs = [] := (List.flatMap_eq_nil_iff.1 hr) p (List.mem_of_getElem? h1)
          refine ⟨refsLt_of_nil hpr, ?_⟩
          rw [Array.getElem?_append_left (by simpa using hlt)]
          simp [h1, SV.toV, Part.out_eq (fun k => k) p hpr]
        · intro i s b x hi; rw [lookG_init] at hi; cases hi
        · intro k ob hk; cases hk
        · intro k k' o1 o2 hk; cases hk
        · intro k ob _ hk; cases hk
        · simp; omega
      refine code_sound H c (ro := none) (fun l o e => by cases e) (Nat.succ_pos 0) hI hv fun e => ?_
      intro ν' st' u' a' w' h1 h2 h3 h4 h5
      have hleave : ∀ {R : Ending → World → Prop}, (∀ v w', (∃ u'', Sub u'' w' ∧ Fr u w u'' w' ∧ Q v u'') → R (.returned v) w') → retVC P fn.results.toList Q st' u' → LeavesInM (FF none) 0 P fn a'.tmps R a'.defers .returning w' := fun hR h2 =>
        marks_leave a'.defers h1 fun w'' hI'' => by
          obtain ⟨v, u'', r1, r2, r3, r4⟩ := ret_sound hI'' h2
          exact ⟨v, r1, hR v w'' ⟨u'', r2, r3, r4⟩⟩
      cases e with
      | ret => exact hleave (fun v w' ⟨u'', r2, r3, r4⟩ => ⟨v, u'', rfl, r2, r3, r4⟩) h2
      | normal => exact hleave (fun v w' ⟨u'', r2, r3, r4⟩ => ⟨v, u'', rfl, r2, r3, r4⟩) h2
      | _ => exact h2.elim
    · exact hv.elim
theorem Spec.mono {f : FuncId} {args : Array Value} {u : PH} {Q Q' : Value → PH → Prop} (h : Spec P f args u Q) (hq : ∀ v u', Q v u' → Q' v u') : Spec P f args u Q' :=
  fun w hw => (h w hw).mono fun e w' ⟨v, u', h1, h2, h3, h4⟩ => ⟨v, u', h1, h2, h3, hq v u' h4⟩
end Go.Proofs.YtlmnfhhmgfnbpaaDoor.E
