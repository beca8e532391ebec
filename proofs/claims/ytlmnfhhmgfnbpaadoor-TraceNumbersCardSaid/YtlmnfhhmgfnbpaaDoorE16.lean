/- THE ENGINE, part 17: whatever order is drawn. -/
import Derived.Test.YtlmnfhhmgfnbpaaDoorE15
namespace Go.Proofs.YtlmnfhhmgfnbpaaDoor.E
open Go
variable {P : Program} {ro : Option Nat} {ops : Array Oper}
theorem hasN_ok' : ∀ {l : List Nat} {x : Nat}, hasN l x = true ↔ x ∈ l := by
  intro l
  induction l with
  | nil => intro x; simp [hasN]
  | cons y l ih => intro x; simp only [hasN, Bool.or_eq_true, beq_iff_eq, ih, List.mem_cons]; exact ⟨fun h => h.imp Eq.symm id, fun h => h.imp Eq.symm id⟩
theorem look_mem {α : Type} : ∀ {l : List (Nat × α)} {k : Nat} {x : α}, look l k = some x → (k, x) ∈ l := by
  intro l
  induction l with
  | nil => intro k x h; cases h
  | cons p l ih =>
    obtain ⟨j, y⟩ := p
    intro k x h
    simp only [look] at h
    split at h
    · rename_i e; subst e; cases h; exact List.mem_cons_self
    · exact List.mem_cons_of_mem _ (ih h)
/-- the ghost of a place -/
def gAt' (g : Ghost) (n : Nat) (ν : Nat → Nat) (w : World) : Ghost := { g with m := n, ref := fun k => w.heap[ν k]? }
structure Rep (listed : Array Bool) (done : List Nat) (n : Nat) : Prop where
  size : listed.size = n
  get : ∀ k, k < n → listed[k]? = some (hasN done k)
  lt : ∀ k, hasN done k = true → k < n
theorem Rep.getT {listed : Array Bool} {done : List Nat} {n : Nat} (h : Rep listed done n) {k : Nat} (hk : k < n) (d : Bool) : listed.getD k d = hasN done k := by
  rw [Array.getD_eq_getD_getElem?, h.get k hk]; rfl
theorem Rep.getF {listed : Array Bool} {done : List Nat} {n : Nat} (h : Rep listed done n) (k : Nat) : listed.getD k false = hasN done k := by
  by_cases hk : k < n
  · exact h.getT hk false
  · rw [Array.getD_eq_getD_getElem?, Array.getElem?_eq_none (by rw [h.size]; omega)]
    cases hh : hasN done k with
    | false => rfl
    | true => exact absurd (h.lt k hh) hk
theorem Rep.set {listed : Array Bool} {done : List Nat} {n : Nat} (h : Rep listed done n) {i : Nat} (hi : i < n) : Rep (listed.setIfInBounds i true) (i :: done) n := by
  refine ⟨by simpa using h.size, fun k hk => ?_, fun k hk => ?_⟩
  · rw [Array.getElem?_setIfInBounds]
    by_cases e : i = k
    · subst e; rw [if_pos rfl, if_pos (by rw [h.size]; exact hi)]; simp [hasN]
    · rw [if_neg e, h.get k hk]; simp [hasN, e]
  · simp only [hasN, Bool.or_eq_true, beq_iff_eq] at hk
    rcases hk with rfl | hk
    · exact hi
    · exact h.lt k hk
theorem Rep.init (n : Nat) : Rep (Array.replicate n false) [] n :=
  ⟨by simp, fun k hk => by simp [hk, hasN], fun k hk => by cases hk⟩
theorem ready_rep {listed : Array Bool} {done : List Nat} (h : Rep listed done ops.size) : Region.ready .any ops listed = (List.range ops.size).filter (readyB ops done) := by
  unfold Region.ready
  refine List.filter_congr fun i hi => ?_
  have hi' : i < ops.size := List.mem_range.1 hi
  have ho : ops[i]? = some ops[i] := Array.getElem?_eq_getElem hi'
  simp only [readyB, predsDone, h.getT hi', ho, Option.map_some, Option.getD_some]
  congr 1
  rw [← Array.all_toList]
  refine List.all_congr rfl fun e => ?_
  rw [h.getF]
theorem conjL_ok : ∀ {l : List Nat} {f : Nat → Prop}, conjL l f → ∀ i ∈ l, f i := by
  intro l
  induction l with
  | nil => intro f _ i hi; cases hi
  | cons x l ih =>
    intro f h i hi
    cases l with
    | nil => simp at hi; subst hi; exact h
    | cons y l =>
      rcases List.mem_cons.1 hi with rfl | hi
      · exact h.1
      · exact ih h.2 i hi
theorem noSelB_ok (h : noSelB ops = true) (j : Nat) (o : Oper) (cs : Array SelectCase) (b : Bool) (ho : ops[j]? = some o) : o.op ≠ .select cs b := by
  intro e
  have := List.all_eq_true.1 h o (Array.mem_toList_iff.2 (Array.mem_of_getElem? ho))
  rw [e] at this; cases this
theorem noDefB_ok (h : noSelB ops = true) (j : Nat) (o : Oper) (c : Call) (ho : ops[j]? = some o) : o.op ≠ .defer c := by
  intro e
  have := List.all_eq_true.1 h o (Array.mem_toList_iff.2 (Array.mem_of_getElem? ho))
  rw [e] at this; cases this
theorem guarded_sound {g : Ghost} {ν : Nat → Nat} {st : St} {u : PH} {a : Act} {w : World} {K : St → PH → Prop} {next : Act → World → Prop} {Q : Exit → Act → World → Prop} {o : Oper} {i : Nat} (hi : ops[i]? = some o) (hpos : 0 < st.next) (h : Inv g ν st u a w)
    (hv : guarded P (fun st u K => stepVC P st u o K) ops o st u K) (hK : Cont g ν st a o.dst.toList K next) : wpOpIn (FF ro) 0 P ops Q i next a w := by
  unfold wpOpIn
  rw [hi]
  simp only
  unfold guarded at hv
  cases hg : o.guard with
  | none =>
    rw [hg] at hv
    rw [if_pos (by simp [Region.wanted, hg])]
    exact step_sound hpos h hv hK
  | some p =>
    obtain ⟨j, want⟩ := p
    rw [hg] at hv
    have := guardG_sound (ro := ro) (P := P) (Q := Q) (w := w) hg (step := fun st u K => stepVC P st u o K) (fun h1 h2 h3 h4 => step_sound h1 h2 h3 h4) 12 hpos h hv hK
    unfold Guarded at this
    split
    · rename_i hw; rw [if_pos hw] at this; exact this
    · rename_i hw; rw [if_neg hw] at this; exact ⟨fun _ _ => trivial, this⟩
def atStart (u0 : PH) (st0 : St) (ν0 : Nat → Nat) (w : World) : Prop := Sub u0 w ∧ ∀ k ob, look st0.own k = some ob → w.heap[ν0 k]? = some (obj ν0 ob)
theorem noLoud_br {done : List Nat} {listed : Array Bool} (h : Rep listed done ops.size) (hn : noLoud P ops done = true) : noBr (brs P ops) listed := by
  intro b hb
  rw [h.getF]
  cases hh : hasN done b with
  | false => rfl
  | true =>
    exfalso
    have hm := hasN_ok'.1 hh
    have h1 := List.all_eq_true.1 hn b hm
    simp only [brs, List.mem_filter] at hb
    obtain ⟨_, hb⟩ := hb
    simp only [quietAt] at h1
    split at hb
    · rename_i o ho
      rw [ho] at h1
      simp only at h1
      simp only [Bool.and_eq_true, Bool.not_eq_true'] at hb
      rw [h1] at hb; cases hb.1
    · cases hb
set_option maxHeartbeats 1000000 in
theorem draw_sound {K : St → PH → Prop} {Q : Exit → Act → World → Prop} {g0 : Ghost} {ν0 : Nat → Nat} {st0 : St} {u0 us : PH} {a0 : Act} {w0 : World} (hsel : noSelB ops = true) (hpan : ∀ c a w, ¬ Q (.panic c) a w)
    (h0 : Inv g0 ν0 st0 u0 a0 w0) (hK : ∀ ν' st' u' a' w', Inv (gAt' g0 st0.next ν0 w0) ν' st' u' a' w' → K st' u' → Later ν0 st0 ν' st' → Kept (ops.toList.filterMap (·.dst)) a0 a' → 0 < st'.next → Q .normal a' w') :
    ∀ (n : Nat) (done : List Nat) (listed : Array Bool) {ν : Nat → Nat} {st : St} {u : PH} {a : Act} {w : World}, Rep listed done ops.size → 0 < st.next → Inv (gAt' g0 st0.next ν0 w0) ν st u a w → drawVC P ops (brs P ops) st0 us n done st u K →
      Later ν0 st0 ν st → Kept (ops.toList.filterMap (·.dst)) a0 a → (noBr (brs P ops) listed → atStart us st0 ν0 w) → (noLoud P ops done = true → Ext us u ∧ st.own = st0.own) →
      wpAnyS ro P .any ops Q (atStart us st0 ν0) (brs P ops) n listed a w := by
  intro n
  induction n with
  | zero =>
    intro done listed ν st u a w hrep hpos hI hv hL hkept hS hnl
    simp only [drawVC] at hv
    split at hv
    · rename_i hr
      exact ⟨by rw [ready_rep hrep, hr], hK ν st u a w hI hv hL hkept hpos⟩
    · exact hv.elim
  | succ n ih =>
    intro done listed ν st u a w hrep hpos hI hv hL hkept hS hnl
    simp only [drawVC] at hv
    split at hv
    · -- one may be taken first
      rename_i i hfind
      have htk := List.find?_some hfind
      have hir : i < ops.size := List.mem_range.1 (List.mem_of_find?_eq_some hfind)
      split at hv
      · rename_i o ho
        simp only [takeB, Bool.and_eq_true, ho] at htk
        obtain ⟨hready, hkind, hfree⟩ := htk
        have hq : (pureK P o.op || isLoad o.op) = true := by
          simp only [Bool.or_eq_true, Bool.and_eq_true] at hkind ⊢
          exact hkind.imp id And.left
        have hpl : isLoad o.op = true → noLoud P ops done = true := by
          intro hl
          simp only [Bool.or_eq_true, Bool.and_eq_true] at hkind
          rcases hkind with h | h
          · cases ho' : o.op <;> rw [ho'] at h hl <;> cases hl
            cases h
          · exact h.2
        obtain ⟨v, st', hy, hI', hk, e1, e2, e3, e4⟩ := take_sound (S := atStart us st0 ν0) (us := us) (fun hl => (hnl (hpl hl)).1) hq (fun hl w' hw' => by
          obtain ⟨f1, f2⟩ := hnl (hpl hl)
          refine ⟨hw'.1, fun k ob hk => ?_⟩
          rw [f2] at hk
          have hlt := (h0.own k ob hk).1
          have hrf := (h0.own k ob hk).2.2.2.2
          rw [hL.nu k hlt, hw'.2 k ob hk]
          unfold obj
          rw [cells_congr hL.nu _ hrf]) hI hv
        have hquiet : quietAt P ops i = true := by simp only [quietAt, ho]; exact hq
        have hib : i ∉ brs P ops := by
          intro hb
          simp only [brs, List.mem_filter, ho, Bool.and_eq_true, Bool.not_eq_true'] at hb
          rw [hq] at hb; cases hb.2.1
        refine wpAnyS_first (isLoad o.op) ho hib (fun j o cs b => noSelB_ok hsel j o cs b) (fun j o c => noDefB_ok hsel j o c) (fun c a w h => absurd h (hpan c _ w)) ?_ n listed a w ?_ (by rw [ready_rep hrep]; exact List.mem_filter.2 ⟨List.mem_range.2 hir, hready⟩) hy hS (fun hl => noLoud_br hrep (hpl hl)) ?_
        · intro hl b hb o' ho'
          simp only [brs, List.mem_filter, ho', Bool.and_eq_true] at hb
          have := List.all_eq_true.1 hb.2.2 i (by simp only [loadsOf, List.mem_filter, ho]; exact ⟨List.mem_range.2 hir, hl⟩)
          obtain ⟨e, he, hbd⟩ := List.any_eq_true.1 this
          simp only [Bool.and_eq_true, beq_iff_eq] at hbd
          exact ⟨e, Array.mem_toList_iff.1 he, hbd.1, hbd.2⟩
        · intro j oj hj hne hun hno
          have hjlt : j < ops.size := (Array.getElem?_eq_some_iff.1 hj).1
          have := List.all_eq_true.1 hfree j (List.mem_range.2 hjlt)
          simp only [hj, Bool.or_eq_true, beq_iff_eq, hne, false_or] at this
          rw [hrep.getT hjlt] at hun
          rw [hun] at this
          simp only [Bool.false_eq_true, false_or] at this
          rcases this with h | h
          · obtain ⟨e, he, hbd⟩ := List.any_eq_true.1 h
            simp only [Bool.and_eq_true, beq_iff_eq] at hbd
            exact absurd hbd.2 (hno e (Array.mem_toList_iff.1 he) hbd.1)
          · exact h
        · have hL' : Later ν0 st0 ν st' := ⟨by rw [e1]; exact hL.next, hL.nu, by rw [e3]; exact hL.n, by rw [e2]; exact hL.own⟩
          have hkept' : Kept (ops.toList.filterMap (·.dst)) a0 (a.put o.dst v) := by
            refine hkept.trans (kept_put a o.dst v) (fun i hi => hi) (fun i hi => ?_)
            refine List.mem_filterMap.2 ⟨o, Array.mem_toList_iff.2 (Array.mem_of_getElem? ho), ?_⟩
            cases hd : o.dst with
            | none => rw [hd] at hi; simp at hi
            | some d => rw [hd] at hi; simp at hi; rw [hi]
          refine ih (i :: done) _ (hrep.set hir) (by rw [e1]; exact hpos) hI' hk hL' hkept' (fun hb => hS ((noBr_set hib).1 hb)) ?_
          intro hn
          simp only [noLoud, List.all_cons, Bool.and_eq_true] at hn
          rw [e2]; exact hnl hn.2
      · exact hv.elim
    · split at hv
      · rename_i hr
        refine ⟨fun _ => hK ν st u a w hI hv hL hkept hpos, fun i hi => ?_⟩
        rw [ready_rep hrep, hr] at hi; cases hi
      · rename_i rs hrs hne
        refine ⟨fun hr => ?_, fun i hi => ?_⟩
        · rw [ready_rep hrep] at hr; exact absurd hr hne
        · rw [ready_rep hrep] at hi
          have hir : i < ops.size := List.mem_range.1 (List.mem_filter.1 hi).1
          have hvi := conjL_ok hv i hi
          split at hvi
          · exact hvi.elim
          · rename_i hql
            split at hvi
            · rename_i o ho
              refine guarded_sound ho hpos hI hvi ?_
              intro ν' st' u' a' w' h1 h2 h3 h4 h5
              have hL' := hL.trans h3
              have hkept' : Kept (ops.toList.filterMap (·.dst)) a0 a' := by
                refine hkept.trans h4 (fun i hi => hi) (fun i hi => ?_)
                refine List.mem_filterMap.2 ⟨o, Array.mem_toList_iff.2 (Array.mem_of_getElem? ho), ?_⟩
                cases hd : o.dst with
                | none => rw [hd] at hi; simp at hi
                | some d => rw [hd] at hi; simp at hi; rw [hi]
              have hnl' : noLoud P ops (i :: done) = true → Ext us u' ∧ st'.own = st0.own := by
                intro hn
                simp only [noLoud, List.all_cons, Bool.and_eq_true] at hn
                exact absurd (by simp only [Bool.and_eq_true]; exact hn) hql
              split at h2
              · rename_i hb
                have hbr : ¬ noBr (brs P ops) (listed.setIfInBounds i true) := by
                  intro hnb
                  have := hnb i (hasN_ok'.1 hb)
                  rw [(hrep.set hir).getF] at this
                  simp [hasN] at this
                exact ⟨fun h => absurd h hbr, ih (i :: done) _ (hrep.set hir) h5 h1 h2 hL' hkept' (fun h => absurd h hbr) hnl'⟩
              · split at h2
                · rename_i hso
                  obtain ⟨hext, hd⟩ := h2
                  have hS' : atStart us st0 ν0 w' := by
                    refine ⟨fun b o hb => h1.sub b o (hext b o hb), fun k ob hk => ?_⟩
                    simp only [sameOwn, Bool.and_eq_true, List.all_eq_true] at hso
                    obtain ⟨k1, k2, k3, k4, k5⟩ := h0.own k ob hk
                    have hmem : (k, ob) ∈ st0.own := look_mem hk
                    have hsome := hso.1 (k, ob) hmem
                    obtain ⟨ob', hob'⟩ := Option.isSome_iff_exists.1 hsome
                    have hcl := h1.clean k ob' k1 hob' (fun hm => by
                      have := Nat.le_of_ble_eq_true (hso.2 k hm); omega)
                    rw [hL'.nu k k1] at hcl
                    rw [hcl]; exact k2
                  exact ⟨fun _ => hS', ih (i :: done) _ (hrep.set hir) h5 h1 hd hL' hkept' (fun _ => hS') hnl'⟩
                · exact h2.elim
            · exact hvi.elim
end Go.Proofs.YtlmnfhhmgfnbpaaDoor.E
