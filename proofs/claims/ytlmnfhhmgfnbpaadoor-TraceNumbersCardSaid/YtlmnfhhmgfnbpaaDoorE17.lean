/- THE ENGINE, part 18: a loop over a function: its record. -/
import Derived.Test.YtlmnfhhmgfnbpaaDoorE12
import Derived.Test.YtlmnfhhmgfnbpaaDoorE16
namespace Go.Proofs.YtlmnfhhmgfnbpaaDoor.E
open Go
variable {P : Program} {g : Ghost} {ν : Nat → Nat} {st : St} {u : PH} {a : Act} {w : World}
/-- own blocks are forgotten -/
theorem Inv.forget (h : Inv g ν st u a w) : Inv g ν { st with own := [] } u a w :=
  ⟨h.sub, h.fr, h.slots, h.grd, (fun k ob hk => by cases hk), (fun k k' o1 o2 hk => by cases hk), (fun k ob _ hk => by cases hk), h.size, h.defers, h.mle⟩
/-- a new block of which nobody knows -/
theorem Inv.allocHid (h : Inv g ν st u a w) (o : Obj) : Inv g ν st u a (w.alloc o) := by
  refine ⟨h.sub.alloc o, h.fr.alloc o, h.slots, h.grd, ?_, h.inj, ?_, h.size, h.defers.to (fun D _ hD hu => ⟨by rw [heap_alloc_lt _ _ _ (lt_of_heap hD)]; exact hD, hu⟩), h.mle⟩
  · intro k ob hk
    obtain ⟨g1, g2, g3, g4, g5⟩ := h.own k ob hk
    exact ⟨g1, by rw [heap_alloc_lt _ _ _ (lt_of_heap g2)]; exact g2, g3, g4, g5⟩
  · intro k ob hm hk hd
    rw [heap_alloc_lt _ _ _ (lt_of_heap (h.own k ob hk).2.1)]
    exact h.clean k ob hm hk hd
theorem putObj_size (w : World) (l : Nat) (o : Obj) : (w.putObj l o).heap.size = w.heap.size := by simp [World.putObj]
/-- a known block is turned -/
theorem Inv.setObj (h : Inv g ν st u a w) {l : Nat} {o : Obj} (hl : u l = some o) (o' : Obj) : Inv g ν st (PH.add u l o') a (w.putObj l o') := by
  have hh := h.sub l o hl
  have hlt := lt_of_heap hh
  have hoth : ∀ b, b ≠ l → (w.putObj l o').heap[b]? = w.heap[b]? := fun b hb => World.putObj_heap_other hb
  have hown : ∀ k ob, look st.own k = some ob → ν k ≠ l := fun k ob hk e => by
    have := (h.own k ob hk).2.2.1
    rw [e, hl] at this; cases this
  have hne : ∀ b, b ≠ l → PH.add u l o' b = u b := fun b hb => by simp [PH.add, hb]
  refine ⟨fun b x hb => ?_, ⟨h.fr.os, h.fr.tape, h.fr.output, by rw [putObj_size]; exact h.fr.size, fun b hb hn => ?_⟩, h.slots, h.grd, fun k ob hk => ?_, h.inj, fun k ob hm hk hd => ?_, h.size, h.defers.to fun D _ hD hu => ?_, h.mle⟩
  · by_cases e : b = l
    · subst e
      simp only [PH.add, if_pos] at hb
      cases hb; exact World.putObj_heap_same hlt
    · rw [hne b e] at hb; rw [hoth b e]; exact h.sub b x hb
  · obtain ⟨h1, h2⟩ := h.fr.keep b hb hn
    have e : b ≠ l := fun e => by subst e; rw [hl] at h2; cases h2
    exact ⟨by rw [hoth b e]; exact h1, by rw [hne b e]; exact h2⟩
  · obtain ⟨g1, g2, g3, g4, g5⟩ := h.own k ob hk
    exact ⟨g1, by rw [hoth _ (hown k ob hk)]; exact g2, by rw [hne _ (hown k ob hk)]; exact g3, g4, g5⟩
  · rw [hoth _ (hown k ob hk)]; exact h.clean k ob hm hk hd
  · have e : D ≠ l := fun e => by subst e; rw [hl] at hu; cases hu
    exact ⟨by rw [hoth D e]; exact hD, by rw [hne D e]; exact hu⟩
/-- a known new block is turned and forgotten -/
theorem Inv.delObj (h : Inv g ν st u a w) {l : Nat} {o : Obj} (hl : u l = some o) (hg : g.w0.heap.size ≤ l) (o' : Obj) : Inv g ν st (PH.del u l) a (w.putObj l o') := by
  have h1 := h.setObj hl o'
  have hne : ∀ b, b ≠ l → PH.del u l b = PH.add u l o' b := fun b hb => by simp [PH.add, PH.del, hb]
  have heq : PH.del u l l = none := by simp [PH.del]
  have hown : ∀ k ob, look st.own k = some ob → ν k ≠ l := fun k ob hk e => by
    have := (h.own k ob hk).2.2.1
    rw [e, hl] at this; cases this
  refine ⟨fun b x hb => ?_, ⟨h1.fr.os, h1.fr.tape, h1.fr.output, h1.fr.size, fun b hb hn => ?_⟩, h1.slots, h1.grd, fun k ob hk => ?_, h1.inj, h1.clean, h1.size, h1.defers.to fun D _ hD hu => ?_, h1.mle⟩
  · by_cases e : b = l
    · subst e; rw [heq] at hb; cases hb
    · rw [hne b e] at hb; exact h1.sub b x hb
  · obtain ⟨k1, k2⟩ := h1.fr.keep b hb hn
    exact ⟨k1, by rw [hne b (by omega)]; exact k2⟩
  · obtain ⟨g1, g2, g3, g4, g5⟩ := h1.own k ob hk
    exact ⟨g1, g2, by rw [hne _ (hown k ob hk)]; exact g3, g4, g5⟩
  · have e : D ≠ l := fun e => by subst e; simp [PH.add] at hu
    exact ⟨hD, by rw [hne D e]; exact hu⟩
theorem disjL_ok : ∀ {l : List Exit} {f : Exit → Prop}, disjL l f → ∃ e, e ∈ l ∧ f e := by
  intro l
  induction l with
  | nil => intro f h; exact h.elim
  | cons x l ih =>
    intro f h
    cases l with
    | nil => exact ⟨x, by simp, h⟩
    | cons y l =>
      rcases h with h | h
      · exact ⟨x, by simp, h⟩
      · obtain ⟨e, he, hf⟩ := ih h
        exact ⟨e, List.mem_cons_of_mem _ he, hf⟩
theorem allV_ok : ∀ {n : Nat} {K : List Value → Prop}, allV n K → ∀ xs : List Value, xs.length = n → K xs := by
  intro n
  induction n with
  | zero => intro K h xs hx; cases xs with
    | nil => exact h
    | cons x r => simp at hx
  | succ n ih =>
    intro K h xs hx
    cases xs with
    | nil => simp at hx
    | cons x r => exact ih (h x) r (by simpa using hx)
theorem allV_mk : ∀ {n : Nat} {K : List Value → Prop}, (∀ xs : List Value, xs.length = n → K xs) → allV n K := by
  intro n
  induction n with
  | zero => intro K h; exact h [] rfl
  | succ n ih => intro K h x; exact ih fun xs hx => h (x :: xs) (by simp [hx])
theorem Inv.putAny (h : Inv g ν st u a w) (d : Nat) (v : Value) : Inv g ν (st.putE d none) u (a.put (some d) v) w := by
  by_cases hd : d < st.n
  · simp only [St.putE, if_pos hd]
    have hd' : d < a.tmps.size := by rw [h.size]; exact hd
    refine ⟨h.sub, h.fr, ?_, ?_, h.own, h.inj, h.clean, by rw [put_size]; exact h.size, h.defers, h.mle⟩
    · intro i e hi
      simp only [look] at hi
      split at hi
      · cases hi; trivial
      · rename_i hdi
        have := h.slots i e hi
        cases e with
        | ok y => exact ⟨this.1, by rw [put_get _ _ _ _ (by simpa using hdi)]; exact this.2⟩
        | grd s b y => exact this
        | any => exact this
    · intro i s b y hi
      simp only [lookG] at hi
      split at hi
      · cases hi
      · rename_i hdi
        split at hi
        · cases hi
        · rename_i hds
          rw [put_get _ _ _ _ (by simpa using hds), put_get _ _ _ _ (by simpa using hdi)]
          exact h.grd i s b y hi
  · simp only [St.putE, if_neg hd]
    have : a.put (some d) v = a := by
      simp only [Act.put]; rw [Array.setIfInBounds_eq_of_size_le (by rw [h.size]; exact Nat.not_lt.1 hd)]
    rw [this]; exact h
theorem exPars_ok : ∀ {shs : List (Option PSh)} {vs : List Value} {K : List (Option Part) → Prop}, exPars shs vs K → ∃ ps : List (Option Part), K ps ∧ ps.length = vs.length ∧
    ∀ (i : Nat) (x : Part), ps[i]? = some (some x) → x.refs = [] ∧ vs[i]? = some x.out := by
  intro shs
  induction shs with
  | nil =>
    intro vs K h
    cases vs with
    | nil => exact ⟨[], h, rfl, fun i x hx => by simp at hx⟩
    | cons v vs => exact h.elim
  | cons s shs ih =>
    intro vs K h
    cases vs with
    | nil => cases s <;> exact h.elim
    | cons v vs =>
      cases s with
      | none =>
        obtain ⟨ps, h1, h2, h3⟩ := ih h
        refine ⟨none :: ps, h1, by simp [h2], fun i x hx => ?_⟩
        cases i with
        | zero => simp at hx
        | succ i => exact h3 i x hx
      | some s =>
        obtain ⟨p, hr, hv, h'⟩ := exP_ok h
        obtain ⟨ps, h1, h2, h3⟩ := ih h'
        refine ⟨some p :: ps, h1, by simp [h2], fun i x hx => ?_⟩
        cases i with
        | zero => simp at hx; subst hx; exact ⟨hr, by rw [hv]; rfl⟩
        | succ i => exact h3 i x hx
theorem St.putE_next (st : St) (d : Nat) (x : Option Part) : (st.putE d x).next = st.next ∧ (st.putE d x).own = st.own ∧ (st.putE d x).n = st.n := by
  cases x with
  | some p => exact ⟨(St.put_next st (some d) (.p p)).1, (St.put_next st (some d) (.p p)).2.1, (St.put_next st (some d) (.p p)).2.2.2⟩
  | none => simp only [St.putE]; split <;> exact ⟨rfl, rfl, rfl⟩
theorem parSlots_ok : ∀ (ps : List Nat) (xs : List (Option Part)) (vs : List Value) {st : St} {tmps : Array Value} {ds : List Deferred}, xs.length = vs.length → (∀ (i : Nat) (x : Part), xs[i]? = some (some x) → x.refs = [] ∧ vs[i]? = some x.out) →
    Inv g ν st u { tmps, defers := ds } w → Inv g ν (parSlots ps xs st) u { tmps := (ps.zip vs).foldl (fun tmps (t, a) => tmps.setIfInBounds t a) tmps, defers := ds } w ∧ (parSlots ps xs st).next = st.next ∧ (parSlots ps xs st).own = st.own := by
  intro ps
  induction ps with
  | nil => intro xs vs st tmps ds _ _ h; exact ⟨h, rfl, rfl⟩
  | cons p ps ih =>
    intro xs vs st tmps ds hl hx h
    cases xs with
    | nil =>
      cases vs with
      | nil => exact ⟨h, rfl, rfl⟩
      | cons v vs => simp at hl
    | cons x xs =>
      cases vs with
      | nil => simp at hl
      | cons v vs =>
        have h1 : Inv g ν (st.putE p x) u { tmps := tmps.setIfInBounds p v, defers := ds } w := by
          cases x with
          | none => exact h.putAny p v
          | some y =>
            obtain ⟨hr, hv⟩ := hx 0 y rfl
            simp at hv
            have := h.put (some p) (.p y) (refsLt_of_nil hr)
            rw [show (SV.p y).toV ν = v from by rw [hv]; exact Part.out_eq ν y hr] at this
            exact this
        obtain ⟨k1, k2, k3⟩ := ih xs vs (by simpa using hl) (fun i y hy => hx (i + 1) y hy) h1
        obtain ⟨e1, e2, _⟩ := St.putE_next st p x
        exact ⟨k1, k2.trans e1, k3.trans e2⟩
theorem zip_foldl (ps : Array Nat) (vs : List Value) (tmps : Array Value) : (ps.zip vs.toArray).foldl (fun tmps (t, a) => tmps.setIfInBounds t a) tmps = (ps.toList.zip vs).foldl (fun tmps (t, a) => tmps.setIfInBounds t a) tmps := by
  rw [← Array.foldl_toList]; simp
/-- entering the loop -/
theorem enter_ok {ro : Option (Nat × Obj)} (hro : ∀ l o, ro = some (l, o) → ∃ r, o = .loop r) (h : Inv g ν st u a w) (har : aroundOk ro u) (fn : FuncId) (ps : Array Tmp) (assign body : Code) :
    ∃ (l : Nat) (mark : List Deferred) (w1 : World) (D : Nat), (Instr.enterLoop fn a.tmps ps assign body (ro.map (·.1))).run P w = .ok (l, mark) w1 ∧ u l = none ∧ g.w0.heap.size ≤ l ∧
      Inv g ν st (PH.add u l (.loop { state := .ready, pending := none, fn, tmps := a.tmps, params := ps, assign, body, defers := D })) { a with defers := mark ++ a.defers } w1 := by
  cases ro with
  | none =>
    refine ⟨w.heap.size + 1, _, _, w.heap.size, run_enterLoop_outer fn a.tmps ps assign body, h.sub.none (Nat.le_succ _), Nat.le_trans h.fr.size (Nat.le_succ _), ?_⟩
    have h1 := h.allocHid (.deferred (some []))
    have h2 : Inv g ν st u { a with defers := [{ target := .collected w.heap.size, args := #[] }] ++ a.defers } (w.alloc (.deferred (some []))) := by
      refine ⟨h1.sub, h1.fr, h1.slots, h1.grd, h1.own, h1.inj, h1.clean, h1.size, ⟨?_, fun d hd => ?_⟩, h1.mle⟩
      · refine List.nodup_cons.2 ⟨fun hm => ?_, h1.defers.1⟩
        obtain ⟨D, e, _, h3, _⟩ := h.defers.2 _ hm
        have := lt_of_heap h3
        have hD : w.heap.size = D := by injection e with e _; injection e
        omega
      · rcases List.mem_cons.1 hd with rfl | hd
        · exact ⟨w.heap.size, rfl, h.fr.size, heap_alloc_eq w _, h.sub.none (Nat.le_refl _)⟩
        · exact h1.defers.2 d hd
    have h3 := h2.allocPub (.loop { state := .ready, pending := none, fn, tmps := a.tmps, params := ps, assign, body, defers := w.heap.size })
    have hs : (w.alloc (.deferred (some []))).heap.size = w.heap.size + 1 := by simp
    rw [hs] at h3
    exact h3
  | some p =>
    obtain ⟨l0, o⟩ := p
    obtain ⟨r, rfl⟩ := hro l0 o rfl
    have hr := run_getLoop (P := P) (h.sub l0 _ har)
    refine ⟨w.heap.size, [], _, r.defers, ?_, h.sub.none (Nat.le_refl _), h.fr.size, h.allocPub _⟩
    unfold Instr.enterLoop
    simp only [Option.map_some, Sem.run_bind, hr, Result.andThen_ok, Sem.run_pure, run_newObj]
end Go.Proofs.YtlmnfhhmgfnbpaaDoor.E
