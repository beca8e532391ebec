/- THE ENGINE, part 4: what a symbolic state says of a frame and a world; its lemmas. -/
import Derived.Test.YtlmnfhhmgfnbpaaDoorE2
namespace Go.Proofs.YtlmnfhhmgfnbpaaDoor.E
open Go

structure Ghost where
  u0 : PH
  w0 : World
  m : Nat
  ref : Nat → Option Obj
def refsLt (n : Nat) (l : List Nat) : Prop := ∀ r ∈ l, 0 < r ∧ r < n
def Entry.ok' (ν : Nat → Nat) (n : Nat) (tmps : Array Value) (i : Nat) : Entry → Prop
  | .ok x => refsLt n x.refs ∧ tmps[i]? = some (x.toV ν)
  | .grd _ _ x => refsLt n x.refs
  | .any => True
def obj (ν : Nat → Nat) (ob : OB) : Obj := .cells (ob.cells.map (Cell.toV ν)).toArray ob.ty (0, 0)
/-- the marks of loops over functions, among the deferred calls -/
def MarksOk (n : Nat) (u : PH) (ds : List Deferred) (w : World) : Prop :=
  ds.Nodup ∧ ∀ d ∈ ds, ∃ D, d = { target := .collected D, args := #[] } ∧ n ≤ D ∧ w.heap[D]? = some (.deferred (some [])) ∧ u D = none
theorem MarksOk.to {n : Nat} {u u' : PH} {ds : List Deferred} {w w' : World} (h : MarksOk n u ds w)
    (hk : ∀ D, n ≤ D → w.heap[D]? = some (.deferred (some [])) → u D = none → w'.heap[D]? = some (.deferred (some [])) ∧ u' D = none) : MarksOk n u' ds w' :=
  ⟨h.1, fun d hd => by
    obtain ⟨D, e, h1, h2, h3⟩ := h.2 d hd
    obtain ⟨k1, k2⟩ := hk D h1 h2 h3
    exact ⟨D, e, h1, k1, k2⟩⟩
theorem MarksOk.nil (n : Nat) (u : PH) (w : World) : MarksOk n u [] w := ⟨List.nodup_nil, fun d hd => by cases hd⟩
structure Inv (g : Ghost) (ν : Nat → Nat) (st : St) (u : PH) (a : Act) (w : World) : Prop where
  sub : Sub u w
  fr : Fr g.u0 g.w0 u w
  slots : ∀ i e, look st.slots i = some e → e.ok' ν st.next a.tmps i
  grd : ∀ i s b x, lookG st.slots i s = some (b, x) → (a.tmps[s]? = some (.bool b) → a.tmps[i]? = some (x.toV ν)) ∧ (a.tmps[s]? ≠ some (.bool b) → a.tmps[i]? = some undef)
  own : ∀ k ob, look st.own k = some ob → k < st.next ∧ w.heap[ν k]? = some (obj ν ob) ∧ u (ν k) = none ∧ g.w0.heap.size ≤ ν k ∧ refsLt st.next (ob.cells.flatMap Cell.refs)
  inj : ∀ k k' ob ob', look st.own k = some ob → look st.own k' = some ob' → ν k = ν k' → k = k'
  clean : ∀ k ob, k < g.m → look st.own k = some ob → k ∉ st.dirty → w.heap[ν k]? = g.ref k
  size : a.tmps.size = st.n
  defers : MarksOk g.w0.heap.size u a.defers w
  mle : g.m ≤ st.next
structure Later (ν : Nat → Nat) (st : St) (ν' : Nat → Nat) (st' : St) : Prop where
  next : st.next ≤ st'.next
  nu : ∀ k, k < st.next → ν' k = ν k
  n : st'.n = st.n
  own : ∀ k ob', look st'.own k = some ob' → k < st.next → ∃ ob, look st.own k = some ob
theorem Later.refl (ν : Nat → Nat) (st : St) : Later ν st ν st := ⟨Nat.le_refl _, fun _ _ => rfl, rfl, fun _ ob h _ => ⟨ob, h⟩⟩
theorem Later.trans {ν ν' ν'' : Nat → Nat} {st st' st'' : St} (h : Later ν st ν' st') (h' : Later ν' st' ν'' st'') : Later ν st ν'' st'' :=
  ⟨Nat.le_trans h.next h'.next, fun k hk => (h'.nu k (Nat.lt_of_lt_of_le hk h.next)).trans (h.nu k hk), h'.n.trans h.n, fun k ob hk hlt => by
    obtain ⟨ob1, h1⟩ := h'.own k ob hk (Nat.lt_of_lt_of_le hlt h.next)
    exact h.own k ob1 h1 hlt⟩

/-! ### values that name no new block -/
theorem refsLt.mono {n m : Nat} {l : List Nat} (h : refsLt n l) (hnm : n ≤ m) : refsLt m l := fun r hr => ⟨(h r hr).1, Nat.lt_of_lt_of_le (h r hr).2 hnm⟩
theorem Atom.toV_congr {ν ν' : Nat → Nat} {n : Nat} (hν : ∀ k, k < n → ν' k = ν k) (a : Atom) (h : refsLt n a.refs) : a.toV ν' = a.toV ν := by
  cases a with
  | own k o => simp only [Atom.toV]; rw [hν k (h k (by simp [Atom.refs])).2]
  | _ => rfl
theorem Cell.toV_congr {ν ν' : Nat → Nat} {n : Nat} (hν : ∀ k, k < n → ν' k = ν k) (c : Cell) (h : refsLt n c.refs) : c.toV ν' = c.toV ν := by
  cases c with
  | own k o => simp only [Cell.toV]; rw [hν k (h k (by simp [Cell.refs])).2]
  | fn f caps =>
    simp only [Cell.toV]
    have : caps.map (Atom.toV ν') = caps.map (Atom.toV ν) := List.map_congr_left fun x hx => Atom.toV_congr hν x fun r hr => h r (by simp only [Cell.refs, List.mem_flatMap]; exact ⟨x, hx, hr⟩)
    rw [this]
  | _ => rfl
theorem cells_congr {ν ν' : Nat → Nat} {n : Nat} (hν : ∀ k, k < n → ν' k = ν k) (cs : List Cell) (h : refsLt n (cs.flatMap Cell.refs)) : cs.map (Cell.toV ν') = cs.map (Cell.toV ν) :=
  List.map_congr_left fun x hx => Cell.toV_congr hν x fun r hr => h r (List.mem_flatMap.2 ⟨x, hx, hr⟩)
theorem Part.toV_congr {ν ν' : Nat → Nat} {n : Nat} (hν : ∀ k, k < n → ν' k = ν k) (p : Part) (h : refsLt n p.refs) : p.toV ν' = p.toV ν := by
  cases p with
  | c x => exact Cell.toV_congr hν x fun r hr => h r (by simpa [Part.refs, Part.cells] using hr)
  | agg xs => simp only [Part.toV]; rw [cells_congr hν xs h]
theorem SV.toV_congr {ν ν' : Nat → Nat} {n : Nat} (hν : ∀ k, k < n → ν' k = ν k) (x : SV) (h : refsLt n x.refs) : x.toV ν' = x.toV ν := by
  cases x with
  | p x => exact Part.toV_congr hν x h
  | tup xs =>
    simp only [SV.toV]
    have : xs.map (Part.toV ν') = xs.map (Part.toV ν) := List.map_congr_left fun x hx => Part.toV_congr hν x fun r hr => h r (by simp only [SV.refs, List.mem_flatMap]; exact ⟨x, hx, hr⟩)
    rw [this]
theorem Cell.out_eq (ν : Nat → Nat) (c : Cell) (h : c.refs = []) : c.toV ν = c.out :=
  (Cell.toV_congr (n := 0) (ν := fun k => k) (fun k hk => by omega) c (by rw [h]; intro r hr; cases hr))
theorem Part.out_eq (ν : Nat → Nat) (p : Part) (h : p.refs = []) : p.toV ν = p.out :=
  (Part.toV_congr (n := 0) (ν := fun k => k) (fun k hk => by omega) p (by rw [h]; intro r hr; cases hr))
theorem cells_out_eq (ν : Nat → Nat) (cs : List Cell) (h : cs.flatMap Cell.refs = []) : cs.map (Cell.toV ν) = cs.map Cell.out :=
  List.map_congr_left fun x hx => Cell.out_eq ν x (by simpa using (List.flatMap_eq_nil_iff.1 h) x hx)

/-! ### looking up -/
theorem lookG_look {l : List (Nat × Entry)} {i s : Nat} {w : Bool} {x : SV} (h : lookG l i s = some (w, x)) : look l i = some (.grd s w x) := by
  induction l with
  | nil => cases h
  | cons p r ih =>
    obtain ⟨k, e⟩ := p
    simp only [lookG] at h
    simp only [look]
    split at h
    · rename_i hk
      rw [if_pos hk]
      cases e with
      | ok y => cases h
      | any => cases h
      | grd s' w' y =>
        simp only at h
        split at h
        · rename_i hs; subst hs; cases h; rfl
        · cases h
    · rename_i hk
      rw [if_neg hk]
      split at h
      · cases h
      · exact ih h
theorem look_map {α β : Type} (f : Nat → α → β) (l : List (Nat × α)) (i : Nat) : look (l.map fun x => (x.1, f x.1 x.2)) i = (look l i).map (f i) := by
  induction l with
  | nil => rfl
  | cons p r ih =>
    obtain ⟨k, e⟩ := p
    simp only [List.map_cons, look]
    split
    · rename_i h; subst h; rfl
    · exact ih
theorem openG_fst (S : List (Nat × Entry)) (s : Nat) (b : Bool) (x : Nat × Entry) : openG S s b x = (x.1, (openG S s b x).2) := by
  unfold openG; split
  · split <;> rfl
  · rfl
theorem look_openG (S l : List (Nat × Entry)) (s : Nat) (b : Bool) (i : Nat) : look (l.map (openG S s b)) i = (look l i).map fun e => (openG S s b (i, e)).2 := by
  have := look_map (fun i e => (openG S s b (i, e)).2) l i
  rw [← this]
  congr 1
  exact List.map_congr_left fun x _ => openG_fst S s b x
theorem lookG_openG {S l : List (Nat × Entry)} {s : Nat} {b : Bool} {i s' : Nat} {w : Bool} {x : SV} (h : lookG (l.map (openG S s b)) i s' = some (w, x)) : lookG l i s' = some (w, x) := by
  induction l with
  | nil => cases h
  | cons p r ih =>
    obtain ⟨k, e⟩ := p
    rw [List.map_cons, openG_fst S s b (k, e)] at h; simp only [lookG] at h
    simp only [lookG]
    split at h
    · rename_i hk
      rw [if_pos hk]
      unfold openG at h
      cases hq : lookG S k s with
      | none => simp only [hq] at h; exact h
      | some q =>
        obtain ⟨w', v⟩ := q
        simp only [hq] at h
        by_cases hb : w' = b
        · simp only [if_pos hb] at h; cases h
        · simp only [if_neg hb] at h; cases h
    · rename_i hk
      rw [if_neg hk]
      split at h
      · cases h
      · rename_i hs; rw [if_neg hs]; exact ih h
theorem look_filter_ne {α : Type} (l : List (Nat × α)) (k i : Nat) : look (l.filter fun x => x.1 != k) i = if i = k then none else look l i := by
  induction l with
  | nil => simp [look]
  | cons p r ih =>
    obtain ⟨j, e⟩ := p
    simp only [List.filter_cons]
    by_cases hj : j = k
    · subst hj
      rw [if_neg (by simp), ih]
      simp only [look]
      by_cases hi : i = j
      · rw [if_pos hi, if_pos hi]
      · rw [if_neg hi, if_neg hi, if_neg (fun h => hi h.symm)]
    · have : (j != k) = true := by simpa using hj
      rw [if_pos this]
      simp only [look]
      rw [ih]
      by_cases hji : j = i
      · rw [if_pos hji, if_pos hji, if_neg (fun e => hj (hji.trans e))]
      · rw [if_neg hji, if_neg hji]

/-! ### a slot is written -/
theorem getElem?_set {α : Type} (xs : Array α) (d : Nat) (v : α) (i : Nat) (h : d < xs.size) : (xs.setIfInBounds d v)[i]? = if i = d then some v else xs[i]? := by
  rw [Array.getElem?_setIfInBounds]
  by_cases e : d = i
  · subst e; simp [h]
  · rw [if_neg e, if_neg (fun h => e h.symm)]
theorem put_get (a : Act) (d : Option Tmp) (v : Value) (i : Nat) (h : d ≠ some i) : (a.put d v).tmps[i]? = a.tmps[i]? := by
  cases d with
  | none => rfl
  | some d => simp only [Act.put]; rw [Array.getElem?_setIfInBounds, if_neg (fun e => h (by rw [e]))]
theorem put_size (a : Act) (d : Option Tmp) (v : Value) : (a.put d v).tmps.size = a.tmps.size := by
  cases d <;> simp [Act.put]
theorem put_defers (a : Act) (d : Option Tmp) (v : Value) : (a.put d v).defers = a.defers := by
  cases d <;> rfl
variable {g : Ghost} {ν : Nat → Nat} {st : St} {u : PH} {a : Act} {w : World}
theorem St.put_next (st : St) (d : Option Tmp) (x : SV) : (st.put d x).next = st.next ∧ (st.put d x).own = st.own ∧ (st.put d x).dirty = st.dirty ∧ (st.put d x).n = st.n := by
  unfold St.put; split
  · simp
  · split <;> simp
theorem St.putG_next (st : St) (d : Option Tmp) (s : Nat) (b : Bool) (x : SV) : (st.putG d s b x).next = st.next ∧ (st.putG d s b x).own = st.own ∧ (st.putG d s b x).dirty = st.dirty ∧ (st.putG d s b x).n = st.n := by
  unfold St.putG; split
  · simp
  · split <;> simp
theorem Inv.put (h : Inv g ν st u a w) (d : Option Tmp) (x : SV) (hx : refsLt st.next x.refs) : Inv g ν (st.put d x) u (a.put d (x.toV ν)) w := by
  obtain ⟨e1, e2, e3, e4⟩ := St.put_next st d x
  refine ⟨h.sub, h.fr, ?_, ?_, by rw [e1, e2]; exact h.own, by rw [e2]; exact h.inj, by rw [e2, e3]; exact h.clean, by rw [put_size, e4]; exact h.size, by rw [put_defers]; exact h.defers, by rw [e1]; exact h.mle⟩
  · rw [e1]
    cases d with
    | none => exact h.slots
    | some d =>
      intro i e hi
      by_cases hd : d < st.n
      · simp only [St.put, if_pos hd] at hi
        have hd' : d < a.tmps.size := by rw [h.size]; exact hd
        simp only [look] at hi
        split at hi
        · rename_i hdi; subst hdi; cases hi
          exact ⟨hx, by simp only [Act.put]; rw [getElem?_set _ _ _ _ hd', if_pos rfl]⟩
        · rename_i hdi
          have := h.slots i e hi
          cases e with
          | ok y => exact ⟨this.1, by rw [put_get _ _ _ _ (by simpa using hdi)]; exact this.2⟩
          | grd s b y => exact this
          | any => exact this
      · simp only [St.put, if_neg hd] at hi
        have : a.put (some d) (x.toV ν) = a := by
          simp only [Act.put]; rw [Array.setIfInBounds_eq_of_size_le (by rw [h.size]; exact Nat.not_lt.1 hd)]
        rw [this]; exact h.slots i e hi
  · cases d with
    | none => exact h.grd
    | some d =>
      intro i s b y hi
      by_cases hd : d < st.n
      · simp only [St.put, if_pos hd] at hi
        simp only [lookG] at hi
        split at hi
        · cases hi
        · rename_i hdi
          split at hi
          · cases hi
          · rename_i hds
            rw [put_get _ _ _ _ (by simpa using hds), put_get _ _ _ _ (by simpa using hdi)]
            exact h.grd i s b y hi
      · simp only [St.put, if_neg hd] at hi
        have : a.put (some d) (x.toV ν) = a := by
          simp only [Act.put]; rw [Array.setIfInBounds_eq_of_size_le (by rw [h.size]; exact Nat.not_lt.1 hd)]
        rw [this]; exact h.grd i s b y hi
/-- a guarded slot is written: with v, where the guard let it through, else with nothing -/
theorem Inv.putG (h : Inv g ν st u a w) (d : Option Tmp) (s : Nat) (b : Bool) (x : SV) (hx : refsLt st.next x.refs) (hds : d ≠ some s) (v : Value)
    (hv : (a.tmps[s]? = some (.bool b) → v = x.toV ν) ∧ (a.tmps[s]? ≠ some (.bool b) → v = undef)) : Inv g ν (st.putG d s b x) u (a.put d v) w := by
  obtain ⟨e1, e2, e3, e4⟩ := St.putG_next st d s b x
  refine ⟨h.sub, h.fr, ?_, ?_, by rw [e1, e2]; exact h.own, by rw [e2]; exact h.inj, by rw [e2, e3]; exact h.clean, by rw [put_size, e4]; exact h.size, by rw [put_defers]; exact h.defers, by rw [e1]; exact h.mle⟩
  · rw [e1]
    cases d with
    | none => exact h.slots
    | some d =>
      intro i e hi
      by_cases hd : d < st.n
      · simp only [St.putG, if_pos hd] at hi
        simp only [look] at hi
        split at hi
        · cases hi; exact hx
        · rename_i hdi
          have := h.slots i e hi
          cases e with
          | ok y => exact ⟨this.1, by rw [put_get _ _ _ _ (by simpa using hdi)]; exact this.2⟩
          | grd s b y => exact this
          | any => exact this
      · simp only [St.putG, if_neg hd] at hi
        have : a.put (some d) v = a := by
          simp only [Act.put]; rw [Array.setIfInBounds_eq_of_size_le (by rw [h.size]; exact Nat.not_lt.1 hd)]
        rw [this]; exact h.slots i e hi
  · cases d with
    | none => exact h.grd
    | some d =>
      intro i s' b' y hi
      by_cases hd : d < st.n
      · simp only [St.putG, if_pos hd] at hi
        have hd' : d < a.tmps.size := by rw [h.size]; exact hd
        simp only [lookG] at hi
        split at hi
        · rename_i hdi; subst hdi
          split at hi
          · rename_i hss; subst hss; cases hi
            rw [put_get _ _ _ _ (by simpa using hds)]
            simp only [Act.put]
            rw [getElem?_set _ _ _ _ hd', if_pos rfl]
            exact ⟨fun e => by rw [hv.1 e], fun e => by rw [hv.2 e]⟩
          · cases hi
        · rename_i hdi
          split at hi
          · cases hi
          · rename_i hds'
            rw [put_get _ _ _ _ (by simpa using hds'), put_get _ _ _ _ (by simpa using hdi)]
            exact h.grd i s' b' y hi
      · simp only [St.putG, if_neg hd] at hi
        have : a.put (some d) v = a := by
          simp only [Act.put]; rw [Array.setIfInBounds_eq_of_size_le (by rw [h.size]; exact Nat.not_lt.1 hd)]
        rw [this]; exact h.grd i s' b' y hi
theorem refsLt_nil (n : Nat) : refsLt n [] := fun r hr => by cases hr
theorem Inv.assume (h : Inv g ν st u a w) (s : Nat) (b : Bool) (hs : a.tmps[s]? = some (.bool b)) : Inv g ν (st.assume s b) u a w := by
  refine ⟨h.sub, h.fr, ?_, ?_, h.own, h.inj, h.clean, h.size, h.defers, h.mle⟩
  · intro i e hi
    simp only [St.assume, look] at hi
    split at hi
    · rename_i hsi; subst hsi; cases hi
      exact ⟨refsLt_nil _, hs⟩
    · rw [look_openG] at hi
      simp only [Option.map_eq_some_iff] at hi
      obtain ⟨e0, h0, rfl⟩ := hi
      have h1 := h.slots i e0 h0
      simp only [openG]
      cases hg : lookG st.slots i s with
      | none => exact h1
      | some p =>
        obtain ⟨b', x⟩ := p
        have h2 := lookG_look hg
        rw [h0] at h2; cases h2
        have h3 := h.grd i s b' x hg
        simp only
        by_cases hb : b' = b
        · rw [if_pos hb]; subst hb; exact ⟨h1, h3.1 hs⟩
        · rw [if_neg hb]
          exact ⟨refsLt_nil _, h3.2 (by rw [hs]; simpa using fun e => hb e.symm)⟩
  · intro i s' b' x hi
    simp only [St.assume, lookG] at hi
    split at hi
    · cases hi
    · split at hi
      · cases hi
      · exact h.grd i s' b' x (lookG_openG hi)
end Go.Proofs.YtlmnfhhmgfnbpaaDoor.E
