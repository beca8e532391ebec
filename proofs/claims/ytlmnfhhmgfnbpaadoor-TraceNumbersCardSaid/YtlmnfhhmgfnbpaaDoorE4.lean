/- THE ENGINE, part 5: operands, handing over, and quiet operations are sound. -/
import Derived.Test.YtlmnfhhmgfnbpaaDoorE3
namespace Go.Proofs.YtlmnfhhmgfnbpaaDoor.E
open Go
variable {P : Program} {g : Ghost} {ν : Nat → Nat} {st : St} {u : PH} {a : Act} {w : World}

/-! ### handing a block over changes nothing but what is said -/
theorem Atom.toV_pub (ν : Nat → Nat) (k : Nat) (x : Atom) : (x.pub k (ν k)).toV ν = x.toV ν := by
  cases x with
  | own j o => simp only [Atom.pub]; split
               · rename_i h; subst h; rfl
               · rfl
  | _ => rfl
theorem Cell.toV_pub (ν : Nat → Nat) (k : Nat) (x : Cell) : (x.pub k (ν k)).toV ν = x.toV ν := by
  cases x with
  | own j o => simp only [Cell.pub]; split
               · rename_i h; subst h; rfl
               · rfl
  | fn f caps =>
    simp only [Cell.pub, Cell.toV, List.map_map]
    rw [show caps.map (Atom.toV ν ∘ Atom.pub k (ν k)) = caps.map (Atom.toV ν) from List.map_congr_left fun x _ => Atom.toV_pub ν k x]
  | _ => rfl
theorem cells_pub (ν : Nat → Nat) (k : Nat) (cs : List Cell) : (cs.map (Cell.pub k (ν k))).map (Cell.toV ν) = cs.map (Cell.toV ν) := by
  rw [List.map_map]; exact List.map_congr_left fun x _ => Cell.toV_pub ν k x
theorem Part.toV_pub (ν : Nat → Nat) (k : Nat) (x : Part) : (x.pub k (ν k)).toV ν = x.toV ν := by
  cases x with
  | c x => exact Cell.toV_pub ν k x
  | agg xs => simp only [Part.pub, Part.toV, cells_pub]
theorem SV.toV_pub (ν : Nat → Nat) (k : Nat) (x : SV) : (x.pub k (ν k)).toV ν = x.toV ν := by
  cases x with
  | p x => exact Part.toV_pub ν k x
  | tup xs =>
    simp only [SV.pub, SV.toV, List.map_map]
    rw [show xs.map (Part.toV ν ∘ Part.pub k (ν k)) = xs.map (Part.toV ν) from List.map_congr_left fun x _ => Part.toV_pub ν k x]
theorem Atom.refs_pub (k b : Nat) (x : Atom) : ∀ r ∈ (x.pub k b).refs, r ∈ x.refs := by
  cases x with
  | own j o => simp only [Atom.pub]; split <;> simp [Atom.refs]
  | _ => intro r hr; exact hr
theorem Cell.refs_pub (k b : Nat) (x : Cell) : ∀ r ∈ (x.pub k b).refs, r ∈ x.refs := by
  cases x with
  | own j o => simp only [Cell.pub]; split <;> simp [Cell.refs]
  | fn f caps =>
    intro r hr
    simp only [Cell.pub, Cell.refs, List.mem_flatMap, List.mem_map] at hr ⊢
    obtain ⟨y, ⟨x, hx, rfl⟩, hr⟩ := hr
    exact ⟨x, hx, Atom.refs_pub k b x r hr⟩
  | _ => intro r hr; exact hr
theorem cells_refs_pub (k b : Nat) (cs : List Cell) : ∀ r ∈ (cs.map (Cell.pub k b)).flatMap Cell.refs, r ∈ cs.flatMap Cell.refs := by
  intro r hr
  simp only [List.mem_flatMap, List.mem_map] at hr ⊢
  obtain ⟨y, ⟨x, hx, rfl⟩, hr⟩ := hr
  exact ⟨x, hx, Cell.refs_pub k b x r hr⟩
theorem Part.refs_pub (k b : Nat) (x : Part) : ∀ r ∈ (x.pub k b).refs, r ∈ x.refs := by
  cases x with
  | c x => simp only [Part.pub, Part.refs, Part.cells, List.flatMap_cons, List.flatMap_nil, List.append_nil]; exact Cell.refs_pub k b x
  | agg xs => simp only [Part.pub, Part.refs, Part.cells]; exact cells_refs_pub k b xs
theorem SV.refs_pub (k b : Nat) (x : SV) : ∀ r ∈ (x.pub k b).refs, r ∈ x.refs := by
  cases x with
  | p x => exact Part.refs_pub k b x
  | tup xs =>
    intro r hr
    simp only [SV.pub, SV.refs, List.mem_flatMap, List.mem_map] at hr ⊢
    obtain ⟨y, ⟨x, hx, rfl⟩, hr⟩ := hr
    exact ⟨x, hx, Part.refs_pub k b x r hr⟩
theorem lookG_pub (k b : Nat) (l : List (Nat × Entry)) {i s : Nat} {w : Bool} {x : SV} (h : lookG (l.map fun (i, e) => (i, e.pub k b)) i s = some (w, x)) : ∃ x0, lookG l i s = some (w, x0) ∧ x = x0.pub k b := by
  induction l with
  | nil => cases h
  | cons p r ih =>
    obtain ⟨j, e⟩ := p
    simp only [List.map_cons, lookG] at h
    simp only [lookG]
    split at h
    · rename_i hj
      rw [if_pos hj]
      cases e with
      | ok y => cases h
      | any => cases h
      | grd s' w' y =>
        simp only [Entry.pub] at h
        split at h
        · rename_i hs; subst hs; cases h; exact ⟨y, by simp, rfl⟩
        · cases h
    · rename_i hj
      rw [if_neg hj]
      split at h
      · cases h
      · rename_i hs; rw [if_neg hs]; exact ih h
theorem look_pub_own {st : St} {k b j : Nat} {ob : OB} (h : look (st.pub k b).own j = some ob) : ∃ ob0, look st.own j = some ob0 := by
  simp only [St.pub] at h
  have := look_map (fun _ (ob : OB) => ({ ob with cells := ob.cells.map (Cell.pub k b) } : OB)) (st.own.filter fun x => x.1 != k) j
  have h' := this.symm.trans h
  rw [look_filter_ne] at h'
  split at h'
  · cases h'
  · simp only [Option.map_eq_some_iff] at h'
    obtain ⟨ob0, h0, _⟩ := h'
    exact ⟨ob0, h0⟩
theorem Inv.pub (h : Inv g ν st u a w) (k : Nat) (ob : OB) (hk : look st.own k = some ob) (hr : ob.cells.flatMap Cell.refs = []) :
    Inv g ν (st.pub k (ν k)) (PH.add u (ν k) (.cells (ob.cells.map Cell.out).toArray ob.ty)) a w := by
  obtain ⟨hkn, hh, hun, hb, hrl⟩ := h.own k ob hk
  have hobj : obj ν ob = .cells (ob.cells.map Cell.out).toArray ob.ty := by unfold obj; rw [cells_out_eq ν _ hr]
  have hlook : ∀ j, look (st.pub k (ν k)).own j = if j = k then none else (look st.own j).map fun ob => { ob with cells := ob.cells.map (Cell.pub k (ν k)) } := by
    intro j
    simp only [St.pub]
    have := look_map (fun _ (ob : OB) => ({ ob with cells := ob.cells.map (Cell.pub k (ν k)) } : OB)) (st.own.filter fun x => x.1 != k) j
    refine this.trans ?_
    rw [look_filter_ne]
    split <;> rfl
  refine ⟨?_, ?_, ?_, ?_, ?_, ?_, ?_, h.size, h.defers.to fun D _ hD hu => ⟨hD, by simp only [PH.add]; rw [if_neg (fun e => by rw [e, hh] at hD; cases hD)]; exact hu⟩, h.mle⟩
  · intro b o ho
    simp only [PH.add] at ho
    split at ho
    · rename_i e; subst e; cases ho; rw [hh, hobj]
    · exact h.sub b o ho
  · refine ⟨h.fr.os, h.fr.tape, h.fr.output, h.fr.size, fun b hb' hn => ?_⟩
    obtain ⟨h1, h2⟩ := h.fr.keep b hb' hn
    refine ⟨h1, ?_⟩
    simp only [PH.add]
    rw [if_neg (by omega)]; exact h2
  · intro i e hi
    have := look_map (fun _ (e : Entry) => e.pub k (ν k)) st.slots i
    have hi' : (look st.slots i).map (fun e => e.pub k (ν k)) = some e := by rw [← this]; exact hi
    simp only [Option.map_eq_some_iff] at hi'
    obtain ⟨e0, h0, rfl⟩ := hi'
    have h1 := h.slots i e0 h0
    cases e0 with
    | ok x => exact ⟨fun r hr => h1.1 r (SV.refs_pub _ _ x r hr), by rw [SV.toV_pub]; exact h1.2⟩
    | grd s b x => exact fun r hr => h1 r (SV.refs_pub _ _ x r hr)
    | any => trivial
  · intro i s b x hx
    obtain ⟨x0, h0, rfl⟩ := lookG_pub k (ν k) st.slots hx
    rw [SV.toV_pub]
    exact h.grd i s b x0 h0
  · intro j ob' hj
    rw [hlook] at hj
    split at hj
    · cases hj
    · rename_i hjk
      simp only [Option.map_eq_some_iff] at hj
      obtain ⟨ob0, h0, rfl⟩ := hj
      obtain ⟨g1, g2, g3, g4, g5⟩ := h.own j ob0 h0
      refine ⟨g1, ?_, ?_, g4, fun r hr => g5 r (cells_refs_pub _ _ _ r hr)⟩
      · rw [g2]; simp only [obj, cells_pub]
      · simp only [PH.add]
        rw [if_neg (fun e => hjk (h.inj j k ob0 ob h0 hk e))]; exact g3
  · intro j j' o1 o2 h1 h2 e
    rw [hlook] at h1 h2
    split at h1
    · cases h1
    · split at h2
      · cases h2
      · simp only [Option.map_eq_some_iff] at h1 h2
        obtain ⟨x1, y1, _⟩ := h1
        obtain ⟨x2, y2, _⟩ := h2
        exact h.inj j j' x1 x2 y1 y2 e
  · intro j ob' hm hj hd
    rw [hlook] at hj
    split at hj
    · cases hj
    · simp only [Option.map_eq_some_iff] at hj
      obtain ⟨ob0, h0, _⟩ := hj
      exact h.clean j ob0 hm h0 hd
theorem vcPub_sound (K : St → PH → Prop) : ∀ (n : Nat) (need : List Nat) (st : St) (u : PH), vcPub n need st u K → Inv g ν st u a w →
    ∃ st' u', Inv g ν st' u' a w ∧ K st' u' ∧ Later ν st ν st' := by
  intro n
  induction n with
  | zero =>
    intro need st u h hI
    cases need with
    | nil => exact ⟨st, u, hI, h, Later.refl _ _⟩
    | cons k r => exact h.elim
  | succ n ih =>
    intro need st u h hI
    cases need with
    | nil => exact ⟨st, u, hI, h, Later.refl _ _⟩
    | cons k r =>
      simp only [vcPub] at h
      cases hk : look st.own k with
      | none => rw [hk] at h; exact ih r st u h hI
      | some ob =>
        rw [hk] at h
        simp only at h
        cases hr : ob.cells.flatMap Cell.refs with
        | nil =>
          rw [hr] at h
          obtain ⟨st', u', h1, h2, h3⟩ := ih _ _ _ (h (ν k) (hI.own k ob hk).2.2.1) (hI.pub k ob hk hr)
          refine ⟨st', u', h1, h2, ⟨h3.next, h3.nu, h3.n, fun j ob' hj hlt => ?_⟩⟩
          obtain ⟨ob1, h4⟩ := h3.own j ob' hj hlt
          exact look_pub_own h4
        | cons j js => rw [hr] at h; exact ih _ st u h hI

/-! ### operands -/
def CtxOk (g : Ctx) (tmps : Array Value) : Prop := ∀ s b, g.has s b = true → tmps[s]? = some (.bool b)
theorem CtxOk.nil (tmps : Array Value) : CtxOk [] tmps := fun _ _ h => by cases h
theorem getD_of {a : Act} {t : Nat} {v : Value} (h : a.tmps[t]? = some v) : a.tmps.getD t undef = v := by
  rw [Array.getD_eq_getD_getElem?, h]; rfl
theorem constCell_ok {v : Value} {c : Cell} (h : constCell v = some c) (ν : Nat → Nat) : c.toV ν = v ∧ c.refs = [] := by
  cases v with
  | bool b => cases b <;> (simp only [constCell] at h; cases h; exact ⟨rfl, rfl⟩)
  | agg _ => simp only [constCell] at h; cases h
  | tuple _ => simp only [constCell] at h; cases h
  | _ => simp only [constCell] at h; cases h; exact ⟨rfl, rfl⟩
theorem mapM_constCell_ok : ∀ {l : List Value} {cs : List Cell}, l.mapM constCell = some cs → ∀ (ν : Nat → Nat), cs.map (Cell.toV ν) = l ∧ cs.flatMap Cell.refs = [] := by
  intro l
  induction l with
  | nil => intro cs h ν; simp only [List.mapM_nil] at h; cases h; exact ⟨rfl, rfl⟩
  | cons v l ih =>
    intro cs h ν
    simp only [List.mapM_cons, Option.bind_eq_bind, Option.bind_eq_some_iff, Option.pure_def, Option.some.injEq] at h
    obtain ⟨c, hc, cs', hcs, rfl⟩ := h
    obtain ⟨h1, h2⟩ := constCell_ok hc ν
    obtain ⟨h3, h4⟩ := ih hcs ν
    exact ⟨by simp only [List.map_cons, h1, h3], by simp only [List.flatMap_cons, h2, h4, List.append_nil]⟩
theorem St.sv_ok (h : Inv g ν st u a w) {x : Ctx} (hx : CtxOk x a.tmps) {o : Operand} {s : SV} (hs : st.sv x o = some s) : a.eval o = s.toV ν ∧ refsLt st.next s.refs := by
  cases o with
  | tmp t =>
    simp only [St.sv] at hs
    cases hl : look st.slots t with
    | none => rw [hl] at hs; cases hs
    | some e =>
      rw [hl] at hs
      have h1 := h.slots t e hl
      cases e with
      | ok y => cases hs; exact ⟨getD_of h1.2, h1.1⟩
      | any => cases hs
      | grd s' b y =>
        simp only at hs
        split at hs
        · rename_i hc
          cases hs
          simp only [Bool.and_eq_true] at hc
          obtain ⟨hc1, hc2⟩ := hc
          obtain ⟨⟨b', y'⟩, hy⟩ := Option.isSome_iff_exists.1 hc2
          have := lookG_look hy
          rw [hl] at this; cases this
          exact ⟨getD_of ((h.grd t s' b s hy).1 (hx s' b hc1)), h1⟩
        · cases hs
  | const v =>
    cases v with
    | agg cs =>
      simp only [St.sv, Option.map_eq_some_iff] at hs
      obtain ⟨l, hl, rfl⟩ := hs
      obtain ⟨h1, h2⟩ := mapM_constCell_ok hl ν
      refine ⟨?_, ?_⟩
      · simp only [Act.eval, SV.toV, Part.toV, h1]
      · intro r hr
        simp only [SV.refs, Part.refs, Part.cells, h2] at hr
        cases hr
    | _ =>
      simp only [St.sv, Option.map_eq_some_iff] at hs
      obtain ⟨c, hc, rfl⟩ := hs
      obtain ⟨h1, h2⟩ := constCell_ok hc ν
      refine ⟨h1.symm, ?_⟩
      intro r hr
      simp only [SV.refs, Part.refs, Part.cells, List.flatMap_cons, List.flatMap_nil, List.append_nil, h2] at hr
      cases hr
  | func f => simp only [St.sv] at hs; cases hs; exact ⟨rfl, fun r hr => by simp [SV.refs, Part.refs, Part.cells, Cell.refs] at hr⟩
  | global g => simp only [St.sv] at hs; cases hs; exact ⟨rfl, fun r hr => by simp [SV.refs, Part.refs, Part.cells, Cell.refs] at hr⟩
theorem St.part_ok (h : Inv g ν st u a w) {x : Ctx} (hx : CtxOk x a.tmps) {o : Operand} {p : Part} (hs : st.part x o = some p) : a.eval o = p.toV ν ∧ refsLt st.next p.refs := by
  simp only [St.part] at hs
  split at hs
  · rename_i p' hp; cases hs; exact St.sv_ok h hx hp
  · cases hs
theorem St.cell_ok (h : Inv g ν st u a w) {x : Ctx} (hx : CtxOk x a.tmps) {o : Operand} {c : Cell} (hs : st.cell x o = some c) : a.eval o = c.toV ν ∧ refsLt st.next c.refs := by
  simp only [St.cell] at hs
  split at hs
  · rename_i c' hp; cases hs
    obtain ⟨h1, h2⟩ := St.sv_ok h hx hp
    exact ⟨h1, by simpa [SV.refs, Part.refs, Part.cells] using h2⟩
  · cases hs
theorem St.parts_ok (h : Inv g ν st u a w) {x : Ctx} (hx : CtxOk x a.tmps) : ∀ {l : List Operand} {ps : List Part}, st.parts x l = some ps → l.map a.eval = ps.map (Part.toV ν) ∧ refsLt st.next (ps.flatMap Part.refs) := by
  intro l
  induction l with
  | nil => intro ps hs; simp only [St.parts] at hs; cases hs; exact ⟨rfl, fun r hr => by cases hr⟩
  | cons o l ih =>
    intro ps hs
    simp only [St.parts] at hs
    split at hs
    · rename_i p ps' h1 h2
      cases hs
      obtain ⟨e1, r1⟩ := St.part_ok h hx h1
      obtain ⟨e2, r2⟩ := ih h2
      refine ⟨by simp only [List.map_cons, e1, e2], ?_⟩
      intro r hr
      simp only [List.flatMap_cons, List.mem_append] at hr
      exact hr.elim (r1 r) (r2 r)
    · cases hs
theorem chain_ok (h : Inv g ν st u a w) : ∀ (n s : Nat) (b : Bool), a.tmps[s]? = some (.bool b) → CtxOk (st.chain n s b) a.tmps := by
  intro n
  induction n with
  | zero => intro s b _; exact CtxOk.nil _
  | succ n ih =>
    intro s b hs s2 b2 h2
    simp only [St.chain, Ctx.has, Bool.or_eq_true, Bool.and_eq_true, beq_iff_eq] at h2
    rcases h2 with ⟨rfl, rfl⟩ | h2
    · exact hs
    · split at h2
      · rename_i s' w' x hl
        split at h2
        · rename_i hsome
          obtain ⟨⟨b', y'⟩, hy⟩ := Option.isSome_iff_exists.1 hsome
          have := lookG_look hy
          rw [hl] at this; cases this
          refine ih s' w' ?_ s2 b2 h2
          refine Classical.byContradiction fun hn => ?_
          have := (h.grd s s' w' x hy).2 hn
          rw [hs] at this; cases this
        · cases h2
      · cases h2
end Go.Proofs.YtlmnfhhmgfnbpaaDoor.E
