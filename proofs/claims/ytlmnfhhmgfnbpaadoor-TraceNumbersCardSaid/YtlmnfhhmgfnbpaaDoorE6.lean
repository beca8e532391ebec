/- THE ENGINE, part 7: quiet operations are sound. -/
import Derived.Test.YtlmnfhhmgfnbpaaDoorE5
namespace Go.Proofs.YtlmnfhhmgfnbpaaDoor.E
open Go
variable {P : Program} {g : Ghost} {ν : Nat → Nat} {st : St} {u : PH} {a : Act} {w : World}
theorem capOf_ok {c : Cell} {x : Atom} (h : capOf c = some x) (ν : Nat → Nat) : x.toV ν = c.toV ν ∧ ∀ r ∈ x.refs, r ∈ c.refs := by
  cases c <;> simp only [capOf, Option.some.injEq, reduceCtorEq] at h <;> subst h <;> exact ⟨rfl, fun r hr => by first | exact hr | (simp [Atom.refs] at hr)⟩
theorem atoms_ok : ∀ {cs : List Cell} {as : List Atom}, atoms cs = some as → ∀ (ν : Nat → Nat), as.map (Atom.toV ν) = cs.map (Cell.toV ν) ∧ ∀ r ∈ as.flatMap Atom.refs, r ∈ cs.flatMap Cell.refs := by
  intro cs
  induction cs with
  | nil => intro as h ν; simp only [atoms] at h; cases h; exact ⟨rfl, fun r hr => hr⟩
  | cons c cs ih =>
    intro as h ν
    simp only [atoms] at h
    split at h
    · rename_i x as' h1 h2
      cases h
      obtain ⟨e1, r1⟩ := capOf_ok h1 ν
      obtain ⟨e2, r2⟩ := ih h2 ν
      refine ⟨by simp only [List.map_cons, e1, e2], fun r hr => ?_⟩
      simp only [List.flatMap_cons, List.mem_append] at hr ⊢
      exact hr.imp (r1 r) (r2 r)
    · cases h
theorem cellList_ok (h : Inv g ν st u a w) {x : Ctx} (hx : CtxOk x a.tmps) : ∀ {l : List Operand} {cs : List Cell}, st.cellList x l = some cs → l.map a.eval = cs.map (Cell.toV ν) ∧ refsLt st.next (cs.flatMap Cell.refs) := by
  intro l
  induction l with
  | nil => intro cs hs; simp only [St.cellList] at hs; cases hs; exact ⟨rfl, fun r hr => by cases hr⟩
  | cons o l ih =>
    intro cs hs
    simp only [St.cellList] at hs
    split at hs
    · rename_i p ps' h1 h2
      cases hs
      obtain ⟨e1, r1⟩ := St.cell_ok h hx h1
      obtain ⟨e2, r2⟩ := ih h2
      refine ⟨by simp only [List.map_cons, e1, e2], fun r hr => ?_⟩
      simp only [List.flatMap_cons, List.mem_append] at hr
      exact hr.elim (r1 r) (r2 r)
    · cases hs
theorem numbered_ok (h : Inv g ν st u a w) {x : Ctx} (hx : CtxOk x a.tmps) : ∀ {l : List (Nat × Operand)} {ps : List (Nat × Part)}, st.numbered x l = some ps →
    l.map (fun y => (y.1, a.eval y.2)) = ps.map (fun y => (y.1, y.2.toV ν)) ∧ refsLt st.next (ps.flatMap fun y => y.2.refs) := by
  intro l
  induction l with
  | nil => intro cs hs; simp only [St.numbered] at hs; cases hs; exact ⟨rfl, fun r hr => by cases hr⟩
  | cons o l ih =>
    intro cs hs
    obtain ⟨i, o⟩ := o
    simp only [St.numbered] at hs
    split at hs
    · rename_i p ps' h1 h2
      cases hs
      obtain ⟨e1, r1⟩ := St.part_ok h hx h1
      obtain ⟨e2, r2⟩ := ih h2
      refine ⟨by simp only [List.map_cons, e1, e2], fun r hr => ?_⟩
      simp only [List.flatMap_cons, List.mem_append] at hr
      exact hr.elim (r1 r) (r2 r)
    · cases hs
theorem one_cells {n : Nat} {c : Cell} (h : refsLt n c.refs) (ν : Nat → Nat) : (c.toV ν).cells = #[c.toV ν] := by
  cases c with
  | v x => cases x <;> first | rfl | (exact absurd (h 0 (by simp [Cell.refs])).1 (by omega))
  | vv x => obtain ⟨x, hx⟩ := x; cases x <;> first | rfl | (simp [notAgg] at hx)
  | _ => rfl
theorem part_cells {n : Nat} {p : Part} (h : refsLt n p.refs) (ν : Nat → Nat) : (p.toV ν).cells = (p.cells.map (Cell.toV ν)).toArray := by
  cases p with
  | c x => exact one_cells (n := n) (by simpa [Part.refs, Part.cells] using h) ν
  | agg xs => rfl
theorem size_of_cells (P : Program) (p : Part) (ν : Nat → Nat) : (p.cells.map (Cell.toV ν)).toArray.size = p.cells.length := by simp
/-- setting cells one by one -/
theorem zipIdx_foldl (vs : List Value) (cells : Array Value) (off : Nat) : ∀ k, (vs.toArray.zipIdx k).foldl (fun cs x => cs.setIfInBounds (off + x.2) x.1) cells = setAll cells (off + k) vs := by
  intro k
  rw [← Array.foldl_toList]
  have : (vs.toArray.zipIdx k).toList = vs.zipIdx k := by simp
  rw [this]
  clear this
  induction vs generalizing cells k with
  | nil => rfl
  | cons v vs ih =>
    simp only [List.zipIdx_cons, List.foldl_cons, setAll]
    rw [ih]; rfl
theorem setAll_cells (cs : List Cell) (ν : Nat → Nat) : ∀ (ps : List Cell) (off : Nat), setAll (cs.map (Cell.toV ν)).toArray off (ps.map (Cell.toV ν)) = ((setCells cs off ps).map (Cell.toV ν)).toArray := by
  intro ps
  induction ps generalizing cs with
  | nil => intro off; rfl
  | cons p ps ih =>
    intro off
    simp only [List.map_cons, setAll, setCells]
    rw [← ih]
    congr 1
    apply Array.ext'
    simp [List.map_set]
theorem setCells_length (cs : List Cell) (off : Nat) (ps : List Cell) : (setCells cs off ps).length = cs.length := by
  induction ps generalizing cs off with
  | nil => rfl
  | cons p ps ih => simp [setCells, ih]
theorem setCells_refs (cs : List Cell) (off : Nat) (ps : List Cell) : ∀ r ∈ (setCells cs off ps).flatMap Cell.refs, r ∈ cs.flatMap Cell.refs ∨ r ∈ ps.flatMap Cell.refs := by
  induction ps generalizing cs off with
  | nil => intro r hr; exact .inl hr
  | cons p ps ih =>
    intro r hr
    rcases ih _ _ r hr with h | h
    · simp only [List.mem_flatMap] at h
      obtain ⟨c, hc, hr'⟩ := h
      rcases List.mem_or_eq_of_mem_set hc with h | h
      · exact .inl (List.mem_flatMap.2 ⟨c, h, hr'⟩)
      · subst h; exact .inr (by simp only [List.flatMap_cons, List.mem_append]; exact .inl hr')
    · exact .inr (by simp only [List.flatMap_cons, List.mem_append]; exact .inr h)
theorem fill_ok {n : Nat} (place : Nat → Option (Nat × Nat)) (ν : Nat → Nat) : ∀ (ps : List (Nat × Part)) (cs cs' : List Cell), fillC P place cs ps = some cs' → refsLt n (ps.flatMap fun y => y.2.refs) →
    Instr.fill place (cs.map (Cell.toV ν)).toArray (ps.map fun y => (y.1, y.2.toV ν)) = some (cs'.map (Cell.toV ν)).toArray ∧ cs'.length = cs.length ∧
    ∀ r ∈ cs'.flatMap Cell.refs, r ∈ cs.flatMap Cell.refs ∨ r ∈ ps.flatMap fun y => y.2.refs := by
  intro ps
  induction ps with
  | nil => intro cs cs' h _; simp only [fillC] at h; cases h; exact ⟨rfl, rfl, fun r hr => .inl hr⟩
  | cons p ps ih =>
    intro cs cs' h hr
    obtain ⟨i, p⟩ := p
    have hr1 : refsLt n p.refs := fun r h => hr r (by simp only [List.flatMap_cons, List.mem_append]; exact .inl h)
    have hr2 : refsLt n (ps.flatMap fun y => y.2.refs) := fun r h => hr r (by simp only [List.flatMap_cons, List.mem_append]; exact .inr h)
    simp only [fillC] at h
    simp only [List.map_cons, Instr.fill]
    split at h
    · rename_i off size hp
      split at h
      · rename_i hs
        obtain ⟨hs1, hs2⟩ := hs
        obtain ⟨g1, g2, g3⟩ := ih _ _ h hr2
        simp only [hp]
        rw [part_cells hr1 ν, size_of_cells P]
        rw [if_neg (by simp; omega)]
        rw [show (fun (cs : Array Value) (x : Value × Nat) => match x with | (c, j) => cs.setIfInBounds (off + j) c) = fun cs x => cs.setIfInBounds (off + x.2) x.1 from rfl]
        rw [zipIdx_foldl, Nat.add_zero, setAll_cells]
        refine ⟨g1, by rw [g2, setCells_length], fun r hr => ?_⟩
        rcases g3 r hr with h | h
        · rcases setCells_refs _ _ _ r h with h | h
          · exact .inl h
          · exact .inr (by simp only [List.flatMap_cons, List.mem_append]; exact .inl h)
        · exact .inr (by simp only [List.flatMap_cons, List.mem_append]; exact .inr h)
      · cases h
    · cases h
end Go.Proofs.YtlmnfhhmgfnbpaaDoor.E
