/- THE ENGINE, part 6: quiet operations are sound. -/
import Derived.Test.YtlmnfhhmgfnbpaaDoorE4
namespace Go.Proofs.YtlmnfhhmgfnbpaaDoor.E
open Go
variable {P : Program} {g : Ghost} {ν : Nat → Nat} {st : St} {u : PH} {a : Act} {w : World}

def Good (P : Program) (st : St) (ν : Nat → Nat) (a : Act) (w : World) (o : Oper) (x : SV) : Prop :=
  (execOp a.eval o).run P w = .ok (.value (x.toV ν)) w ∧ refsLt st.next x.refs
theorem Cell.toV_v (ν : Nat → Nat) (x : Value) : Cell.toV ν (.v x) = x := rfl
theorem Cell.toV_lit (ν : Nat → Nat) (b : Bool) : Cell.toV ν (.lit b) = .bool b := rfl
theorem Cell.toV_ptr (ν : Nat → Nat) (b o : Nat) : Cell.toV ν (.ptr b o) = .pointer (some ⟨b, o, none⟩) := rfl
theorem Cell.toV_own (ν : Nat → Nat) (k o : Nat) : Cell.toV ν (.own k o) = .pointer (some ⟨ν k, o, none⟩) := rfl
theorem refs_c (c : Cell) : (SV.p (.c c)).refs = c.refs := by simp [SV.refs, Part.refs, Part.cells]
theorem runv {s : Sem Value} {v : Value} {w w' : World} (h : s.run P w = .ok v w') : (do pure (Next.value (← s)) : Sem Next).run P w = .ok (.value v) w' := by
  simp [Sem.run_bind, h]
theorem boolOf_ok {c : Cell} {q : Bool} (h : boolOf c = some q) (ν : Nat → Nat) : c.toV ν = .bool q ∧ c.refs = [] := by
  unfold boolOf at h
  split at h
  · cases h; exact ⟨rfl, rfl⟩
  · cases h; exact ⟨rfl, rfl⟩
  · cases h
theorem pickC_ok {t : Bool} {x y c : Cell} (h : pickC t x y = some c) (ν : Nat → Nat) : c.toV ν = (if t then x.toV ν else y.toV ν) ∧ c.refs = [] := by
  unfold pickC at h
  split at h
  · simp only [Option.map_eq_some_iff] at h
    obtain ⟨q, hq, rfl⟩ := h
    have := (boolOf_ok hq ν).1
    cases t <;> simp [Cell.toV_v, Cell.toV_lit, this, Cell.refs]
  · simp only [Option.map_eq_some_iff] at h
    obtain ⟨q, hq, rfl⟩ := h
    have := (boolOf_ok hq ν).1
    cases t <;> simp [Cell.toV_v, Cell.toV_lit, this, Cell.refs]
  · simp only [Option.map_eq_some_iff] at h
    obtain ⟨q, hq, rfl⟩ := h
    have := (boolOf_ok hq ν).1
    cases t <;> simp [Cell.toV_v, Cell.toV_lit, this, Cell.refs]
  · simp only [Option.map_eq_some_iff] at h
    obtain ⟨q, hq, rfl⟩ := h
    have := (boolOf_ok hq ν).1
    cases t <;> simp [Cell.toV_v, Cell.toV_lit, this, Cell.refs]
  · split at h
    · rename_i p q hp hq
      cases h
      have h1 := (boolOf_ok hp ν).1
      have h2 := (boolOf_ok hq ν).1
      cases t <;> simp [Cell.toV_v, Cell.toV_lit, h1, h2, Cell.refs]
    · cases h
theorem intC_ok {op : BinOp} {x y c : Cell} (h : intC op x y = some c) (t : TypeId) (x' y' : Operand) (ν : Nat → Nat) :
    (do eqGuard op t x' y' (x.toV ν) (y.toV ν); binOp op t (x.toV ν) (y.toV ν) : Sem Value).run P w = .ok (c.toV ν) w ∧ c.refs = [] := by
  unfold intC at h
  split at h
  · rename_i k a k' b
    split at h
    · rename_i hk; subst hk
      cases op <;> simp only [Option.some.injEq, reduceCtorEq] at h <;> subst h <;>
        exact ⟨by simp [eqGuard, binOp, Op.intArith, Op.intCmp, Op.intBits, Cell.toV, Sem.run_bind, Sem.run_pure], rfl⟩
    · cases h
  · cases h
theorem binC_ok {op : BinOp} {x y c : Cell} {p : Prop} (h : binC op x y = some (p, c)) (hp : p) (t : TypeId) (x' y' : Operand) (ν : Nat → Nat) :
    (do eqGuard op t x' y' (x.toV ν) (y.toV ν); binOp op t (x.toV ν) (y.toV ν) : Sem Value).run P w = .ok (c.toV ν) w ∧ c.refs = [] := by
  unfold binC at h
  split at h
  case h_10 => cases h
  case h_1 | h_2 =>
    split at h
    · rename_i hk; subst hk
      simp only [Option.some.injEq, Prod.mk.injEq] at h
      obtain ⟨rfl, rfl⟩ := h
      exact ⟨by simp [eqGuard, binOp, Op.intDiv, Cell.toV, Sem.run_bind, Sem.run_pure, hp], rfl⟩
    · cases h
  case h_3 | h_4 =>
    simp only [Option.some.injEq, Prod.mk.injEq] at h
    obtain ⟨rfl, rfl⟩ := h
    exact ⟨by simp [eqGuard, binOp, Op.shift, Cell.toV, Sem.run_bind, Sem.run_pure, Int.not_lt.2 hp], rfl⟩
  case h_5 =>
    simp only [Option.some.injEq, Prod.mk.injEq] at h
    obtain ⟨rfl, rfl⟩ := h
    rename_i a b
    have hm : ¬ (((a.size + b.size : Nat) : Int) > IntKind.i64.max) := by
      have : IntKind.i64.max = 9223372036854775807 := by decide
      omega
    exact ⟨by simp [eqGuard, binOp, Op.stringOp, Cell.toV, Sem.run_bind, Sem.run_pure, hm]; omega, rfl⟩
  all_goals
    simp only [Option.some.injEq, Prod.mk.injEq] at h
    obtain ⟨rfl, rfl⟩ := h
    exact ⟨by simp [eqGuard, binOp, Op.stringOp, Cell.toV, Sem.run_bind, Sem.run_pure], rfl⟩
theorem isIntT_ok {t : TypeId} (h : isIntT P t = true) : ∃ k, P.underlying t = some (.int k) := by
  unfold isIntT at h
  split at h
  · rename_i k hk; exact ⟨k, hk⟩
  · cases h
theorem run_underlying {t : TypeId} {d : TypeDesc} (h : P.underlying t = some d) (w : World) : (underlying t).run P w = .ok d w := by
  simp [underlying, Sem.run_bind, program, Sem.run, h]
theorem run_typeInfo {t : TypeId} {i : TypeInfo} (h : P.info? t = some i) (w : World) : (typeInfo t).run P w = .ok i w := by
  simp [typeInfo, Sem.run_bind, program, Sem.run, h]
theorem cellsOf_of {t : TypeId} {i : TypeInfo} (h : P.info? t = some i) : P.cellsOf t = i.size := by simp [Program.cellsOf, h]
theorem run_sizeOf {t : TypeId} {i : TypeInfo} (h : P.info? t = some i) (w : World) : (sizeOf t).run P w = .ok (P.cellsOf t) w := by
  rw [cellsOf_of h]; simp [sizeOf, Sem.run_bind, run_typeInfo h]
theorem info_of_underlying {t : TypeId} {d : TypeDesc} (h : P.underlying t = some d) : ∃ i, P.info? t = some i := by
  cases hi : P.info? t with
  | some i => exact ⟨i, rfl⟩
  | none => simp [Program.underlying, hi] at h
theorem run_sizeOf' {t : TypeId} {d : TypeDesc} (h : P.underlying t = some d) (w : World) : (sizeOf t).run P w = .ok (P.cellsOf t) w := by
  obtain ⟨i, hi⟩ := info_of_underlying h; exact run_sizeOf hi w
theorem isAggB_ok {t : TypeId} {b : Bool} (h : isAggB P t = some b) (w : World) : (isAgg t).run P w = .ok b w ∧ ∃ d, P.underlying t = some d := by
  unfold isAggB at h
  split at h
  · rename_i fs hu; cases h; exact ⟨by simp [isAgg, Sem.run_bind, run_underlying hu], _, hu⟩
  · rename_i x y hu; cases h; exact ⟨by simp [isAgg, Sem.run_bind, run_underlying hu], _, hu⟩
  · rename_i d h1 h2 hu
    cases h
    refine ⟨?_, _, hu⟩
    simp only [isAgg, Sem.run_bind, run_underlying hu, Result.andThen_ok]
    cases d <;> first | rfl | exact (h1 _ hu).elim | exact (h2 _ _ hu).elim
  · cases h
theorem addr_add (b o n : Nat) : (⟨b, o, none⟩ : Addr).add n = ⟨b, o + n, none⟩ := by
  unfold Addr.add; split
  · rename_i h; subst h; rfl
  · rfl
/-- a part of a row of cells -/
theorem takePart_ok {t : TypeId} {cs : List Cell} {off : Nat} {p : Part} (h : takePart P t cs off = some p) (ν : Nat → Nat) (w : World) :
    (Go.part t (cs.map (Cell.toV ν)).toArray off).run P w = .ok (p.toV ν) w ∧ ∀ r ∈ p.refs, r ∈ cs.flatMap Cell.refs := by
  unfold takePart at h
  split at h
  · rename_i hb
    obtain ⟨h1, d, hu⟩ := isAggB_ok hb w
    split at h
    · rename_i hl
      cases h
      refine ⟨?_, ?_⟩
      · simp only [Go.part, Sem.run_bind, h1, Result.andThen_ok, if_true, run_sizeOf' hu, Sem.run_pure]
        simp [Part.toV, List.map_take, List.map_drop]
      · intro r hr
        simp only [Part.refs, Part.cells, List.mem_flatMap] at hr ⊢
        obtain ⟨c, hc, hr⟩ := hr
        exact ⟨c, List.mem_of_mem_drop (List.mem_of_mem_take hc), hr⟩
    · cases h
  · rename_i hb
    obtain ⟨h1, d, hu⟩ := isAggB_ok hb w
    simp only [Option.map_eq_some_iff] at h
    obtain ⟨c, hc, rfl⟩ := h
    refine ⟨?_, ?_⟩
    · simp only [Go.part, Sem.run_bind, h1, Result.andThen_ok, Bool.false_eq_true, if_false]
      simp [hc, Part.toV]
    · intro r hr
      simp only [Part.refs, Part.cells, List.flatMap_cons, List.flatMap_nil, List.append_nil] at hr
      exact List.mem_flatMap.2 ⟨c, List.mem_of_getElem? hc, hr⟩
  · cases h
/-- reading a row of known cells -/
theorem run_load {b o : Nat} {v : Value} {w : World} (h : w.cell? ⟨b, o, none⟩ = some v) : (Go.load ⟨b, o, none⟩).run P w = .ok v w := by
  simp [Go.load, Sem.run, h]
theorem run_loadCellsFrom (b o : Nat) (w : World) : ∀ (vs : List Value) (i : Nat) (acc : Array Value), (∀ j v, vs[j]? = some v → w.cell? ⟨b, o + (i + j), none⟩ = some v) →
    (loadCellsFrom ⟨b, o, none⟩ i vs.length acc).run P w = .ok (acc ++ vs.toArray) w := by
  intro vs
  induction vs with
  | nil => intro i acc _; simp [loadCellsFrom]
  | cons v vs ih =>
    intro i acc h
    have h0 := h 0 v rfl
    simp only [List.length_cons, loadCellsFrom, Sem.run_bind, addr_add, run_load (P := P) (by simpa using h0), Result.andThen_ok]
    rw [ih (i + 1) (acc.push v) (fun j y hy => by have := h (j + 1) y hy; rw [show i + 1 + j = i + (j + 1) by omega]; exact this)]
    simp
theorem run_loadCells (b o : Nat) (w : World) (vs : List Value) (h : ∀ j v, vs[j]? = some v → w.cell? ⟨b, o + j, none⟩ = some v) :
    (loadCells ⟨b, o, none⟩ vs.length).run P w = .ok vs.toArray w := by
  unfold loadCells
  rw [run_loadCellsFrom b o w vs 0 #[] (by simpa using h)]; simp
theorem run_loadVar_agg {t : TypeId} {b o : Nat} {w : World} {vs : List Value} (ha : isAggB P t = some true) (hl : P.cellsOf t = vs.length) (h : ∀ j v, vs[j]? = some v → w.cell? ⟨b, o + j, none⟩ = some v) :
    (loadVar t ⟨b, o, none⟩).run P w = .ok (.agg vs.toArray) w := by
  obtain ⟨h1, d, hu⟩ := isAggB_ok ha w
  simp only [loadVar, Sem.run_bind, h1, Result.andThen_ok, if_true, run_sizeOf' hu, hl, run_loadCells b o w vs h, Sem.run_pure]
theorem run_loadVar_one {t : TypeId} {b o : Nat} {w : World} {v : Value} (ha : isAggB P t = some false) (h : w.cell? ⟨b, o, none⟩ = some v) :
    (loadVar t ⟨b, o, none⟩).run P w = .ok v w := by
  obtain ⟨h1, d, hu⟩ := isAggB_ok ha w
  simp only [loadVar, Sem.run_bind, h1, Result.andThen_ok, Bool.false_eq_true, if_false, run_load h]
theorem cell_of_block {w : World} {b o : Nat} {c : Array Value} {t : TypeId} {fr : Nat × Nat} {v : Value} (h : w.heap[b]? = some (.cells c t fr)) (hv : c[o]? = some v) : w.cell? ⟨b, o, none⟩ = some v := by
  simp [World.cell?, h, hv]
/-- reading one's own block -/
theorem own_load {t : TypeId} {k o : Nat} {ob : OB} {p : Part} (h : Inv g ν st u a w) (hk : look st.own k = some ob) (hp : takePart P t ob.cells o = some p) :
    (loadVar t ⟨ν k, o, none⟩).run P w = .ok (p.toV ν) w ∧ refsLt st.next p.refs := by
  obtain ⟨_, hh, _, _, hr⟩ := h.own k ob hk
  refine ⟨?_, fun r hr' => hr r ((takePart_ok hp ν w).2 r hr')⟩
  unfold takePart at hp
  split at hp
  · rename_i hb
    split at hp
    · rename_i hl
      cases hp
      rw [Part.toV]
      refine run_loadVar_agg hb ?_ ?_
      · simp; omega
      · intro j v hj
        refine cell_of_block hh ?_
        rw [List.getElem?_toArray]
        rw [List.map_take, List.map_drop] at hj
        rw [List.getElem?_take] at hj
        split at hj
        · rw [List.getElem?_drop] at hj; exact hj
        · cases hj
    · cases hp
  · rename_i hb
    simp only [Option.map_eq_some_iff] at hp
    obtain ⟨c, hc, rfl⟩ := hp
    refine run_loadVar_one hb (cell_of_block hh ?_)
    simp [hc, Part.toV]
  · cases hp
end Go.Proofs.YtlmnfhhmgfnbpaaDoor.E
