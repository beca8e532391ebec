/- THE ENGINE, part 8: what is reckoned without a look at old memory. -/
import Derived.Test.YtlmnfhhmgfnbpaaDoorE6
namespace Go.Proofs.YtlmnfhhmgfnbpaaDoor.E
open Go
variable {P : Program} {g : Ghost} {ν : Nat → Nat} {st : St} {u : PH} {a : Act} {w : World}
theorem tmp_of_eval {a : Act} {t : Nat} {b : Bool} (h : a.eval (.tmp t) = .bool b) : a.tmps[t]? = some (.bool b) := by
  simp only [Act.eval, Array.getD_eq_getD_getElem?] at h
  cases ht : a.tmps[t]? with
  | none => rw [ht] at h; simp [undef] at h
  | some v => rw [ht] at h; simpa using h
theorem refsOne {n : Nat} {c : Cell} (h : refsLt n c.refs) : refsLt n (SV.p (.c c)).refs := by rw [refs_c]; exact h
theorem offC_ok {c c' : Cell} {off : Nat} (h : offC c off = some c') (ν : Nat → Nat) : ∃ b o, c.toV ν = .pointer (some ⟨b, o, none⟩) ∧ c'.toV ν = .pointer (some ⟨b, o + off, none⟩) ∧ ∀ r ∈ c'.refs, r ∈ c.refs := by
  cases c <;> simp only [offC, Option.some.injEq, reduceCtorEq] at h <;> subst h
  · exact ⟨_, _, rfl, rfl, fun r hr => hr⟩
  · exact ⟨_, _, rfl, rfl, fun r hr => hr⟩
theorem fieldOf_ok {t : TypeId} {f off : Nat} {ft : TypeId} (h : fieldOf P t f = some (off, ft)) : ∃ fs fd, P.underlying t = some (.struct fs) ∧ fs[f]? = some fd ∧ fd.offset = off ∧ fd.type = ft := by
  unfold fieldOf at h
  split at h
  · rename_i fs hu
    simp only [Option.map_eq_some_iff] at h
    obtain ⟨fd, h1, h2⟩ := h
    cases h2
    exact ⟨fs, fd, hu, h1, rfl, rfl⟩
  · cases h
theorem zeroCells_ok {t : TypeId} {cs : List Cell} (h : zeroCells P t = some cs) (ν : Nat → Nat) (w : World) : ∃ v, (zeroValue t).run P w = .ok v w ∧ v.cells = (cs.map (Cell.toV ν)).toArray ∧ cs.flatMap Cell.refs = [] := by
  unfold zeroCells at h
  cases hi : P.info? t with
  | none => simp [hi] at h
  | some i =>
    simp only [hi, Option.bind_some] at h
    cases hz : i.zero with
    | none => simp [hz] at h
    | some v =>
      rw [hz] at h
      have hrun : (zeroValue t).run P w = .ok v w := by simp [zeroValue, Sem.run_bind, run_typeInfo hi, hz]
      refine ⟨v, hrun, ?_⟩
      cases v with
      | agg vs =>
        simp only at h
        obtain ⟨h1, h2⟩ := mapM_constCell_ok h ν
        exact ⟨by rw [h1]; rfl, h2⟩
      | _ =>
        simp only [Option.map_eq_some_iff] at h
        obtain ⟨c, hc, rfl⟩ := h
        obtain ⟨h1, h2⟩ := constCell_ok hc ν
        exact ⟨by simp [h1, Value.cells], by simp [h2]⟩
theorem run_mapM_list {α β : Type} (f : α → Sem β) (g : α → β) (w : World) : ∀ (l : List α), (∀ x ∈ l, (f x).run P w = .ok (g x) w) → (l.mapM f).run P w = .ok (l.map g) w := by
  intro l
  induction l with
  | nil => intro _; rfl
  | cons x l ih =>
    intro h
    simp only [List.mapM_cons, Sem.run_bind, h x (by simp), Result.andThen_ok, ih fun y hy => h y (by simp [hy]), List.map_cons]
    rfl
theorem run_mapM_array {α β : Type} (f : α → Sem β) (g : α → β) (w : World) (l : Array α) (h : ∀ x ∈ l.toList, (f x).run P w = .ok (g x) w) : (l.mapM f).run P w = .ok (l.map g) w := by
  rw [Array.mapM_eq_mapM_toList]
  have := run_mapM_list (P := P) f g w l.toList h
  show (do let x ← l.toList.mapM f; pure x.toArray : Sem (Array β)).run P w = _
  simp only [Sem.run_bind, this, Result.andThen_ok, Sem.run_pure]
  congr 1
  apply Array.ext'
  simp
theorem structOk_ok {t : TypeId} (h : structOk P t = true) : (∃ fs, P.underlying t = some (.struct fs) ∧ ∀ f ∈ fs.toList, ∃ i, P.info? f.type = some i) ∨ ∃ n e i, P.underlying t = some (.array n e) ∧ P.info? e = some i := by
  unfold structOk at h
  split at h
  · rename_i fs hu
    refine .inl ⟨fs, hu, fun f hf => ?_⟩
    have := List.all_eq_true.1 h f hf
    exact Option.isSome_iff_exists.1 this
  · rename_i n e hu
    obtain ⟨i, hi⟩ := Option.isSome_iff_exists.1 h
    exact .inr ⟨n, e, i, hu, hi⟩
  · cases h
theorem structPlace_ok {t : TypeId} {fs : Array Field} (hu : P.underlying t = some (.struct fs)) (hsz : ∀ f ∈ fs.toList, ∃ i, P.info? f.type = some i) (w : World) :
    (fs.mapM fun f => do pure (f.offset, ← sizeOf f.type) : Sem (Array (Nat × Nat))).run P w = .ok (fs.map fun f => (f.offset, P.cellsOf f.type)) w ∧
    (fun i => (fs.map fun f => (f.offset, P.cellsOf f.type))[i]?) = structPlace P t := by
  refine ⟨?_, ?_⟩
  · refine run_mapM_array _ _ w fs fun f hf => ?_
    obtain ⟨i, hi⟩ := hsz f hf
    simp only [Sem.run_bind, run_sizeOf hi, Result.andThen_ok, Sem.run_pure]
  · funext i
    simp only [structPlace, fieldOf, hu, Array.getElem?_map, Option.map_map]
    rfl
theorem run_build {t : TypeId} {z cs : List Cell} {ps : List (Nat × Part)} {n : Nat} (hok : structOk P t = true) (hz : zeroCells P t = some z) (hf : fillC P (structPlace P t) z ps = some cs) (hr : refsLt n (ps.flatMap fun y => y.2.refs))
    (parts : Array (Nat × Value)) (hp : parts.toList = ps.map fun y => (y.1, y.2.toV ν)) :
    (Instr.build t parts).run P w = .ok (.agg (cs.map (Cell.toV ν)).toArray) w ∧ refsLt n (cs.flatMap Cell.refs) := by
  obtain ⟨v, hv1, hv2, hv3⟩ := zeroCells_ok hz ν w
  obtain ⟨f1, f2, f3⟩ := fill_ok (P := P) (structPlace P t) ν ps z cs hf hr
  refine ⟨?_, fun r hr' => ?_⟩
  · rcases structOk_ok hok with ⟨fs, hu, hsz⟩ | ⟨m, e, i, hu, hi⟩
    · obtain ⟨g1, g2⟩ := structPlace_ok hu hsz w
      simp only [Instr.build, Sem.run_bind, hv1, Result.andThen_ok, run_underlying hu, g1, hp, hv2]
      simp only [g2, f1, Sem.run_pure]
    · have g2 : structPlace P t = fun i => some (i * P.cellsOf e, P.cellsOf e) := by
        funext i
        simp only [structPlace, hu]
      rw [g2] at f1
      simp only [Instr.build, Sem.run_bind, hv1, Result.andThen_ok, run_underlying hu, run_sizeOf hi, hp, hv2]
      simp only [f1, Sem.run_pure]
  · rcases f3 r hr' with h | h
    · rw [hv3] at h; cases h
    · exact hr r h

theorem run_exec_v {s : Sem Value} {v : Value} {w : World} (h : s.run P w = .ok v w) : Sem.run P (do pure (Next.value (← s))) w = .ok (.value v) w := by
  simp [Sem.run_bind, h]
theorem isNilP_ok {o : Operand} (h : isNilP o = true) : o = .const (.pointer none) := by
  unfold isNilP at h
  split at h
  · rfl
  · cases h
theorem isNilS_ok {o : Operand} (h : isNilS o = true) : ∃ n c, o = .const (.slice none n c) := by
  unfold isNilS at h
  split at h
  · exact ⟨_, _, rfl⟩
  · cases h
theorem run_equal_bool {t : TypeId} (hu : P.underlying t = some .bool) (x y : Bool) (w : World) : (Op.equal t (.bool x) (.bool y)).run P w = .ok (x == y) w := by
  unfold Op.equal Op.maxDepth
  rw [show (10000 : Nat) = 9999 + 1 from rfl, Op.equalIn]
  simp only [Sem.run_bind, run_underlying hu, Result.andThen_ok]
  rfl
theorem run_equal_ptr {t e : TypeId} (hu : P.underlying t = some (.pointer e)) (p q : Option Addr) (hpq : p = none ∨ q = none) (w : World) :
    (Op.equal t (.pointer p) (.pointer q)).run P w = .ok (p.isNone && q.isNone) w := by
  unfold Op.equal Op.maxDepth
  rw [show (10000 : Nat) = 9999 + 1 from rfl, Op.equalIn]
  simp only [Sem.run_bind, run_underlying hu, Result.andThen_ok]
  rcases hpq with rfl | rfl
  · cases q <;> rfl
  · cases p <;> rfl
theorem run_equal_slice {t e : TypeId} (hu : P.underlying t = some (.slice e)) (p q : Option Addr) (n k n' k' : Nat) (hpq : p = none ∨ q = none) (w : World) :
    (Op.equal t (.slice p n k) (.slice q n' k')).run P w = .ok (p.isNone && q.isNone) w := by
  unfold Op.equal Op.maxDepth
  rw [show (10000 : Nat) = 9999 + 1 from rfl, Op.equalIn]
  simp only [Sem.run_bind, run_underlying hu, Result.andThen_ok]
  rcases hpq with rfl | rfl
  · cases q <;> rfl
  · cases p <;> rfl
theorem run_eq {t : TypeId} {neg : Bool} {x y : Value} {b : Bool} (ox oy : Operand) (w : World) (hg : ∀ op, (eqGuard op t ox oy x y).run P w = .ok () w) (hb : ∀ op, (op = .eql ∨ op = .neq) → binOp op t x y = (if op = .neq then (do pure (.bool (!(← Op.equal t x y)))) else (do pure (.bool (← Op.equal t x y)))))
    (he : (Op.equal t x y).run P w = .ok b w) :
    (do eqGuard (if neg then .neq else .eql) t ox oy x y; binOp (if neg then .neq else .eql) t x y : Sem Value).run P w = .ok (.bool (if neg then !b else b)) w := by
  cases neg
  · simp only [Bool.false_eq_true, if_false, Sem.run_bind, hg, Result.andThen_ok, hb .eql (.inl rfl)]
    rw [if_neg (by simp)]
    simp only [Sem.run_bind, he, Result.andThen_ok, Sem.run_pure]
  · simp only [if_true, Sem.run_bind, hg, Result.andThen_ok, hb .neq (.inr rfl)]
    simp only [Sem.run_bind, he, Result.andThen_ok, Sem.run_pure]
theorem nilP_ok {neg : Bool} {c d : Cell} (h : nilP neg c = some d) (ν : Nat → Nat) : d.refs = [] ∧ ∃ p, c.toV ν = .pointer p ∧ d.toV ν = .bool (if neg then !p.isNone else p.isNone) := by
  unfold nilP at h
  split at h <;> cases h
  · exact ⟨rfl, _, rfl, rfl⟩
  · exact ⟨rfl, _, rfl, by cases neg <;> rfl⟩
  · exact ⟨rfl, _, rfl, by cases neg <;> rfl⟩
theorem nilS_ok {neg : Bool} {c d : Cell} (h : nilS neg c = some d) (ν : Nat → Nat) : d.refs = [] ∧ ∃ a n k, c.toV ν = .slice a n k ∧ d.toV ν = .bool (if neg then !a.isNone else a.isNone) := by
  unfold nilS at h
  split at h <;> cases h
  exact ⟨rfl, _, _, _, rfl, rfl⟩
theorem guard_plain (op : BinOp) (t : TypeId) (x y : Operand) (a b : Value) (h : ∀ c, a ≠ .agg c) (h' : a ≠ .nilIface) (w : World) : (eqGuard op t x y a b).run P w = .ok () w := by
  unfold eqGuard
  cases op <;> first | rfl | (cases a <;> first | rfl | exact absurd rfl (h _) | exact absurd rfl h')
theorem binOp_eq_ptr {t e : TypeId} (hu : P.underlying t = some (.pointer e)) (neg : Bool) (p q : Option Addr) (hpq : p = none ∨ q = none) (x y : Operand) (w : World) :
    (do eqGuard (if neg then .neq else .eql) t x y (.pointer p) (.pointer q); binOp (if neg then .neq else .eql) t (.pointer p) (.pointer q) : Sem Value).run P w =
      .ok (.bool (if neg then !(p.isNone && q.isNone) else (p.isNone && q.isNone))) w := by
  exact run_eq x y w (fun op => guard_plain op t x y _ _ (fun c e => by cases e) (fun e => by cases e) w) (fun op ho => by rcases ho with rfl | rfl <;> rfl) (run_equal_ptr hu p q hpq w)
theorem binOp_eq_slice {t e : TypeId} (hu : P.underlying t = some (.slice e)) (neg : Bool) (p q : Option Addr) (n k n' k' : Nat) (hpq : p = none ∨ q = none) (x y : Operand) (w : World) :
    (do eqGuard (if neg then .neq else .eql) t x y (.slice p n k) (.slice q n' k'); binOp (if neg then .neq else .eql) t (.slice p n k) (.slice q n' k') : Sem Value).run P w =
      .ok (.bool (if neg then !(p.isNone && q.isNone) else (p.isNone && q.isNone))) w := by
  exact run_eq x y w (fun op => guard_plain op t x y _ _ (fun c e => by cases e) (fun e => by cases e) w) (fun op ho => by rcases ho with rfl | rfl <;> rfl) (run_equal_slice hu p q n k n' k' hpq w)
theorem binOp_eq_bool {t : TypeId} (hu : P.underlying t = some .bool) (neg : Bool) (p q : Bool) (x y : Operand) (w : World) :
    (do eqGuard (if neg then .neq else .eql) t x y (.bool p) (.bool q); binOp (if neg then .neq else .eql) t (.bool p) (.bool q) : Sem Value).run P w = .ok (.bool (if neg then !(p == q) else p == q)) w :=
  run_eq x y w (fun op => guard_plain op t x y _ _ (fun c e => by cases e) (fun e => by cases e) w) (fun op ho => by rcases ho with rfl | rfl <;> rfl) (run_equal_bool hu p q w)
theorem binOp_eq_str (t : TypeId) (neg : Bool) (p q : ByteArray) (x y : Operand) (w : World) :
    (do eqGuard (if neg then .neq else .eql) t x y (.string p) (.string q); binOp (if neg then .neq else .eql) t (.string p) (.string q) : Sem Value).run P w = .ok (.bool (if neg then !(p.toList == q.toList) else p.toList == q.toList)) w := by
  simp only [Sem.run_bind, guard_plain _ t x y (.string p) (.string q) (fun c e => by cases e) (fun e => by cases e) w, Result.andThen_ok]
  cases neg <;> rfl
theorem eqC_ok (h : Inv g ν st u a w) {gx : Ctx} (hx : CtxOk gx a.tmps) {neg : Bool} {t : TypeId} {x y : Operand} {c : Cell} (hc : eqC P st gx neg t x y = some c) :
    (do eqGuard (if neg then .neq else .eql) t x y (a.eval x) (a.eval y); binOp (if neg then .neq else .eql) t (a.eval x) (a.eval y) : Sem Value).run P w = .ok (c.toV ν) w ∧ c.refs = [] := by
  unfold eqC at hc
  split at hc
  · rename_i ca cb hu ha hb
    unfold boolEqC at hc
    split at hc
    · rename_i p q hp hq
      cases hc
      rw [(St.cell_ok h hx ha).1, (St.cell_ok h hx hb).1, (boolOf_ok hp ν).1, (boolOf_ok hq ν).1]
      exact ⟨binOp_eq_bool hu neg p q x y w, rfl⟩
    · cases hc
  · rename_i ca cb hu ha hb
    unfold strEqC at hc
    split at hc
    · cases hc
      rw [(St.cell_ok h hx ha).1, (St.cell_ok h hx hb).1, Cell.toV_v, Cell.toV_v]
      exact ⟨binOp_eq_str t neg _ _ x y w, rfl⟩
    · cases hc
  · rename_i el ca cb hu ha hb
    have ea := (St.cell_ok h hx ha).1
    have eb := (St.cell_ok h hx hb).1
    split at hc
    · rename_i hn
      obtain ⟨r, p, e1, e2⟩ := nilP_ok hc ν
      refine ⟨?_, r⟩
      have hy := isNilP_ok hn
      subst hy
      rw [ea, e1, e2, show a.eval (.const (.pointer none)) = .pointer none from rfl, binOp_eq_ptr hu neg p none (.inr rfl)]; simp
    · split at hc
      · rename_i hn
        obtain ⟨r, p, e1, e2⟩ := nilP_ok hc ν
        refine ⟨?_, r⟩
        have hy := isNilP_ok hn
        subst hy
        rw [eb, e1, e2, show a.eval (.const (.pointer none)) = .pointer none from rfl, binOp_eq_ptr hu neg none p (.inl rfl)]; simp
      · cases hc
  · rename_i el ca cb hu ha hb
    have ea := (St.cell_ok h hx ha).1
    have eb := (St.cell_ok h hx hb).1
    split at hc
    · rename_i hn
      obtain ⟨r, p, n, k, e1, e2⟩ := nilS_ok hc ν
      refine ⟨?_, r⟩
      obtain ⟨n', k', hy⟩ := isNilS_ok hn
      subst hy
      rw [ea, e1, e2, show a.eval (.const (.slice none n' k')) = .slice none n' k' from rfl, binOp_eq_slice hu neg p none n k n' k' (.inr rfl)]; simp
    · split at hc
      · rename_i hn
        obtain ⟨r, p, n, k, e1, e2⟩ := nilS_ok hc ν
        refine ⟨?_, r⟩
        obtain ⟨n', k', hy⟩ := isNilS_ok hn
        subst hy
        rw [eb, e1, e2, show a.eval (.const (.slice none n' k')) = .slice none n' k' from rfl, binOp_eq_slice hu neg none p n' k' n k (.inl rfl)]; simp
      · cases hc
  · cases hc
set_option maxHeartbeats 1000000 in
theorem eqFl_ok {d m : Nat} (IH : ∀ {t : TypeId} {p q : Part} {r : Bool}, eqT P d t p q = some r → ∀ (ν : Nat → Nat) (w : World), (Op.equalIn (d + m) t (p.toV ν) (q.toV ν)).run P w = .ok r w) (xs ys : List Cell) (ν : Nat → Nat) (w : World) :
    ∀ (fs : List Field) {rs : List Bool}, eqFl P (eqT P d) xs ys fs = some rs → (Op.eqFields (d + m) (xs.map (Cell.toV ν)).toArray (ys.map (Cell.toV ν)).toArray fs).run P w = .ok (andL rs) w := by
  intro fs
  induction fs with
  | nil => intro rs h; simp only [eqFl] at h; cases h; rfl
  | cons f fs ih =>
    intro rs h
    simp only [eqFl] at h
    split at h
    · rename_i hn
      simp only [Op.eqFields, hn, ne_eq, not_true_eq_false, if_false]
      exact ih h
    · rename_i hn
      split at h
      · rename_i p q hp hq
        split at h
        · rename_i r rs' hr hrs
          cases h
          have e1 := (takePart_ok hp ν w).1
          have e2 := (takePart_ok hq ν w).1
          have e3 := IH hr ν w
          have e4 := ih hrs
          simp only [Op.eqFields, hn, ne_eq, not_false_eq_true, if_true, Sem.run_bind, e1, e2, e3, Result.andThen_ok]
          cases r
          · simp; cases rs' <;> rfl
          · simp only [Bool.not_true, Bool.false_eq_true, if_false, e4]
            cases rs' <;> simp [andL]
        · cases h
      · cases h
theorem eqT_ok (m : Nat) : ∀ (d : Nat) {t : TypeId} {p q : Part} {r : Bool}, eqT P d t p q = some r → ∀ (ν : Nat → Nat) (w : World), (Op.equalIn (d + m) t (p.toV ν) (q.toV ν)).run P w = .ok r w := by
  intro d
  induction d with
  | zero => intro t p q r h; cases h
  | succ d ih =>
    intro t p q r h ν w
    rw [show d + 1 + m = (d + m) + 1 by omega]
    simp only [eqT] at h
    split at h
    · rename_i x y hu
      split at h
      · rename_i a b ha hb
        cases h
        simp only [Part.toV, (boolOf_ok ha ν).1, (boolOf_ok hb ν).1]
        rw [Op.equalIn]
        simp only [Sem.run_bind, run_underlying hu, Result.andThen_ok]
        rfl
      · cases h
    · rename_i k a k' b hu
      split at h
      · rename_i hk
        cases h
        rw [Op.equalIn]
        simp only [Sem.run_bind, run_underlying hu, Result.andThen_ok, Part.toV, Cell.toV_v]
        rw [if_pos hk]; rfl
      · cases h
    · rename_i a b hu
      cases h
      rw [Op.equalIn]
      simp only [Sem.run_bind, run_underlying hu, Result.andThen_ok, Part.toV, Cell.toV_v, beq_toListBytes]
      rfl
    · rename_i fs xs ys hu
      split at h
      · cases h
      · rename_i hst
        simp only [Option.map_eq_some_iff] at h
        obtain ⟨rs, hrs, rfl⟩ := h
        have hf : P.fieldsOf t = fs := by simp [Program.fieldsOf, hu]
        simp only [Part.toV]
        rw [run_equalIn_struct w (d + m) t _ _ (by rw [hf]; exact hu) (by simpa using hst), hf]
        exact eqFl_ok (fun h => ih h) xs ys ν w fs.toList hrs
    · cases h
theorem structEq_ok {op : BinOp} {t : TypeId} (h : structEq P op t = true) : op = (if isNeq op then .neq else .eql) ∧ ∃ fs, P.underlying t = some (.struct fs) ∧ P.eqGuardType P.depth t = false := by
  unfold structEq at h
  simp only [Bool.and_eq_true] at h
  refine ⟨by cases op <;> first | rfl | (simp at h), ?_⟩
  have h := h.2
  split at h
  · rename_i fs hu
    exact ⟨fs, hu, by simpa using h⟩
  · cases h
theorem eqT_agg {t : TypeId} {fs : Array Field} (hu : P.underlying t = some (.struct fs)) {d : Nat} {p q : Part} {r : Bool} (h : eqT P d t p q = some r) : (∃ xs, p = .agg xs) ∧ ∃ ys, q = .agg ys := by
  cases d with
  | zero => cases h
  | succ d =>
    simp only [eqT] at h
    split at h
    all_goals first
      | (rename_i h'; rw [hu] at h'; cases h'; done)
      | skip
    · rename_i xs ys h'; exact ⟨⟨_, rfl⟩, _, rfl⟩
    · cases h
theorem run_structEq {op : BinOp} {t : TypeId} (h : structEq P op t = true) {p q : Part} {r : Bool} (hr : eqT P 8 t p q = some r) (ox oy : Operand) (ν : Nat → Nat) (w : World) :
    (do eqGuard op t ox oy (p.toV ν) (q.toV ν); binOp op t (p.toV ν) (q.toV ν) : Sem Value).run P w = .ok (.bool (if isNeq op then !r else r)) w := by
  obtain ⟨hop, fs, hu, hg⟩ := structEq_ok h
  obtain ⟨⟨xs, rfl⟩, ys, rfl⟩ := eqT_agg hu hr
  have he : (Op.equal t ((Part.agg xs).toV ν) ((Part.agg ys).toV ν)).run P w = .ok r w := eqT_ok (P := P) 9992 8 hr ν w
  rw [hop, show isNeq (if isNeq op = true then BinOp.neq else BinOp.eql) = isNeq op from by cases op <;> rfl]
  refine run_eq ox oy w (fun op => ?_) (fun op ho => by rcases ho with rfl | rfl <;> rfl) he
  simp only [Part.toV, eqGuard]
  split <;> simp [Sem.run_bind, run_program, hg]
theorem qEval_ok (h : Inv g ν st u a w) {x : Ctx} (hx : CtxOk x a.tmps) {o : Oper} {v : SV} (hq : qEval P st x o.op = some v) :
    (execOp a.eval o).run P w = .ok (.value (v.toV ν)) w ∧ refsLt st.next v.refs := by
  obtain ⟨dst, op, type, pos, after, guard⟩ := o
  cases op with
  | move y =>
    obtain ⟨e, r⟩ := St.sv_ok h hx hq
    exact ⟨by simp only [execOp, Sem.run_pure, e], r⟩
  | assign y =>
    obtain ⟨e, r⟩ := St.sv_ok h hx hq
    exact ⟨by simp only [execOp, Sem.run_pure, e], r⟩
  | pick c p q =>
    simp only [qEval] at hq
    split at hq
    · rename_i hc
      have e := (St.cell_ok h hx hc).1
      obtain ⟨e1, r⟩ := St.sv_ok h hx hq
      exact ⟨by simp [execOp, e, Cell.toV_lit, asBool, Sem.run_bind, e1], r⟩
    · rename_i hc
      have e := (St.cell_ok h hx hc).1
      obtain ⟨e1, r⟩ := St.sv_ok h hx hq
      exact ⟨by simp [execOp, e, Cell.toV_lit, asBool, Sem.run_bind, e1], r⟩
    · rename_i t hc
      have e := (St.cell_ok h hx hc).1
      rw [Cell.toV_v] at e
      split at hq
      · rename_i s hs
        split at hq
        · rename_i y z hy hz
          simp only [Option.map_eq_some_iff] at hq
          obtain ⟨c', hc', rfl⟩ := hq
          obtain ⟨hv, hr⟩ := pickC_ok hc' ν
          have hcs : c = .tmp s := by
            cases c <;> simp only [slotOf, Option.some.injEq, reduceCtorEq] at hs
            rw [hs]
          subst hcs
          have hts := tmp_of_eval e
          refine ⟨?_, by rw [refs_c, hr]; exact refsLt_nil _⟩
          simp only [execOp, e, asBool, Sem.run_bind, Sem.run_pure, Result.andThen_ok, SV.toV, Part.toV, hv]
          cases t with
          | true =>
            have := (St.sv_ok h (x := (s, true) :: x) (fun s' b' hb => by
              simp only [Ctx.has, Bool.or_eq_true, Bool.and_eq_true, beq_iff_eq] at hb
              rcases hb with ⟨rfl, rfl⟩ | hb
              · exact hts
              · exact hx s' b' hb) hy).1
            simp [this, SV.toV, Part.toV]
          | false =>
            have := (St.sv_ok h (x := (s, false) :: x) (fun s' b' hb => by
              simp only [Ctx.has, Bool.or_eq_true, Bool.and_eq_true, beq_iff_eq] at hb
              rcases hb with ⟨rfl, rfl⟩ | hb
              · exact hts
              · exact hx s' b' hb) hz).1
            simp [this, SV.toV, Part.toV]
        · cases hq
      · cases hq
    · cases hq
  | binOp op t y z yt =>
    simp only [qEval] at hq
    split at hq
    · split at hq
      · rename_i cy cz hy hz
        simp only [Option.map_eq_some_iff] at hq
        obtain ⟨c, hc, rfl⟩ := hq
        obtain ⟨e1, r⟩ := intC_ok (P := P) (w := w) hc t y z ν
        refine ⟨?_, by rw [refs_c, r]; exact refsLt_nil _⟩
        simp only [execOp, (St.cell_ok h hx hy).1, (St.cell_ok h hx hz).1]
        exact run_exec_v e1
      · cases hq
    · split at hq
      · rename_i hk
        simp only [Option.map_eq_some_iff] at hq
        obtain ⟨c, hc, rfl⟩ := hq
        obtain ⟨e1, r⟩ := eqC_ok (P := P) h hx hc
        refine ⟨?_, by rw [refs_c, r]; exact refsLt_nil _⟩
        have hop : op = (if isNeq op then .neq else .eql) := by
          cases op <;> first | rfl | (simp [eqKind] at hk)
        simp only [execOp]
        rw [hop]
        have : (isNeq (if isNeq op = true then BinOp.neq else BinOp.eql)) = isNeq op := by cases op <;> rfl
        exact run_exec_v e1
      · split at hq
        · rename_i hse
          split at hq
          · rename_i p q hp hq'
            simp only [Option.map_eq_some_iff] at hq
            obtain ⟨r, hr, rfl⟩ := hq
            refine ⟨?_, refsOne (refsLt_nil _)⟩
            simp only [execOp, (St.part_ok h hx hp).1, (St.part_ok h hx hq').1]
            exact run_exec_v (run_structEq hse hr _ _ ν w)
          · cases hq
        · cases hq
  | convert sty d y =>
    simp only [qEval] at hq
    split at hq
    · rename_i ds k k' n hs hd hc
      cases hq
      obtain ⟨e, r⟩ := St.cell_ok h hx hc
      rw [Cell.toV_v] at e
      refine ⟨?_, refsOne (refsLt_nil _)⟩
      simp only [execOp]
      refine run_exec_v ?_
      simp only [convert, Sem.run_bind, run_underlying hs, run_underlying hd, Result.andThen_ok, e]
      rfl
    · rename_i ds s' hs hd hc
      cases hq
      obtain ⟨e, r⟩ := St.cell_ok h hx hc
      rw [Cell.toV_v] at e
      refine ⟨?_, refsOne (refsLt_nil _)⟩
      simp only [execOp]
      refine run_exec_v ?_
      simp only [convert, Sem.run_bind, run_underlying hs, run_underlying hd, Result.andThen_ok, e]
      rfl
    · cases hq
  | unOp op t y =>
    cases op with
    | not =>
      simp only [qEval, Option.map_eq_some_iff, Option.bind_eq_some_iff] at hq
      obtain ⟨c, ⟨c0, h0, h1⟩, rfl⟩ := hq
      have e := (St.cell_ok h hx h0).1
      unfold notC at h1
      split at h1
      · cases h1
        rw [Cell.toV_lit] at e
        exact ⟨by simp [execOp, e, Op.unary, Sem.run_bind, SV.toV, Part.toV, Cell.toV_lit], refsOne (refsLt_nil _)⟩
      · cases h1
        rw [Cell.toV_v] at e
        exact ⟨by simp [execOp, e, Op.unary, Sem.run_bind, SV.toV, Part.toV, Cell.toV_v], refsOne (refsLt_nil _)⟩
      · cases h1
    | neg =>
      simp only [qEval, Option.map_eq_some_iff, Option.bind_eq_some_iff] at hq
      obtain ⟨c, ⟨c0, h0, h1⟩, rfl⟩ := hq
      have e := (St.cell_ok h hx h0).1
      unfold negC at h1
      split at h1
      · cases h1
        rw [Cell.toV_v] at e
        exact ⟨by simp [execOp, e, Op.unary, Op.intArith, Sem.run_bind, SV.toV, Part.toV, Cell.toV_v], refsOne (refsLt_nil _)⟩
      · cases h1
    | _ => simp only [qEval] at hq; cases hq
  | fieldAddr t y f =>
    simp only [qEval] at hq
    split at hq
    · rename_i off ft c hf hc
      split at hq
      · cases hq
      · rename_i hne
        simp only [Option.map_eq_some_iff] at hq
        obtain ⟨c', hc', rfl⟩ := hq
        obtain ⟨e, r⟩ := St.cell_ok h hx hc
        obtain ⟨b, o, h1, h2, h3⟩ := offC_ok hc' ν
        obtain ⟨fs, fd, hu, hfd, ho, ht⟩ := fieldOf_ok hf
        refine ⟨?_, refsOne fun r' hr => r r' (h3 r' hr)⟩
        have hinfo : ∃ i, P.info? fd.type = some i := by
          cases hi : P.info? fd.type with
          | some i => exact ⟨i, rfl⟩
          | none => exact absurd (by rw [← ht]; simp [Program.cellsOf, hi]) hne
        obtain ⟨i, hi⟩ := hinfo
        simp only [execOp]
        refine run_exec_v ?_
        subst ht; subst ho
        simp only [Instr.fieldAt, Sem.run_bind, run_underlying hu, Result.andThen_ok, hfd, e, h1, Instr.sureAddr, Sem.run_pure, fieldPlace, run_sizeOf hi, if_neg hne, addr_add, SV.toV, Part.toV, h2]
    · cases hq
  | field t y f =>
    simp only [qEval] at hq
    split at hq
    · rename_i off ft cs hf hc
      simp only [Option.map_eq_some_iff] at hq
      obtain ⟨p, hp, rfl⟩ := hq
      obtain ⟨e, r⟩ := St.part_ok h hx hc
      obtain ⟨fs, fd, hu, hfd, ho, ht⟩ := fieldOf_ok hf
      obtain ⟨t1, t2⟩ := takePart_ok hp ν w
      refine ⟨?_, fun r' hr => r r' (t2 r' hr)⟩
      simp only [execOp]
      refine run_exec_v ?_
      simp only [Instr.field, Sem.run_bind, run_underlying hu, Result.andThen_ok, hfd, e, Part.toV, asAgg, Sem.run_pure, ho, ht, t1, SV.toV]
    · cases hq
  | extract y i =>
    simp only [qEval] at hq
    split at hq
    · rename_i ps hc
      simp only [Option.map_eq_some_iff] at hq
      obtain ⟨p, hp, rfl⟩ := hq
      obtain ⟨e, r⟩ := St.sv_ok h hx hc
      refine ⟨?_, fun r' hr => r r' (List.mem_flatMap.2 ⟨p, List.mem_of_getElem? hp, hr⟩)⟩
      simp only [execOp]
      refine run_exec_v ?_
      simp [Instr.extract, e, SV.toV, hp]
    · cases hq
  | load t y =>
    simp only [qEval] at hq
    split at hq
    · rename_i k o hc
      split at hq
      · rename_i ob hob
        simp only [Option.map_eq_some_iff] at hq
        obtain ⟨p, hp, rfl⟩ := hq
        obtain ⟨e, r⟩ := St.cell_ok h hx hc
        obtain ⟨l1, l2⟩ := own_load h hob hp
        refine ⟨?_, l2⟩
        simp only [execOp]
        refine run_exec_v ?_
        simp only [Instr.loadAt, e, Cell.toV_own, Instr.sureAddr, Sem.run_bind, Sem.run_pure, Result.andThen_ok, l1, SV.toV]
      · cases hq
    · cases hq
  | build t parts =>
    simp only [qEval] at hq
    split at hq
    · rename_i z ps hz hps
      split at hq
      · rename_i hok
        simp only [Option.map_eq_some_iff] at hq
        obtain ⟨cs, hcs, rfl⟩ := hq
        obtain ⟨n1, n2⟩ := numbered_ok h hx hps
        obtain ⟨b1, b2⟩ := run_build (ν := ν) (w := w) hok hz hcs n2 (parts.map fun y => (y.1, a.eval y.2)) (by simpa using n1)
        refine ⟨?_, b2⟩
        simp only [execOp]
        exact run_exec_v b1
      · cases hq
    · cases hq
  | makeFunc fn first caps =>
    cases fn with
    | func f =>
      simp only [qEval] at hq
      split at hq
      · rename_i hs
        split at hq
        · rename_i cs hcs
          simp only [Option.map_eq_some_iff] at hq
          obtain ⟨as, has, rfl⟩ := hq
          obtain ⟨c1, c2⟩ := cellList_ok h hx hcs
          obtain ⟨a1, a2⟩ := atoms_ok has ν
          refine ⟨?_, refsOne fun r hr => c2 r (a2 r hr)⟩
          simp only [execOp]
          refine run_exec_v ?_
          have hf : first = #[] := by simpa using hs
          subst hf
          have hcap : caps.map a.eval = (as.map (Atom.toV ν)).toArray := by rw [a1, ← c1]; apply Array.ext'; simp
          simp [Instr.makeFunc, Sem.run_pure, SV.toV, Part.toV, Cell.toV, hcap]
        · cases hq
      · cases hq
    | _ => simp only [qEval] at hq; cases hq
  | call c =>
    obtain ⟨callee, args, ats⟩ := c
    cases callee with
    | builtin b =>
      cases b with
      | len =>
        simp only [qEval] at hq
        split at hq
        · rename_i y t hy ht
          have hargs : args = #[y] := Array.ext' hy
          have hats : ats = #[t] := Array.ext' ht
          subst hargs; subst hats
          split at hq
          · rename_i e' n c hu hc
            cases hq
            obtain ⟨e, r⟩ := St.cell_ok h hx hc
            refine ⟨?_, refsOne (refsLt_nil _)⟩
            simp [execOp, resolve, invoke, builtin, Builtin.len_, Sem.run_bind, run_underlying hu, e, Cell.toV_v, SV.toV, Part.toV, goInt]
          · rename_i s hu hc
            cases hq
            obtain ⟨e, r⟩ := St.cell_ok h hx hc
            refine ⟨?_, refsOne (refsLt_nil _)⟩
            simp [execOp, resolve, invoke, builtin, Builtin.len_, Sem.run_bind, run_underlying hu, e, Cell.toV_v, SV.toV, Part.toV, goInt]
          · cases hq
        · cases hq
      | _ => simp only [qEval] at hq; cases hq
    | _ => simp only [qEval] at hq; cases hq
  | _ => simp only [qEval] at hq; cases hq
end Go.Proofs.YtlmnfhhmgfnbpaaDoor.E
