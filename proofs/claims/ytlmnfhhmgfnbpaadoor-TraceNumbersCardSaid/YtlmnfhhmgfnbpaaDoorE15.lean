/- THE ENGINE, part 16: a region that draws its order is sound. -/
import Derived.Test.YtlmnfhhmgfnbpaaDoorE14
namespace Go.Proofs.YtlmnfhhmgfnbpaaDoor.E
open Go
variable {P : Program} {g : Ghost} {ν : Nat → Nat} {st : St} {u : PH} {a : Act} {w : World}
/-- the state, read in another world, in which one's own blocks and what is known lie as they do -/
theorem Inv.inWorld (h : Inv g ν st u a w) {u' : PH} {own' : List (Nat × OB)} {w' : World} (hs : Sub u' w') (ho : ∀ k ob, look own' k = some ob → look st.own k = some ob) (hw : ∀ k ob, look own' k = some ob → w'.heap[ν k]? = some (obj ν ob) ∧ u' (ν k) = none) :
    Inv { u0 := u', w0 := { w' with heap := #[] }, m := 0, ref := fun _ => none } ν { st with own := own' } u' { a with defers := [] } w' := by
  refine ⟨hs, ⟨rfl, rfl, rfl, Nat.zero_le _, fun b hb _ => by simp at hb⟩, h.slots, h.grd, ?_, ?_, ?_, h.size, MarksOk.nil _ _ _, Nat.zero_le _⟩
  · intro k ob hk
    obtain ⟨g1, g2, g3, g4, g5⟩ := h.own k ob (ho k ob hk)
    exact ⟨g1, (hw k ob hk).1, (hw k ob hk).2, Nat.zero_le _, g5⟩
  · exact fun k k' o1 o2 h1 h2 e => h.inj k k' o1 o2 (ho k o1 h1) (ho k' o2 h2) e
  · intro k ob hk; exact absurd hk (Nat.not_lt_zero _)
theorem sub_none (w : World) : Sub (fun _ => none) w := fun _ _ h => by cases h
/-- what is reckoned by a pure operation hangs on no memory -/
theorem qEval_pure {x : Ctx} {op : Op} (hp : pureK P op = true) : qEval P { st with own := [] } x op = qEval P st x op := by
  have hnum : ∀ l, St.numbered { st with own := [] } x l = St.numbered st x l := by
    intro l
    induction l with
    | nil => rfl
    | cons p l ih => obtain ⟨i, y⟩ := p; simp only [St.numbered, ih]; rfl
  have hcl : ∀ l, St.cellList { st with own := [] } x l = St.cellList st x l := by
    intro l
    induction l with
    | nil => rfl
    | cons p l ih => simp only [St.cellList, ih]; rfl
  cases op with
  | build t parts => simp only [qEval, hnum]
  | makeFunc fn f c => cases fn <;> simp only [qEval, hcl]
  | load t y => cases hp
  | unOp op t y => cases op <;> rfl
  | call c =>
    obtain ⟨callee, args, ats⟩ := c
    cases callee with
    | builtin b => cases b <;> rfl
    | _ => rfl
  | _ => rfl
theorem run_pure_op (h : Inv g ν st u a w) {x : Ctx} (hx : CtxOk x a.tmps) {o : Oper} {v : SV} (hp : pureK P o.op = true) (hq : qEval P st x o.op = some v) (w' : World) :
    (execOp a.eval o).run P w' = .ok (.value (v.toV ν)) w' := by
  have hI := h.inWorld (u' := fun _ => none) (own' := []) (w' := w') (sub_none w') (fun k ob hk => by cases hk) (fun k ob hk => by cases hk)
  exact (qEval_ok (P := P) hI hx (by rw [qEval_pure hp]; exact hq)).1
theorem ext_none {u v : PH} (h : Ext u v) {b : Nat} (hb : v b = none) : u b = none := by
  cases hu : u b with
  | none => rfl
  | some o => rw [h b o hu] at hb; cases hb
theorem take_core {K : St → PH → Prop} {o : Oper} {S : World → Prop} {us : PH} (hus : isLoad o.op = true → Ext us u) (hq : (pureK P o.op || isLoad o.op) = true) (h : Inv g ν st u a w)
    (hS : isLoad o.op = true → ∀ w', S w' → Sub us w' ∧ ∀ k ob, look st.own k = some ob → w'.heap[ν k]? = some (obj ν ob)) (hv : takeStep P o st us K) :
    ∃ x, (∀ w', (isLoad o.op = true → S w') → (execOp a.eval o).run P w' = .ok (.value (x.toV ν)) w') ∧ refsLt st.next x.refs ∧ K (st.put o.dst x) us := by
  unfold takeStep at hv
  split at hv
  · rename_i x hx
    refine ⟨x, fun w' hw' => ?_, (qEval_ok h (CtxOk.nil _) hx).2, hv⟩
    cases hp : pureK P o.op with
    | true => exact run_pure_op h (CtxOk.nil _) hp hx w'
    | false =>
      rw [hp, Bool.false_or] at hq
      obtain ⟨s1, s2⟩ := hS hq w' (hw' hq)
      have hI := h.inWorld (own' := st.own) s1 (fun k ob hk => hk) (fun k ob hk => ⟨s2 k ob hk, ext_none (hus hq) (h.own k ob hk).2.2.1⟩)
      exact (qEval_ok (P := P) hI (CtxOk.nil _) hx).1
  · split at hv
    · -- nilCheck
      rename_i y ho
      simp only [opVC, ho] at hv
      split at hv
      · rename_i p hc
        obtain ⟨b, off, rfl, hk⟩ := hv
        have e := (St.cell_ok h (CtxOk.nil _) hc).1
        exact ⟨.p (.c (.ptr b off)), fun w' _ => by simp only [execOp, ho, e, Cell.toV_v, Sem.run_pure]; rfl, refsLt_nil _, hk⟩
      · rename_i k off hc
        obtain ⟨e, r⟩ := St.cell_ok h (CtxOk.nil _) hc
        exact ⟨.p (.c (.own k off)), fun w' _ => by simp only [execOp, ho, e, Cell.toV_own, Sem.run_pure]; rfl, refsOne r, hv⟩
      · rename_i b off hc
        have e := (St.cell_ok h (CtxOk.nil _) hc).1
        exact ⟨.p (.c (.ptr b off)), fun w' _ => by simp only [execOp, ho, e, Cell.toV_ptr, Sem.run_pure]; rfl, refsLt_nil _, hv⟩
      · exact hv.elim
    · -- load
      rename_i t y ho
      have hl : isLoad o.op = true := by rw [ho]; rfl
      simp only [opVC, ho] at hv
      split at hv
      · rename_i b off s hc _ ha
        have e := (St.cell_ok h (CtxOk.nil _) hc).1
        obtain ⟨c, hr, _, h1, h2⟩ := exSh_ok hv
        refine ⟨.p (.c c), fun w' hw' => ?_, refsOne (refsLt_of_nil hr), h2⟩
        obtain ⟨s1, _⟩ := hS hl w' (hw' hl)
        simp only [execOp, ho]
        refine runv ?_
        simp only [Instr.loadAt, e, Cell.toV_ptr, Instr.sureAddr, Sem.run_bind, Sem.run_pure, Result.andThen_ok, run_loadVar_one ha (cell_ok' h1 s1)]
        rw [← Cell.out_eq ν c hr]; rfl
      · rename_i b off l hc _ ha
        have e := (St.cell_ok h (CtxOk.nil _) hc).1
        split at hv
        · rename_i hlen0
          obtain ⟨cs, hr, hlen, h1, h2⟩ := exShs_ok hv
          refine ⟨.p (.agg cs), fun w' hw' => ?_, refsLt_of_nil hr, h2⟩
          obtain ⟨s1, _⟩ := hS hl w' (hw' hl)
          simp only [execOp, ho]
          refine runv ?_
          simp only [Instr.loadAt, e, Cell.toV_ptr, Instr.sureAddr, Sem.run_bind, Sem.run_pure, Result.andThen_ok]
          rw [run_loadVar_agg (vs := cs.map Cell.out) ha (by rw [hlen0, List.length_map, hlen]) fun j v hj => cell_ok' (h1 j v hj) s1, ← cells_out_eq ν cs hr]
          rfl
        · exact hv.elim
      · exact hv.elim
    · -- indexAddr
      rename_i t y i ho
      simp only [opVC, ho] at hv
      split at hv
      · rename_i el a' len cap k n hu hx hi
        split at hv
        case isFalse => exact hv.elim
        rename_i hsz
        obtain ⟨b, off, rfl, hn, hk⟩ := hv
        have e1 := (St.cell_ok h (CtxOk.nil _) hx).1
        have e2 := (St.cell_ok h (CtxOk.nil _) hi).1
        rw [Cell.toV_v] at e1 e2
        refine ⟨.p (.c (.ptr b (off + n.toNat * P.cellsOf el))), fun w' _ => ?_, refsLt_nil _, hk⟩
        simp only [execOp, ho]
        refine runv ?_
        obtain ⟨i, hi⟩ := Option.isSome_iff_exists.1 hsz
        simp only [Instr.indexAt, e1, e2, asIntOf, Sem.run_bind, Sem.run_pure, Result.andThen_ok, run_underlying hu]
        simp [hn, run_sizeOf hi, addr_add, Sem.run_bind, SV.toV, Part.toV, Cell.toV_ptr]
      · rename_i len el b off k n hu hx hi
        split at hv
        case isFalse => exact hv.elim
        rename_i hsz
        obtain ⟨hn, hk⟩ := hv
        have e1 := (St.cell_ok h (CtxOk.nil _) hx).1
        have e2 := (St.cell_ok h (CtxOk.nil _) hi).1
        rw [Cell.toV_v] at e2
        rw [Cell.toV_ptr] at e1
        refine ⟨.p (.c (.ptr b (off + n.toNat * P.cellsOf el))), fun w' _ => ?_, refsLt_nil _, hk⟩
        simp only [execOp, ho]
        refine runv ?_
        obtain ⟨i, hi⟩ := Option.isSome_iff_exists.1 hsz
        simp only [Instr.indexAt, e1, e2, asIntOf, Sem.run_bind, Sem.run_pure, Result.andThen_ok, run_underlying hu, Instr.sureAddr]
        simp [hn, run_sizeOf hi, addr_add, Sem.run_bind, SV.toV, Part.toV, Cell.toV_ptr]
      · exact hv.elim
    · -- a part of a slice
      rename_i t y lo hi mx ho
      split at hv
      · rename_i hp
        rw [ho] at hp
        cases mx with
        | some m => cases hp
        | none =>
          obtain ⟨c, h1, h2, h3⟩ := slice_run (K := K) h ho hp hv
          exact ⟨.p (.c c), fun w' _ => h1 w', refsOne (refsLt_of_nil h2), h3⟩
      · exact hv.elim
    · -- arithmetic that may fail
      rename_i op t x y yt ho
      split at hv
      · rename_i hk
        simp only [opVC, ho, if_pos hk] at hv
        obtain ⟨c, h1, h2, h3⟩ := bin_run (K := K) h ho hv
        exact ⟨.p (.c c), fun w' _ => h1 w', refsOne (refsLt_of_nil h2), h3⟩
      · exact hv.elim
    · exact hv.elim
/-- the same, behind its guard -/
theorem take_sound {K : St → PH → Prop} {ops : Array Oper} {o : Oper} {S : World → Prop} {us : PH} (hus : isLoad o.op = true → Ext us u) (hq : (pureK P o.op || isLoad o.op) = true)
    (hS : isLoad o.op = true → ∀ w', S w' → Sub us w' ∧ ∀ k ob, look st.own k = some ob → w'.heap[ν k]? = some (obj ν ob)) (h : Inv g ν st u a w) (hv : guarded P (takeStep P o) ops o st us K) :
    ∃ v st', YieldsIf P ops (fun w' => isLoad o.op = true → S w') o v a ∧ Inv g ν st' u (a.put o.dst v) w ∧ K st' us ∧ st'.next = st.next ∧ st'.own = st.own ∧ st'.n = st.n ∧ st'.dirty = st.dirty := by
  unfold guarded at hv
  cases hg : o.guard with
  | none =>
    rw [hg] at hv
    obtain ⟨x, h1, h2, h3⟩ := take_core hus hq h hS hv
    obtain ⟨e1, e2, e3, e4⟩ := St.put_next st o.dst x
    exact ⟨_, _, .inl ⟨by simp [Region.wanted, hg], h1⟩, h.put o.dst x h2, h3, e1, e2, e4, e3⟩
  | some p =>
    obtain ⟨j, want⟩ := p
    rw [hg] at hv
    simp only at hv
    have key : ∀ (n : Nat) {st1 : St}, Inv g ν st1 u a w → st1.own = st.own → st1.next = st.next → st1.n = st.n → st1.dirty = st.dirty → guardG P (takeStep P o) ops.toList o j want n st1 us K →
        ∃ v st', YieldsIf P ops (fun w' => isLoad o.op = true → S w') o v a ∧ Inv g ν st' u (a.put o.dst v) w ∧ K st' us ∧ st'.next = st.next ∧ st'.own = st.own ∧ st'.n = st.n ∧ st'.dirty = st.dirty := by
      intro n
      induction n with
      | zero => intro st1 _ _ _ _ _ hvv; exact hvv.elim
      | succ n ih =>
        intro st1 h1 ho hn hnn hdd hvv
        simp only [guardG] at hvv
        split at hvv
        · exact hvv.elim
        · rename_i s hs
          have hs' : (ops[j]?).bind (·.dst) = some s := by rw [← Array.getElem?_toList]; exact hs
          have hy : ∀ b, a.tmps[s]? = some (.bool b) → Region.wanted o (yielded ops a.tmps) = (b == want) := by
            intro b hb
            simp only [Region.wanted, hg, yielded, hs', Option.bind_some, hb]
            cases b <;> cases want <;> rfl
          have hnw : (∀ b, a.tmps[s]? ≠ some (.bool b)) → Region.wanted o (yielded ops a.tmps) = false := by
            intro hb
            simp only [Region.wanted, hg, yielded, hs', Option.bind_some]
            cases ht : a.tmps[s]? with
            | none => cases want <;> rfl
            | some v =>
              cases v with
              | bool b => exact absurd ht (hb b)
              | _ => cases want <;> rfl
          have hskip : Region.wanted o (yielded ops a.tmps) = false → K (st1.put o.dst (.p (.c undefC))) us → ∃ v st', YieldsIf P ops (fun w' => isLoad o.op = true → S w') o v a ∧ Inv g ν st' u (a.put o.dst v) w ∧ K st' us ∧ st'.next = st.next ∧ st'.own = st.own ∧ st'.n = st.n ∧ st'.dirty = st.dirty := by
            intro hw hk
            obtain ⟨e1, e2, e3, e4⟩ := St.put_next st1 o.dst (.p (.c undefC))
            exact ⟨undef, _, .inr ⟨hw, rfl⟩, h1.put o.dst (.p (.c undefC)) (refsOne (refsLt_nil _)), hk, e1.trans hn, e2.trans ho, e4.trans hnn, e3.trans hdd⟩
          have hSS : isLoad o.op = true → ∀ w', S w' → Sub us w' ∧ ∀ k ob, look st1.own k = some ob → w'.heap[ν k]? = some (obj ν ob) := by rw [ho]; exact hS
          have hquiet : ∀ (x : SV) (c : Ctx), qEval P st1 c o.op = some x → (a.tmps[s]? = some (.bool want) → CtxOk c a.tmps) → refsLt st1.next x.refs → dstNe o.dst s = true → K (st1.putG o.dst s want x) us →
              ∃ v st', YieldsIf P ops (fun w' => isLoad o.op = true → S w') o v a ∧ Inv g ν st' u (a.put o.dst v) w ∧ K st' us ∧ st'.next = st.next ∧ st'.own = st.own ∧ st'.n = st.n ∧ st'.dirty = st.dirty := by
            intro x c hqe hctx hr hd hk
            obtain ⟨e1, e2, e3, e4⟩ := St.putG_next st1 o.dst s want x
            by_cases hw : a.tmps[s]? = some (.bool want)
            · refine ⟨x.toV ν, _, .inl ⟨by rw [hy want hw]; simp, fun w' hw' => ?_⟩, h1.putG o.dst s want x hr (dstNe_ok hd) _ ⟨fun _ => rfl, fun e => absurd hw e⟩, hk, e1.trans hn, e2.trans ho, e4.trans hnn, e3.trans hdd⟩
              cases hp : pureK P o.op with
              | true => exact run_pure_op h1 (hctx hw) hp hqe w'
              | false =>
                rw [hp, Bool.false_or] at hq
                obtain ⟨s1, s2⟩ := hSS hq w' (hw' hq)
                have hI := h1.inWorld (own' := st1.own) s1 (fun k ob hk => hk) (fun k ob hk => ⟨s2 k ob hk, ext_none (hus hq) (h1.own k ob hk).2.2.1⟩)
                exact (qEval_ok (P := P) hI (hctx hw) hqe).1
            · have : Region.wanted o (yielded ops a.tmps) = false := by
                by_cases hb : ∃ b, a.tmps[s]? = some (.bool b)
                · obtain ⟨b, hb⟩ := hb
                  rw [hy b hb]
                  cases b <;> cases want <;> first | rfl | exact absurd hb hw
                · exact hnw fun b hb' => hb ⟨b, hb'⟩
              exact ⟨undef, _, .inr ⟨this, rfl⟩, h1.putG o.dst s want x hr (dstNe_ok hd) _ ⟨fun e => absurd e hw, fun _ => rfl⟩, hk, e1.trans hn, e2.trans ho, e4.trans hnn, e3.trans hdd⟩
          split at hvv
          · rename_i b hl
            have hb : a.tmps[s]? = some (.bool b) := (h1.slots s _ hl).2
            split at hvv
            · rename_i e; subst e
              obtain ⟨x, r1, r2, r3⟩ := take_core hus hq h1 hSS hvv
              obtain ⟨e1, e2, e3, e4⟩ := St.put_next st1 o.dst x
              exact ⟨_, _, .inl ⟨by rw [hy b hb]; simp, r1⟩, h1.put o.dst x r2, r3, e1.trans hn, e2.trans ho, e4.trans hnn, e3.trans hdd⟩
            · rename_i e
              exact hskip (by rw [hy b hb]; simpa using e) hvv
          · rename_i t hl
            have ht : a.tmps[s]? = some (.bool t) := (h1.slots s _ hl).2
            split at hvv
            · rename_i x hqe
              split at hvv
              · rename_i hd
                simp only [Bool.and_eq_true] at hd
                refine hquiet x _ hqe (fun hw s' b' hb => ?_) (refsB_ok hd.2) hd.1 hvv
                simp only [Ctx.has, Bool.or_false, Bool.and_eq_true, beq_iff_eq] at hb
                obtain ⟨rfl, rfl⟩ := hb; exact hw
              · exact hvv.elim
            · obtain ⟨k1, k2⟩ := hvv
              cases t with
              | true => exact ih (h1.assume s true ht) ho hn hnn hdd (k1 rfl)
              | false => exact ih (h1.assume s false ht) ho hn hnn hdd (k2 rfl)
          · rename_i hl
            have ht : a.tmps[s]? = some undef := (h1.slots s _ hl).2
            exact hskip (hnw fun b hb => by rw [ht] at hb; cases hb) hvv
          · rename_i s' w' y hl
            split at hvv
            · rename_i x hqe
              split at hvv
              · rename_i hd
                simp only [Bool.and_eq_true] at hd
                exact hquiet x _ hqe (fun hw => chain_ok h1 20 s want hw) (refsB_ok hd.2) hd.1 hvv
              · exact hvv.elim
            · split at hvv
              · rename_i s0 w0 hlast
                split at hvv
                · rename_i t hc
                  obtain ⟨k1, k2⟩ := hvv
                  have ht := cell_tmp_bool h1 hc
                  cases t with
                  | true => exact ih (h1.assume s0 true ht) ho hn hnn hdd (k1 rfl)
                  | false => exact ih (h1.assume s0 false ht) ho hn hnn hdd (k2 rfl)
                · exact hvv.elim
              · exact hvv.elim
          · exact hvv.elim
    exact key 12 h rfl rfl rfl rfl hv
end Go.Proofs.YtlmnfhhmgfnbpaaDoor.E
