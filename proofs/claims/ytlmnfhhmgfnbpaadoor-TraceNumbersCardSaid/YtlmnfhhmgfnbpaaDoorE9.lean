/- THE ENGINE, part 10: an operation's condition is sound. -/
import Derived.Test.YtlmnfhhmgfnbpaaDoorE8
namespace Go.Proofs.YtlmnfhhmgfnbpaaDoor.E
open Go
variable {P : Program} {g : Ghost} {ν : Nat → Nat} {st : St} {u : PH} {a : Act} {w : World}
theorem exSh_ok {s : Sh} {K : Cell → Prop} (h : exSh s K) : ∃ c, c.refs = [] ∧ c.isU = false ∧ K c := by
  cases s with
  | int k => obtain ⟨n, h⟩ := h; exact ⟨_, rfl, rfl, h⟩
  | bool => obtain ⟨n, h⟩ := h; exact ⟨_, rfl, rfl, h⟩
  | str => obtain ⟨n, h⟩ := h; exact ⟨_, rfl, rfl, h⟩
  | ptr => obtain ⟨n, h⟩ := h; exact ⟨_, rfl, rfl, h⟩
  | slice => obtain ⟨n, l, c, h⟩ := h; exact ⟨_, rfl, rfl, h⟩
  | val => obtain ⟨n, hn, h⟩ := h; exact ⟨_, rfl, rfl, h⟩
theorem exShs_ok : ∀ {l : List Sh} {K : List Cell → Prop}, exShs l K → ∃ cs, cs.flatMap Cell.refs = [] ∧ cs.length = l.length ∧ K cs := by
  intro l
  induction l with
  | nil => intro K h; exact ⟨[], rfl, rfl, h⟩
  | cons s l ih =>
    intro K h
    obtain ⟨c, h1, _, h2⟩ := exSh_ok h
    obtain ⟨cs, h3, h4, h5⟩ := ih h2
    exact ⟨c :: cs, by simp [h1, h3], by simp [h4], h5⟩
theorem exP_ok {s : PSh} {K : Part → Prop} (h : exP s K) : ∃ p, p.refs = [] ∧ K p := by
  cases s with
  | c s => obtain ⟨c, h1, _, h2⟩ := exSh_ok h; exact ⟨.c c, by simp [Part.refs, Part.cells, h1], h2⟩
  | agg l => obtain ⟨cs, h1, _, h2⟩ := exShs_ok h; exact ⟨.agg cs, h1, h2⟩
theorem exPs_ok : ∀ {l : List PSh} {K : List Part → Prop}, exPs l K → ∃ ps, ps.flatMap Part.refs = [] ∧ K ps := by
  intro l
  induction l with
  | nil => intro K h; exact ⟨[], rfl, h⟩
  | cons s l ih =>
    intro K h
    obtain ⟨p, h1, h2⟩ := exP_ok h
    obtain ⟨ps, h3, h4⟩ := ih h2
    exact ⟨p :: ps, by simp [h1, h3], h4⟩
theorem parts_out_eq (ν : Nat → Nat) (ps : List Part) (h : ps.flatMap Part.refs = []) : ps.map (Part.toV ν) = ps.map Part.out :=
  List.map_congr_left fun x hx => Part.out_eq ν x (by simpa using (List.flatMap_eq_nil_iff.1 h) x hx)
theorem exRes_ok {t : TypeId} {v : Value} {K : SV → Prop} (h : exRes P t v K) : ∃ x : SV, (∀ ν, v = x.toV ν) ∧ x.refs = [] ∧ K x := by
  unfold exRes at h
  split at h
  · obtain ⟨p, h1, h2, h3⟩ := exP_ok h
    exact ⟨.p p, fun ν => by rw [h2]; exact (Part.out_eq ν p h1).symm, h1, h3⟩
  · obtain ⟨ps, h1, h2, h3⟩ := exPs_ok h
    exact ⟨.tup ps, fun ν => by rw [h2]; simp only [SV.toV]; rw [parts_out_eq ν ps h1], h1, h3⟩
  · exact h.elim
theorem opResVC_ok {o : Oper} {v : Value} {K : SV → Prop} (h : opResVC P o v K) : ∃ x : SV, (∀ ν, v = x.toV ν) ∧ x.refs = [] ∧ K x := by
  unfold opResVC at h
  split at h
  · obtain ⟨p, rfl, h⟩ := h
    exact ⟨_, fun ν => by simp [SV.toV, Part.toV, Cell.toV_v], rfl, h⟩
  · rcases h with ⟨rfl, h⟩ | ⟨n, c, rfl, h⟩
    · exact ⟨_, fun ν => by simp [SV.toV, Part.toV, Cell.toV], rfl, h⟩
    · exact ⟨_, fun ν => by simp [SV.toV, Part.toV, Cell.toV], rfl, h⟩
  · exact exRes_ok h
theorem refsLt_of_nil {n : Nat} {l : List Nat} (h : l = []) : refsLt n l := by subst h; exact refsLt_nil n
theorem Fr.trans {u1 u2 u3 : PH} {w1 w2 w3 : World} (h : Fr u1 w1 u2 w2) (k : Fr u2 w2 u3 w3) : Fr u1 w1 u3 w3 :=
  ⟨k.os.trans h.os, k.tape.trans h.tape, k.output.trans h.output, Nat.le_trans h.size k.size, fun b hb hn => by
    obtain ⟨h1, h2⟩ := h.keep b hb hn
    obtain ⟨k1, k2⟩ := k.keep b (Nat.lt_of_lt_of_le hb h.size) h2
    exact ⟨k1.trans h1, k2⟩⟩
theorem Inv.after (h : Inv g ν st u a w) {u' : PH} {w' : World} (hs : Sub u' w') (hf : Fr u w u' w') : Inv g ν st u' a w' := by
  refine ⟨hs, h.fr.trans hf, h.slots, h.grd, ?_, h.inj, ?_, h.size, h.defers.to (fun D _ hD hn => by
    obtain ⟨f1, f2⟩ := hf.keep D (lt_of_heap hD) hn
    exact ⟨by rw [f1]; exact hD, f2⟩), h.mle⟩
  · intro k ob hk
    obtain ⟨g1, g2, g3, g4, g5⟩ := h.own k ob hk
    obtain ⟨f1, f2⟩ := hf.keep (ν k) (lt_of_heap g2) g3
    exact ⟨g1, by rw [f1]; exact g2, f2, g4, g5⟩
  · intro k ob hm hk hd
    obtain ⟨g1, g2, g3, g4, g5⟩ := h.own k ob hk
    obtain ⟨f1, f2⟩ := hf.keep (ν k) (lt_of_heap g2) g3
    rw [f1]; exact h.clean k ob hm hk hd
theorem St.vals_ok (h : Inv g ν st u a w) {l : List Operand} {vs : List Value} (hv : st.vals l = some vs) : l.map a.eval = vs := by
  unfold St.vals at hv
  split at hv
  · rename_i ps hps
    split at hv
    · rename_i he
      cases hv
      rw [(St.parts_ok h (CtxOk.nil _) hps).1, parts_out_eq ν ps (by simpa using he)]
    · cases hv
  · cases hv
theorem semOf_ok {o : Oper} {vs : List Value} {s : Sem Value} (hs : semOf o.op o.type vs = some s) (hv : (opers o.op).map a.eval = vs) {v : Value} {w' : World} (hr : s.run P w = .ok v w') :
    (execOp a.eval o).run P w = .ok (.value v) w' := by
  obtain ⟨dst, op, type, pos, after, guard⟩ := o
  simp only at hs hv
  unfold semOf at hs
  split at hs
  all_goals first
    | (cases hs; simp only [opers, Op.operands, Call.operands, Option.toArray, List.map_cons, List.map_nil, List.cons.injEq, and_true] at hv
       first
        | (obtain ⟨rfl, rfl, rfl, rfl⟩ := hv; exact runv hr)
        | (obtain ⟨rfl, rfl, rfl⟩ := hv; exact runv hr)
        | (obtain ⟨rfl, rfl⟩ := hv; exact runv hr)
        | (subst hv; exact runv hr))
    | skip
  all_goals first
    | (cases hs; done)
    | skip
  all_goals
    cases hs
    rename_i args ats
    have e : vs.toArray = args.map a.eval := by subst hv; apply Array.ext'; simp [opers]
    rw [e] at hr
    simp [execOp, resolve, invoke, builtin, Sem.run_bind, hr]
/-- all activations; within the loop's rounds, if one is given -/
def FF (ro : Option Nat) : Fence := { Fence.wide with round := ro }
variable {ro : Option Nat}
theorem not_defer {ρ : Operand → Value} {o : Oper} {w w' : World} {n : Next} (h : (execOp ρ o).run P w = .ok n w') (hn : ∀ d, n ≠ .defer d) : ∀ c, o.op ≠ .defer c := by
  intro c e
  simp only [execOp, e, Sem.run_bind] at h
  cases hr : (resolve ρ c o.type).run P w with
  | ok d w1 =>
    rw [hr] at h
    simp only [Result.andThen_ok, Sem.run_pure, Result.ok.injEq] at h
    exact hn d h.1.symm
  | halt x w1 => rw [hr] at h; cases h
theorem callsFF {f : FuncId} {args : Array Value} {w : World} {R : Ending → World → Prop} (h : Calls P f args w R) (n : Nat) : CallsIn (FF ro) n P f args w R :=
  (callsIn_wide (n := n)).2 h
theorem wp_of_value {o : Oper} {next : Act → World → Prop} {Q : Exit → Act → World → Prop} {v : Value} {w' : World} (h : (execOp a.eval o).run P w = .ok (.value v) w') (hn : next (a.put o.dst v) w') : o.wpIn (FF ro) 0 P a w next Q := by
  refine ⟨fun _ _ => trivial, ?_⟩
  rw [Oper.semAt_eq _ _ _ (not_defer h (fun d => by simp)), h]; exact hn
theorem wp_of_skip {o : Oper} {next : Act → World → Prop} {Q : Exit → Act → World → Prop} {w' : World} (h : (execOp a.eval o).run P w = .ok .skip w') (hn : next (a.put o.dst undef) w') : o.wpIn (FF ro) 0 P a w next Q := by
  refine ⟨fun _ _ => trivial, ?_⟩
  rw [Oper.semAt_eq _ _ _ (not_defer h (fun d => by simp)), h]; exact hn
theorem wp_of_enter {o : Oper} {next : Act → World → Prop} {Q : Exit → Act → World → Prop} {f : FuncId} {args : Array Value} (h : (execOp a.eval o).run P w = .ok (.enter f args) w)
    (hc : Calls P f args w fun e w' => ∃ v, e = .returned v ∧ next (a.put o.dst v) w') : o.wpIn (FF ro) 0 P a w next Q := by
  refine ⟨fun _ _ => trivial, ?_⟩
  rw [Oper.semAt_eq _ _ _ (not_defer h (fun d => by simp)), h]
  refine ⟨(fun h => by cases h), CallsIn.mono (callsFF hc _) fun e w' ⟨v, he, hn⟩ => ?_⟩
  subst he; exact hn
theorem entersB_ok {f : FuncId} (h : entersB P f = true) (args : Array Value) (w : World) : (callFunc f args).run P w = .ok (.enter f args) w := by
  unfold entersB at h
  split at h
  · rename_i fn hf
    simp only [Bool.and_eq_true, bne_iff_ne, ne_eq] at h
    obtain ⟨h1, h2⟩ := h
    obtain ⟨c, hc⟩ := Option.isSome_iff_exists.1 h2
    simp [callFunc, Sem.run_bind, program, Sem.run, hf, h1, hc]
  · cases h
theorem run_call {o : Oper} {f : Operand} {args : Array Operand} {ats : Array TypeId} (ho : o.op = .call { callee := .value f, args, argTypes := ats }) {k : FuncId} {caps : Array Value}
    (hf : a.eval f = .func (.func k) #[] caps) (he : entersB P k = true) : (execOp a.eval o).run P w = .ok (.enter k (args.map a.eval ++ caps)) w := by
  simp only [execOp, ho, resolve, hf, Deferred.ofValue, Sem.run_bind, Sem.run_pure, Result.andThen_ok, invoke]
  rw [entersB_ok he]
  simp
/-- a call, its callee's contract told -/
theorem call_sound {K : SV → St → PH → Prop} {next : Act → World → Prop} {Q : Exit → Act → World → Prop} {o : Oper} {f : Operand} {args : Array Operand} {ats : Array TypeId} (ho : o.op = .call { callee := .value f, args, argTypes := ats })
    (h : Inv g ν st u a w) {k : FuncId} {caps : Array Value} (hf : a.eval f = .func (.func k) #[] caps) (he : entersB P k = true) {vs : List Value} (hv : args.toList.map a.eval = vs)
    (hs : Spec P k (vs.toArray ++ caps) u fun v u' => exRes P o.type v fun x => K x st u')
    (hK : ∀ x u' w', Inv g ν st u' a w' → x.refs = [] → K x st u' → next (a.put o.dst (x.toV ν)) w') : o.wpIn (FF ro) 0 P a w next Q := by
  refine wp_of_enter (run_call ho hf he) ?_
  have e : args.map a.eval = vs.toArray := by subst hv; apply Array.ext'; simp
  rw [e]
  refine (hs w h.sub).mono ?_
  rintro e w' ⟨v, u', rfl, h1, h2, h3⟩
  obtain ⟨x, hx1, hx2, hx3⟩ := exRes_ok h3
  exact ⟨v, rfl, by rw [hx1 ν]; exact hK x u' w' (h.after h1 h2) hx2 hx3⟩
/-- a call of yield -/
theorem yield_sound {K : SV → St → PH → Prop} {next : Act → World → Prop} {Q : Exit → Act → World → Prop} {o : Oper} {f : Operand} {args : Array Operand} {ats : Array TypeId} (ho : o.op = .call { callee := .value f, args, argTypes := ats })
    (h : Inv g ν st u a w) {l : Nat} (hf : a.eval f = .func (.yield l) #[] #[]) {vs : List Value} (hv : args.toList.map a.eval = vs)
    (hs : YieldV P l vs u fun v u' => exRes P o.type v fun x => K x st u')
    (hK : ∀ x u' w', Inv g ν st u' a w' → x.refs = [] → K x st u' → next (a.put o.dst (x.toV ν)) w') : o.wpIn (FF ro) 0 P a w next Q := by
  obtain ⟨r, h1, h2, h3⟩ := hs w h.sub
  have e : args.map a.eval = vs.toArray := by subst hv; apply Array.ext'; simp
  have hrun : (execOp a.eval o).run P w = .ok (.round l r.fn ((r.params.zip vs.toArray).foldl (fun tmps (t, a) => tmps.setIfInBounds t a) r.tmps) r.assign r.body) w := by
    simp only [execOp, ho, resolve, hf, Deferred.ofValue, Sem.run_bind, Sem.run_pure, Result.andThen_ok, invoke, Array.empty_append, e]
    exact run_yield h1 h2
  refine ⟨fun _ _ => trivial, ?_⟩
  rw [Oper.semAt_eq _ _ _ (not_defer hrun (fun d => by simp)), hrun]
  refine ⟨(fun h => by cases h), RoundIn.mono (F := Fence.wide) h3 fun e w' ⟨v, u', he, k1, k2, k3⟩ => ?_⟩
  subst he
  obtain ⟨x, hx1, hx2, hx3⟩ := exRes_ok k3
  have := hK x u' w' (h.after k1 k2) hx2 hx3
  rw [← hx1 ν] at this; exact this
theorem free_ok {b o n : Nat} (h : PH.free u b o n) (hs : Sub u w) : ∃ c t lo hi, u b = some (.cells c t (lo, hi)) ∧ w.heap[b]? = some (.cells c t (lo, hi)) ∧ o + n ≤ c.size ∧ (∀ j, j < n → ¬ (lo ≤ o + j ∧ o + j < hi)) := by
  obtain ⟨c, t, lo, hi, h1, h2, h3⟩ := h
  exact ⟨c, t, lo, hi, h1, hs _ _ h1, h2, h3⟩
theorem cell_ok' {b o : Nat} {v : Value} (h : PH.cell u b o = some v) (hs : Sub u w) : w.cell? ⟨b, o, none⟩ = some v := by
  unfold PH.cell at h
  split at h
  · rename_i c t fr hu; exact cell_of_block (hs _ _ hu) h
  · cases h
theorem flatten_get {α : Type} (z : List α) : ∀ (len j : Nat), j < len * z.length → (List.replicate len z).flatten[j]? = z[j % z.length]? := by
  intro len
  induction len with
  | zero => intro j h; omega
  | succ n ih =>
    intro j h
    simp only [List.replicate_succ, List.flatten_cons]
    by_cases hj : j < z.length
    · rw [List.getElem?_append_left hj, Nat.mod_eq_of_lt hj]
    · rw [List.getElem?_append_right (by omega), ih (j - z.length) (by rw [Nat.succ_mul] at h; omega)]
      congr 1
      exact (Nat.mod_eq_sub_mod (by omega)).symm
theorem zeros_eq (len : Nat) (z : List Cell) (ν : Nat → Nat) : ((Array.range (len * z.length)).map fun x => (z.map (Cell.toV ν)).toArray[x % (z.map (Cell.toV ν)).toArray.size]!) = ((List.replicate len z).flatten.map (Cell.toV ν)).toArray := by
  apply Array.ext
  · simp [List.length_flatten, List.map_replicate, List.sum_replicate_nat]
  · intro j h1 h2
    simp only [Array.size_map, Array.size_range] at h1
    have hz : 0 < z.length := by
      rcases Nat.eq_zero_or_pos z.length with h | h
      · rw [h] at h1; omega
      · exact h
    have hm : j % z.length < z.length := Nat.mod_lt _ hz
    have hg := flatten_get z len j h1
    rw [List.getElem?_eq_getElem hm] at hg
    obtain ⟨hlt, hg⟩ := List.getElem?_eq_some_iff.1 hg
    simp only [Array.getElem_map, Array.getElem_range, List.getElem_toArray, List.getElem_map, hg]
    simp [hm]
theorem intAt_ok (h : Inv g ν st u a w) {d : Int} {o : Option Operand} {n : Int} (hn : st.intAt d o = some n) : (o = none ∧ n = d) ∨ ∃ k, o.map a.eval = some (.int k n) := by
  cases o with
  | none => simp only [St.intAt] at hn; cases hn; exact .inl ⟨rfl, rfl⟩
  | some x =>
    simp only [St.intAt] at hn
    split at hn
    · rename_i k n' hc
      cases hn
      have := (St.cell_ok h (CtxOk.nil _) hc).1
      rw [Cell.toV_v] at this
      exact .inr ⟨k, by simp [this]⟩
    · cases hn
theorem run_bound {k : IntKind} {i : Int} {y : Nat} {c : BoundsCode} (h0 : 0 ≤ i) (h : i ≤ y) (w : World) : (Instr.sliceBound (.int k i) y c).run P w = .ok i.toNat w := by
  simp [Instr.sliceBound, asIntOf, Sem.run_bind, h0, h]
theorem run_bounds {isS : Bool} {len cap : Nat} {lo hi : Option Value} {l h : Int} (hlo : (lo = none ∧ l = 0) ∨ ∃ k, lo = some (.int k l)) (hhi : (hi = none ∧ h = len) ∨ ∃ k, hi = some (.int k h)) (h0 : 0 ≤ l) (h1 : l ≤ h) (h2 : h ≤ cap) (w : World) :
    (Instr.sliceBounds isS len cap lo hi none).run P w = .ok (l.toNat, h.toNat, cap) w := by
  have hh : 0 ≤ h := by omega
  rcases hlo with ⟨rfl, rfl⟩ | ⟨k, rfl⟩ <;> rcases hhi with ⟨rfl, rfl⟩ | ⟨k', rfl⟩
  · simp [Instr.sliceBounds, Sem.run_bind]
  · simp only [Instr.sliceBounds, Sem.run_bind, Sem.run_pure, Result.andThen_ok, run_bound hh h2]
    rfl
  · simp only [Instr.sliceBounds, Sem.run_bind, Sem.run_pure, Result.andThen_ok]
    rw [run_bound h0 h1]
    simp
  · simp only [Instr.sliceBounds, Sem.run_bind, Sem.run_pure, Result.andThen_ok, run_bound hh h2]
    rw [run_bound h0 (by omega)]
    simp
theorem run_sliceAt_slice {t e : TypeId} {a' : Option Addr} {len cap : Nat} {lo hi : Option Value} {l h : Int} (hu : P.underlying t = some (.slice e)) (hi' : (P.info? e).isSome = true) (hlo : (lo = none ∧ l = 0) ∨ ∃ k, lo = some (.int k l)) (hhi : (hi = none ∧ h = len) ∨ ∃ k, hi = some (.int k h)) (h0 : 0 ≤ l) (h1 : l ≤ h) (h2 : h ≤ cap) (w : World) :
    (Instr.sliceAt t (.slice a' len cap) lo hi none).run P w = .ok (.slice (subA a' l.toNat cap (P.cellsOf e)) (h.toNat - l.toNat) (cap - l.toNat)) w := by
  obtain ⟨i, hi'⟩ := Option.isSome_iff_exists.1 hi'
  simp only [Instr.sliceAt, Instr.slice, Sem.run_bind, run_underlying hu, Result.andThen_ok, run_bounds hlo hhi h0 h1 h2, run_sizeOf hi', Sem.run_pure]
  rfl
theorem run_sliceAt_string {t : TypeId} {s : ByteArray} {lo hi : Option Value} {l h : Int} (hu : P.underlying t = some .string) (hlo : (lo = none ∧ l = 0) ∨ ∃ k, lo = some (.int k l)) (hhi : (hi = none ∧ h = s.size) ∨ ∃ k, hi = some (.int k h)) (h0 : 0 ≤ l) (h1 : l ≤ h) (h2 : h ≤ s.size) (w : World) :
    (Instr.sliceAt t (.string s) lo hi none).run P w = .ok (.string (s.extract l.toNat h.toNat)) w := by
  simp only [Instr.sliceAt, Instr.slice, Sem.run_bind, run_underlying hu, Result.andThen_ok, Option.isSome_none, Bool.false_eq_true, if_false, run_bounds hlo hhi h0 h1 h2, Sem.run_pure]
theorem intAt_map (h : Inv g ν st u a w) {d : Int} {o : Option Operand} {n : Int} (hn : st.intAt d o = some n) : (o.map a.eval = none ∧ n = d) ∨ ∃ k, o.map a.eval = some (.int k n) := by
  rcases intAt_ok h hn with ⟨rfl, rfl⟩ | h
  · exact .inl ⟨rfl, rfl⟩
  · exact .inr h
/-- a part of a slice, or of a string -/
theorem slice_run {K : St → PH → Prop} {u2 : PH} (h : Inv g ν st u a w) {o : Oper} {t : TypeId} {x : Operand} {lo hi : Option Operand} (ho : o.op = .slice t x lo hi none)
    (hp : (match P.underlying t with | some (.slice _) => true | some .string => true | _ => false) = true) (hv : opVC P st u2 o K) :
    ∃ c : Cell, (∀ w', (execOp a.eval o).run P w' = .ok (.value (c.toV ν)) w') ∧ c.refs = [] ∧ K (st.put o.dst (.p (.c c))) u2 := by
  simp only [opVC, ho] at hv
  split at hv
  · rename_i e hu
    split at hv
    · rename_i a' len cap l hx hl
      split at hv
      · rename_i hh hhi
        split at hv
        · rename_i hinfo
          obtain ⟨⟨b1, b2, b3⟩, hk⟩ := hv
          have ex := (St.cell_ok h (CtxOk.nil _) hx).1
          rw [Cell.toV_v] at ex
          refine ⟨.v (.slice (subA a' l.toNat cap (P.cellsOf e)) (hh.toNat - l.toNat) (cap - l.toNat)), fun w' => ?_, rfl, hk⟩
          simp only [execOp, ho, ex]
          exact runv (run_sliceAt_slice hu hinfo (intAt_map h hl) (intAt_map h hhi) b1 b2 b3 w')
        · exact hv.elim
      · exact hv.elim
    · exact hv.elim
  · rename_i hu
    split at hv
    · rename_i s l hx hl
      split at hv
      · rename_i hh hhi
        obtain ⟨⟨b1, b2, b3⟩, hk⟩ := hv
        have ex := (St.cell_ok h (CtxOk.nil _) hx).1
        rw [Cell.toV_v] at ex
        refine ⟨.v (.string (s.extract l.toNat hh.toNat)), fun w' => ?_, rfl, hk⟩
        simp only [execOp, ho, ex]
        exact runv (run_sliceAt_string hu (intAt_map h hl) (intAt_map h hhi) b1 b2 b3 w')
      · exact hv.elim
    · exact hv.elim
  · rename_i h1 h2
    split at hp
    · rename_i e he; exact absurd he (h1 e)
    · rename_i he; exact absurd he h2
    · cases hp
theorem bin_run {K : St → PH → Prop} {u2 : PH} (h : Inv g ν st u a w) {o : Oper} {op : BinOp} {t : TypeId} {x y : Operand} {yt : TypeId} (ho : o.op = .binOp op t x y yt)
    (hv : match st.cell [] x, st.cell [] y with
      | some x, some y => match binC op x y with
        | some (p, c) => p ∧ K (st.put o.dst (.p (.c c))) u2
        | none => False
      | _, _ => False) :
    ∃ c : Cell, (∀ w', (execOp a.eval o).run P w' = .ok (.value (c.toV ν)) w') ∧ c.refs = [] ∧ K (st.put o.dst (.p (.c c))) u2 := by
  split at hv
  · rename_i cx cy hx hy
    split at hv
    · rename_i p c hc
      refine ⟨c, fun w' => ?_, (binC_ok (P := P) (w := w) hc hv.1 t x y ν).2, hv.2⟩
      simp only [execOp, ho, (St.cell_ok h (CtxOk.nil _) hx).1, (St.cell_ok h (CtxOk.nil _) hy).1]
      exact runv (binC_ok (P := P) (w := w') hc hv.1 t x y ν).1
    · exact hv.elim
  · exact hv.elim
set_option maxHeartbeats 1000000 in
theorem opVC_sound {K : St → PH → Prop} {next : Act → World → Prop} {Q : Exit → Act → World → Prop} {o : Oper} (hpos : 0 < st.next) (h : Inv g ν st u a w) (hv : opVC P st u o K)
    (hK : ∀ ν' st' u' a' w', Inv g ν' st' u' a' w' → K st' u' → Later ν st ν' st' → (∀ i, o.dst ≠ some i → a'.tmps[i]? = a.tmps[i]?) → next a' w') : o.wpIn (FF ro) 0 P a w next Q := by
  have hput : ∀ (x : SV) (st' : St) (u' : PH) (w' : World) (ν' : Nat → Nat), Inv g ν' st' u' a w' → refsLt st'.next x.refs → K (st'.put o.dst x) u' → Later ν st ν' st' → next (a.put o.dst (x.toV ν')) w' :=
    fun x st' u' w' ν' h1 h2 h3 h4 => hK _ _ _ _ _ (h1.put o.dst x h2) h3 ⟨by rw [(St.put_next st' o.dst x).1]; exact h4.next, h4.nu, by rw [(St.put_next st' o.dst x).2.2.2]; exact h4.n, by rw [(St.put_next st' o.dst x).2.1]; exact h4.own⟩ (fun i hi => put_get a o.dst _ i hi)
  have hL := Later.refl ν st
  have sem_case : semVC P st u o K → o.wpIn (FF ro) 0 P a w next Q := by
    intro hv
    obtain ⟨st', u', hI, hv, hL'⟩ := vcPub_sound _ _ _ _ _ hv h
    split at hv
    · rename_i vs hvs
      split at hv
      · rename_i s hs
        obtain ⟨v, w', u'', r1, r2, r3, r4⟩ := hv w hI.sub
        obtain ⟨x, hx1, hx2, hx3⟩ := opResVC_ok r4
        refine wp_of_value (semOf_ok hs (St.vals_ok hI hvs) r1) ?_
        rw [hx1 ν]
        exact hput x st' u'' w' ν (hI.after r2 r3) (refsLt_of_nil hx2) hx3 hL'
      · exact hv.elim
    · exact hv.elim
  unfold opVC at hv
  split at hv
  · -- nilCheck
    rename_i x ho
    split at hv
    · rename_i p hc
      obtain ⟨b, off, rfl, hk⟩ := hv
      have e := (St.cell_ok h (CtxOk.nil _) hc).1
      refine wp_of_value (v := .pointer (some ⟨b, off, none⟩)) (w' := w) ?_ (hput (.p (.c (.ptr b off))) st u w ν h (refsLt_nil _) hk hL)
      simp only [execOp, ho, e, Cell.toV_v, Sem.run_pure]
    · rename_i k off hc
      obtain ⟨e, r⟩ := St.cell_ok h (CtxOk.nil _) hc
      refine wp_of_value (v := .pointer (some ⟨ν k, off, none⟩)) (w' := w) ?_ (hput (.p (.c (.own k off))) st u w ν h (refsOne r) hv hL)
      simp only [execOp, ho, e, Cell.toV_own, Sem.run_pure]
    · rename_i b off hc
      have e := (St.cell_ok h (CtxOk.nil _) hc).1
      refine wp_of_value (v := .pointer (some ⟨b, off, none⟩)) (w' := w) ?_ (hput (.p (.c (.ptr b off))) st u w ν h (refsLt_nil _) hv hL)
      simp only [execOp, ho, e, Cell.toV_ptr, Sem.run_pure]
    · exact hv.elim
  · -- load
    rename_i t x ho
    split at hv
    · rename_i b off s hc _ ha
      have e := (St.cell_ok h (CtxOk.nil _) hc).1
      obtain ⟨c, hr, _, h1, h2⟩ := exSh_ok hv
      refine wp_of_value (v := c.out) (w' := w) ?_ ?_
      · simp only [execOp, ho]
        refine runv ?_
        simp only [Instr.loadAt, e, Cell.toV_ptr, Instr.sureAddr, Sem.run_bind, Sem.run_pure, Result.andThen_ok, run_loadVar_one ha (cell_ok' h1 h.sub)]
      · rw [← Cell.out_eq ν c hr]
        exact hput (.p (.c c)) st u w ν h (refsOne (refsLt_of_nil hr)) h2 hL
    · rename_i b off l hc _ ha
      have e := (St.cell_ok h (CtxOk.nil _) hc).1
      split at hv
      · rename_i hl
        obtain ⟨cs, hr, hlen, h1, h2⟩ := exShs_ok hv
        refine wp_of_value (v := .agg (cs.map Cell.out).toArray) (w' := w) ?_ ?_
        · simp only [execOp, ho]
          refine runv ?_
          simp only [Instr.loadAt, e, Cell.toV_ptr, Instr.sureAddr, Sem.run_bind, Sem.run_pure, Result.andThen_ok]
          exact run_loadVar_agg ha (by rw [hl, List.length_map, hlen]) fun j v hj => cell_ok' (h1 j v hj) h.sub
        · rw [← cells_out_eq ν cs hr]
          exact hput (.p (.agg cs)) st u w ν h (refsLt_of_nil hr) h2 hL
      · exact hv.elim
    · exact hv.elim
  · -- store
    rename_i t x y ho
    split at hv
    · rename_i k off p hc hp
      obtain ⟨e, r⟩ := St.cell_ok h (CtxOk.nil _) hc
      obtain ⟨ep, rp⟩ := St.part_ok h (CtxOk.nil _) hp
      split at hv
      · rename_i ob hob
        split at hv
        · rename_i hcond
          obtain ⟨hinfo, hsz, hle, hall⟩ := hcond
          obtain ⟨g1, g2, g3, g4, g5⟩ := h.own k ob hob
          have hcells := part_cells rp ν
          obtain ⟨w', hr, tr⟩ := run_storeVar (P := P) (b := ν k) (o := off) (t' := t) (v := p.toV ν) g2 (by rw [hcells]; simpa using hsz) (Option.isSome_iff_exists.1 hinfo) (by rw [hcells]; simpa using hle) (fun j hj => by omega) (by
            rw [hcells]
            intro v' hv'
            simp only [List.mem_map] at hv'
            obtain ⟨c, hc', rfl⟩ := hv'
            exact storable (n := st.next) (fun r' hr' => rp r' (List.mem_flatMap.2 ⟨c, hc', hr'⟩)) (by simpa using List.all_eq_true.1 hall c hc') ν)
          refine wp_of_skip (w' := w') ?_ ?_
          · simp only [execOp, ho, Instr.storeAt, e, ep, Cell.toV_own, Instr.sureAddr, Sem.run_bind, Sem.run_pure, Result.andThen_ok, hr]
          · rw [hcells] at tr
            have tr' : Turned (ν k) (obj ν { ob with cells := setCells ob.cells off p.cells }) w w' := by
              have := tr; rw [show (List.map (Cell.toV ν) p.cells).toArray.toList = List.map (Cell.toV ν) p.cells from rfl, setAll_cells] at this; exact this
            exact hput (.p (.c .undef)) _ u w' ν (h.storeOwn k ob hob _ (fun r' hr' => (setCells_refs _ _ _ r' hr').elim (g5 r') (rp r')) tr') (refsOne (refsLt_nil _)) hv ⟨Nat.le_refl _, fun _ _ => rfl, rfl, fun j ob' hj _ => by
              simp only [look] at hj
              split at hj
              · rename_i ej; subst ej; exact ⟨ob, hob⟩
              · exact ⟨ob', hj⟩⟩
        · exact hv.elim
      · exact hv.elim
    · rename_i b off p0 hc hp0
      have e := (St.cell_ok h (CtxOk.nil _) hc).1
      obtain ⟨st', u', hI, hv, hL'⟩ := vcPub_sound _ _ _ _ _ hv h
      split at hv
      · rename_i p hp
        split at hv
        · rename_i hcond
          obtain ⟨hinfo, hsz, hall, hre⟩ := hcond
          obtain ⟨hfree, hk⟩ := hv
          obtain ⟨ep, rp⟩ := St.part_ok hI (CtxOk.nil _) hp
          have hre' : p.refs = [] := by simpa using hre
          obtain ⟨c, t', lo, hi, q1, q2, q3, q4⟩ := free_ok hfree hI.sub
          have hcells := part_cells rp ν
          obtain ⟨w', hr, tr⟩ := run_storeVar (P := P) (b := b) (o := off) (t' := t) (v := p.toV ν) q2 (by rw [hcells]; simpa using hsz) (Option.isSome_iff_exists.1 hinfo) (by rw [hcells]; simpa using q3) (by rw [hcells]; simpa using q4) (by
            rw [hcells]
            intro v' hv'
            simp only [List.mem_map] at hv'
            obtain ⟨c, hc', rfl⟩ := hv'
            exact storable (n := st'.next) (fun r' hr' => rp r' (List.mem_flatMap.2 ⟨c, hc', hr'⟩)) (by simpa using List.all_eq_true.1 hall c hc') ν)
          refine wp_of_skip (w' := w') ?_ ?_
          · simp only [execOp, ho, Instr.storeAt, e, ep, Cell.toV_ptr, Instr.sureAddr, Sem.run_bind, Sem.run_pure, Result.andThen_ok, hr]
          · rw [hcells, show (List.map (Cell.toV ν) p.cells).toArray.toList = List.map (Cell.toV ν) p.cells from rfl, cells_out_eq ν p.cells hre'] at tr
            exact hput (.p (.c .undef)) _ _ w' ν (hI.storePub q1 tr) (refsOne (refsLt_nil _)) hk hL'
        · exact hv.elim
      · exact hv.elim
    · exact hv.elim
  · -- alloc
    rename_i t ho
    split at hv
    · rename_i z hz
      obtain ⟨v, z1, z2, z3⟩ := zeroCells_ok hz ν w
      have hI := h.allocOwn ⟨t, z⟩ (refsLt_of_nil z3) hpos
      have hself : nuAt ν st.next w.heap.size st.next = w.heap.size := by simp [nuAt]
      refine wp_of_value (v := .pointer (some ⟨w.heap.size, 0, none⟩)) (w' := w.alloc (obj ν ⟨t, z⟩)) ?_ ?_
      · simp only [execOp, ho]
        refine runv ?_
        simp only [Instr.alloc, Sem.run_bind, z1, Result.andThen_ok, run_newVar, z2, Sem.run_pure]
        rfl
      · have := hput (.p (.c (.own st.next 0))) _ u _ _ hI (refsOne (by intro r hr; simp [Cell.refs] at hr; subst hr; exact ⟨hpos, by simp⟩)) hv ⟨by simp, fun k hk => nuAt_lt k hk, rfl, fun j ob' hj hlt => by
          simp only [look] at hj
          split at hj
          · rename_i ej; omega
          · exact ⟨ob', hj⟩⟩
        simpa [SV.toV, Part.toV, Cell.toV_own, hself] using this
    · exact hv.elim
  · -- box
    rename_i t x ho
    split at hv
    · rename_i p hp
      obtain ⟨ep, rp⟩ := St.part_ok h (CtxOk.nil _) hp
      have hI := h.allocOwn ⟨t, p.cells⟩ rp hpos
      have hself : nuAt ν st.next w.heap.size st.next = w.heap.size := by simp [nuAt]
      refine wp_of_value (v := .pointer (some ⟨w.heap.size, 0, none⟩)) (w' := w.alloc (obj ν ⟨t, p.cells⟩)) ?_ ?_
      · simp only [execOp, ho]
        refine runv ?_
        simp only [Instr.box, Sem.run_bind, ep, run_newVar, part_cells rp ν, Result.andThen_ok, Sem.run_pure]
        rfl
      · have := hput (.p (.c (.own st.next 0))) _ u _ _ hI (refsOne (by intro r hr; simp [Cell.refs] at hr; subst hr; exact ⟨hpos, by simp⟩)) hv ⟨by simp, fun k hk => nuAt_lt k hk, rfl, fun j ob' hj hlt => by
          simp only [look] at hj
          split at hj
          · rename_i ej; omega
          · exact ⟨ob', hj⟩⟩
        simpa [SV.toV, Part.toV, Cell.toV_own, hself] using this
    · exact hv.elim
  · -- buildSlice
    rename_i t len parts ho
    obtain ⟨st', u', hI, hv, hL'⟩ := vcPub_sound _ _ _ _ _ hv h
    split at hv
    · rename_i el hu
      split at hv
      · rename_i z ps hz hps
        split at hv
        · rename_i hcond
          obtain ⟨c1, c2, c3, c4⟩ := hcond
          split at hv
          · rename_i cs hcs
            obtain ⟨n1, n2⟩ := numbered_ok hI (CtxOk.nil _) hps
            have hre : (ps.flatMap fun y => y.2.refs) = [] := by simpa using c4
            obtain ⟨v, z1, z2, z3⟩ := zeroCells_ok hz ν w
            obtain ⟨f1, f2, f3⟩ := fill_ok (P := P) (fun i => some (i * P.cellsOf el, P.cellsOf el)) ν ps _ cs hcs n2
            have hcsr : cs.flatMap Cell.refs = [] := by
              refine List.eq_nil_iff_forall_not_mem.2 fun r hr => ?_
              rcases f3 r hr with h' | h'
              · simp only [List.mem_flatMap, List.mem_flatten, List.mem_replicate] at h'
                obtain ⟨c, ⟨l, ⟨_, hl⟩, hc⟩, hr⟩ := h'
                rw [hl] at hc
                have := List.mem_flatMap.2 ⟨c, hc, hr⟩
                rw [z3] at this; cases this
              · rw [hre] at h'; cases h'
            have hzrep : ((Array.range (len * P.cellsOf el)).map (v.cells[· % v.cells.size]!)) = ((List.replicate len z).flatten.map (Cell.toV ν)).toArray := by
              rw [z2, ← c2]; exact zeros_eq len z ν
            refine wp_of_value (v := .slice (some ⟨w.heap.size, 0, none⟩) len len) (w' := w.alloc (.cells (cs.map Cell.out).toArray el)) ?_ ?_
            · simp only [execOp, ho]
              refine runv ?_
              have hinfo : ∃ i, P.info? el = some i := by
                cases hi : P.info? el with
                | some i => exact ⟨i, rfl⟩
                | none => simp [Program.cellsOf, hi] at c3
              obtain ⟨i, hi⟩ := hinfo
              have hp : (parts.map fun y => (y.1, a.eval y.2)).toList = ps.map fun y => (y.1, y.2.toV ν) := by simpa using n1
              simp only [Instr.buildSlice, Sem.run_bind, run_underlying hu, Result.andThen_ok, run_sizeOf hi]
              rw [if_neg (by omega)]
              by_cases h0 : len * P.cellsOf el = 0
              · have hl0 : len = 0 := by
                  rcases Nat.mul_eq_zero.1 h0 with h' | h'
                  · exact h'
                  · omega
                subst hl0
                simp only [h0, if_true, Sem.run_pure, Result.andThen_ok, hp, Sem.run_bind]
                rw [show ((Array.range 0).map fun x => (#[] : Array Value)[x % (#[] : Array Value).size]!) = ((List.replicate 0 z).flatten.map (Cell.toV ν)).toArray from by apply Array.ext'; simp]
                simp only [f1, Sem.run_bind, run_newRow, Result.andThen_ok, Sem.run_pure, cells_out_eq ν cs hcsr]
              · simp only [h0, if_false, Sem.run_bind, z1, Result.andThen_ok, Sem.run_pure, hp, hzrep, f1, run_newRow, cells_out_eq ν cs hcsr]
            · have := hput (.p (.c (.v (.slice (some ⟨w.heap.size, 0, none⟩) len len)))) st' _ _ ν (hI.allocPub (.cells (cs.map Cell.out).toArray el)) (refsOne (refsLt_nil _)) (hv _ (hI.sub.none (Nat.le_refl _))) hL'
              exact this
          · exact hv.elim
        · exact hv.elim
      · exact hv.elim
    · exact hv.elim
  · -- indexAddr
    rename_i t x i ho
    split at hv
    · rename_i el a' len cap k n hu hx hi
      split at hv
      case isFalse => exact hv.elim
      rename_i hv'
      obtain ⟨b, off, rfl, hn, hk⟩ := hv
      have e1 := (St.cell_ok h (CtxOk.nil _) hx).1
      have e2 := (St.cell_ok h (CtxOk.nil _) hi).1
      rw [Cell.toV_v] at e1 e2
      have hsz := hv'
      refine wp_of_value (v := .pointer (some ⟨b, off + n.toNat * P.cellsOf el, none⟩)) (w' := w) ?_ (hput (.p (.c (.ptr b (off + n.toNat * P.cellsOf el)))) st u w ν h (refsLt_nil _) hk hL)
      simp only [execOp, ho]
      refine runv ?_
      obtain ⟨i, hi⟩ := Option.isSome_iff_exists.1 hsz
      simp only [Instr.indexAt, e1, e2, asIntOf, Sem.run_bind, Sem.run_pure, Result.andThen_ok, run_underlying hu]
      simp [hn, run_sizeOf hi, addr_add, Sem.run_bind]
    · rename_i len el b off k n hu hx hi
      split at hv
      case isFalse => exact hv.elim
      rename_i hsz
      obtain ⟨hn, hk⟩ := hv
      have e1 := (St.cell_ok h (CtxOk.nil _) hx).1
      have e2 := (St.cell_ok h (CtxOk.nil _) hi).1
      rw [Cell.toV_v] at e2
      rw [Cell.toV_ptr] at e1
      refine wp_of_value (v := .pointer (some ⟨b, off + n.toNat * P.cellsOf el, none⟩)) (w' := w) ?_ (hput (.p (.c (.ptr b (off + n.toNat * P.cellsOf el)))) st u w ν h (refsLt_nil _) hk hL)
      simp only [execOp, ho]
      refine runv ?_
      obtain ⟨i, hi⟩ := Option.isSome_iff_exists.1 hsz
      simp only [Instr.indexAt, e1, e2, asIntOf, Sem.run_bind, Sem.run_pure, Result.andThen_ok, run_underlying hu, Instr.sureAddr]
      simp [hn, run_sizeOf hi, addr_add, Sem.run_bind]
    · exact hv.elim
  · -- a call
    rename_i f args ats ho
    split at hv
    · rename_i fc hfc
      obtain ⟨st', u', hI, hv, hL'⟩ := vcPub_sound _ _ _ _ _ hv h
      split at hv
      · rename_i k caps vs hf hvs
        split at hv
        · rename_i hcond
          obtain ⟨he, hcap⟩ := hcond
          have ef := (St.cell_ok hI (CtxOk.nil _) hf).1
          have ecap : caps.map (Atom.toV ν) = caps.map (Atom.toV fun k => k) := List.map_congr_left fun x hx => Atom.toV_congr (n := 0) (fun k hk => by omega) x (by
            have : caps.flatMap Atom.refs = [] := by simpa using hcap
            rw [List.flatMap_eq_nil_iff] at this
            rw [this x hx]; exact refsLt_nil 0)
          refine call_sound (K := fun x st u => K (st.put o.dst x) u) ho hI (k := k) (caps := (caps.map (Atom.toV fun k => k)).toArray) (by rw [ef]; simp only [Cell.toV, ecap]) he (St.vals_ok hI hvs) (by simpa using hv) ?_
          intro x u'' w' h1 h2 h3
          exact hput x st' u'' w' ν h1 (refsLt_of_nil h2) h3 hL'
        · exact hv.elim
      · rename_i x vs hf hvs
        rcases hv with ⟨k, caps, hx, he, hs⟩ | ⟨l, hx, hs⟩
        case inr =>
          have ef := (St.cell_ok hI (CtxOk.nil _) hf).1
          refine yield_sound (K := fun x st u => K (st.put o.dst x) u) ho hI (l := l) (by rw [ef]; exact hx) (St.vals_ok hI hvs) hs ?_
          intro x u'' w' h1 h2 h3
          exact hput x st' u'' w' ν h1 (refsLt_of_nil h2) h3 hL'
        have ef := (St.cell_ok hI (CtxOk.nil _) hf).1
        refine call_sound (K := fun x st u => K (st.put o.dst x) u) ho hI (k := k) (caps := caps) (by rw [ef]; exact hx) he (St.vals_ok hI hvs) hs ?_
        intro x u'' w' h1 h2 h3
        exact hput x st' u'' w' ν h1 (refsLt_of_nil h2) h3 hL'
      · exact hv.elim
    · exact hv.elim
  · -- arithmetic that may fail
    rename_i op t x y yt ho
    split at hv
    · obtain ⟨c, h1, h2, h3⟩ := bin_run (K := K) h ho hv
      exact wp_of_value (h1 w) (hput (.p (.c c)) st u w ν h (refsOne (refsLt_of_nil h2)) h3 hL)
    · exact sem_case hv
  · -- a part of a slice
    rename_i t x lo hi ho
    by_cases hp : (match P.underlying t with | some (.slice _) => true | some .string => true | _ => false) = true
    · obtain ⟨c, h1, h2, h3⟩ := slice_run (K := K) h ho hp (by simp only [opVC, ho]; exact hv)
      exact wp_of_value (h1 w) (hput (.p (.c c)) st u w ν h (refsOne (refsLt_of_nil h2)) h3 hL)
    · split at hv
      · rename_i e hu; rw [hu] at hp; exact absurd rfl hp
      · rename_i hu; rw [hu] at hp; exact absurd rfl hp
      · exact sem_case hv
  · exact sem_case hv
end Go.Proofs.YtlmnfhhmgfnbpaaDoor.E
