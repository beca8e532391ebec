/- THE ENGINE, part 11: guards, and the operations of a region. -/
import Derived.Test.YtlmnfhhmgfnbpaaDoorE9
import Derived.TacticsIn
namespace Go.Proofs.YtlmnfhhmgfnbpaaDoor.E
open Go
variable {P : Program} {ro : Option Nat} {g : Ghost} {ν : Nat → Nat} {st : St} {u : PH} {a : Act} {w : World}
def Kept (l : List Nat) (a a' : Act) : Prop := ∀ i, i ∉ l → a'.tmps[i]? = a.tmps[i]?
theorem Kept.refl (l : List Nat) (a : Act) : Kept l a a := fun _ _ => rfl
theorem Kept.trans {l l' m : List Nat} {a b c : Act} (h : Kept l a b) (k : Kept l' b c) (h1 : ∀ i ∈ l, i ∈ m) (h2 : ∀ i ∈ l', i ∈ m) : Kept m a c :=
  fun i hi => (k i fun h' => hi (h2 i h')).trans (h i fun h' => hi (h1 i h'))
/-- what is handed on behind an operation that writes slot d -/
def Cont (g : Ghost) (ν : Nat → Nat) (st : St) (a : Act) (d : List Nat) (K : St → PH → Prop) (next : Act → World → Prop) : Prop :=
  ∀ ν' st' u' a' w', Inv g ν' st' u' a' w' → K st' u' → Later ν st ν' st' → Kept d a a' → 0 < st'.next → next a' w'
theorem Later.put {ν' : Nat → Nat} {st' : St} (h : Later ν st ν' st') (d : Option Tmp) (x : SV) : Later ν st ν' (st'.put d x) :=
  ⟨by rw [(St.put_next st' d x).1]; exact h.next, h.nu, by rw [(St.put_next st' d x).2.2.2]; exact h.n, by rw [(St.put_next st' d x).2.1]; exact h.own⟩
theorem kept_put (a : Act) (d : Option Tmp) (v : Value) : Kept d.toList a (a.put d v) := fun i hi => put_get a d v i (fun e => hi (by rw [e]; simp))
theorem step_sound {K : St → PH → Prop} {next : Act → World → Prop} {Q : Exit → Act → World → Prop} {o : Oper} (hpos : 0 < st.next) (h : Inv g ν st u a w) (hv : stepVC P st u o K)
    (hK : Cont g ν st a o.dst.toList K next) : o.wpIn (FF ro) 0 P a w next Q := by
  unfold stepVC at hv
  split at hv
  · rename_i x hq
    obtain ⟨r1, r2⟩ := qEval_ok h (CtxOk.nil _) hq
    refine wp_of_value r1 (hK ν _ u _ w (h.put o.dst x r2) hv ((Later.refl ν st).put _ _) (kept_put a o.dst _) ?_)
    rw [(St.put_next st o.dst x).1]; exact hpos
  · refine opVC_sound hpos h hv fun ν' st' u' a' w' h1 h2 h3 h4 => hK ν' st' u' a' w' h1 h2 h3 (fun i hi => h4 i fun e => hi (by rw [e]; simp)) (Nat.lt_of_lt_of_le hpos h3.next)
theorem refsB_ok {n : Nat} {l : List Nat} (h : refsB n l = true) : refsLt n l := by
  intro r hr
  have := List.all_eq_true.1 h r hr
  simp only [Bool.and_eq_true, Nat.blt_eq] at this
  exact this
theorem dstNe_ok {d : Option Tmp} {s : Nat} (h : dstNe d s = true) : d ≠ some s := by
  intro e; subst e; simp [dstNe] at h
theorem cell_tmp_bool (h : Inv g ν st u a w) {s : Nat} {t : Bool} (hc : st.cell [] (.tmp s) = some (.v (.bool t))) : a.tmps[s]? = some (.bool t) := by
  have := (St.cell_ok h (CtxOk.nil _) hc).1
  rw [Cell.toV_v] at this
  exact tmp_of_eval this
def Guarded (ro : Option Nat) (P : Program) (ops : Array Oper) (o : Oper) (a : Act) (w : World) (next : Act → World → Prop) (Q : Exit → Act → World → Prop) : Prop :=
  if Region.wanted o (yielded ops a.tmps) then o.wpIn (FF ro) 0 P a w next Q else next (a.put o.dst undef) w
theorem Cont.assume {K : St → PH → Prop} {next : Act → World → Prop} {d : List Nat} (hK : Cont g ν st a d K next) (s : Nat) (b : Bool) : Cont g ν (st.assume s b) a d K next :=
  fun ν' st' u' a' w' h1 h2 h3 h4 h5 => hK ν' st' u' a' w' h1 h2 ⟨h3.next, h3.nu, h3.n, h3.own⟩ h4 h5
theorem guardG_sound {K : St → PH → Prop} {next : Act → World → Prop} {Q : Exit → Act → World → Prop} {ops : Array Oper} {o : Oper} {j : Nat} {want : Bool} (hg : o.guard = some (j, want)) {step : St → PH → (St → PH → Prop) → Prop}
    (hstep : ∀ {st : St}, 0 < st.next → Inv g ν st u a w → step st u K → Cont g ν st a o.dst.toList K next → o.wpIn (FF ro) 0 P a w next Q) :
    ∀ (n : Nat) {st : St}, 0 < st.next → Inv g ν st u a w → guardG P step ops.toList o j want n st u K → Cont g ν st a o.dst.toList K next → Guarded ro P ops o a w next Q := by
  intro n
  induction n with
  | zero => intro st _ _ hv _; exact hv.elim
  | succ n ih =>
    intro st hpos h hv hK
    simp only [guardG] at hv
    split at hv
    · exact hv.elim
    · rename_i s hs
      have hs' : (ops[j]?).bind (·.dst) = some s := by rw [← Array.getElem?_toList]; exact hs
      have hy : ∀ b, a.tmps[s]? = some (.bool b) → Region.wanted o (yielded ops a.tmps) = (b == want) := by
        intro b hb
        simp only [Region.wanted, hg, yielded, hs', Option.bind_some, hb]
        cases b <;> cases want <;> rfl
      have hn : (∀ b, a.tmps[s]? ≠ some (.bool b)) → Region.wanted o (yielded ops a.tmps) = false := by
        intro hb
        simp only [Region.wanted, hg, yielded, hs', Option.bind_some]
        cases ht : a.tmps[s]? with
        | none => cases want <;> rfl
        | some v =>
          cases v with
          | bool b => exact absurd ht (hb b)
          | _ => cases want <;> rfl
      have hskip : Region.wanted o (yielded ops a.tmps) = false → K (st.put o.dst (.p (.c undefC))) u → Guarded ro P ops o a w next Q := by
        intro hw hk
        unfold Guarded
        rw [hw]
        exact hK ν _ u _ w (h.put o.dst (.p (.c undefC)) (refsOne (refsLt_nil _))) hk ((Later.refl ν st).put _ _) (kept_put a o.dst _) (by rw [(St.put_next st o.dst _).1]; exact hpos)
      have hquiet : ∀ x, (a.tmps[s]? = some (.bool want) → (execOp a.eval o).run P w = .ok (.value (x.toV ν)) w) → refsLt st.next x.refs → dstNe o.dst s = true → K (st.putG o.dst s want x) u → Guarded ro P ops o a w next Q := by
        intro x hrun hr hd hk
        have hfin : ∀ v, (a.tmps[s]? = some (.bool want) → v = x.toV ν) ∧ (a.tmps[s]? ≠ some (.bool want) → v = undef) → next (a.put o.dst v) w := fun v hv =>
          hK ν _ u _ w (h.putG o.dst s want x hr (dstNe_ok hd) v hv) hk ⟨by rw [(St.putG_next st o.dst s want x).1]; exact Nat.le_refl _, fun _ _ => rfl, by rw [(St.putG_next st o.dst s want x).2.2.2], by rw [(St.putG_next st o.dst s want x).2.1]; exact fun _ ob h _ => ⟨ob, h⟩⟩ (kept_put a o.dst _) (by rw [(St.putG_next st o.dst s want x).1]; exact hpos)
        unfold Guarded
        by_cases hw : a.tmps[s]? = some (.bool want)
        · rw [hy want hw]
          simp only [BEq.rfl, if_true]
          exact wp_of_value (hrun hw) (hfin _ ⟨fun _ => rfl, fun e => absurd hw e⟩)
        · have : Region.wanted o (yielded ops a.tmps) = false := by
            by_cases hb : ∃ b, a.tmps[s]? = some (.bool b)
            · obtain ⟨b, hb⟩ := hb
              rw [hy b hb]
              cases b <;> cases want <;> first | rfl | exact absurd hb hw
            · exact hn fun b hb' => hb ⟨b, hb'⟩
          rw [this]
          exact hfin _ ⟨fun e => absurd e hw, fun _ => rfl⟩
      split at hv
      · -- a literal
        rename_i b hl
        have hb : a.tmps[s]? = some (.bool b) := (h.slots s _ hl).2
        split at hv
        · rename_i e; subst e
          unfold Guarded
          rw [hy b hb]
          simp only [BEq.rfl, if_true]
          exact hstep hpos h hv hK
        · rename_i e
          exact hskip (by rw [hy b hb]; simpa using e) hv
      · -- open
        rename_i t hl
        have ht : a.tmps[s]? = some (.bool t) := (h.slots s _ hl).2
        split at hv
        · rename_i x hq
          split at hv
          · rename_i hd
            simp only [Bool.and_eq_true] at hd
            refine hquiet x (fun hw => ?_) (refsB_ok hd.2) hd.1 hv
            exact (qEval_ok h (x := [(s, want)]) (fun s' b' hb => by
                simp only [Ctx.has, Bool.or_false, Bool.and_eq_true, beq_iff_eq] at hb
                obtain ⟨rfl, rfl⟩ := hb; exact hw) hq).1
          · exact hv.elim
        · obtain ⟨h1, h2⟩ := hv
          cases t with
          | true => exact ih (st := st.assume s true) hpos (h.assume s true ht) (h1 rfl) (hK.assume s true)
          | false => exact ih (st := st.assume s false) hpos (h.assume s false ht) (h2 rfl) (hK.assume s false)
      · -- nothing there
        rename_i hl
        have ht : a.tmps[s]? = some undef := (h.slots s _ hl).2
        exact hskip (hn fun b hb => by rw [ht] at hb; cases hb) hv
      · -- behind another guard
        rename_i s' w' y hl
        split at hv
        · rename_i x hq
          split at hv
          · rename_i hd
            simp only [Bool.and_eq_true] at hd
            refine hquiet x (fun hw => ?_) (refsB_ok hd.2) hd.1 hv
            exact (qEval_ok h (chain_ok h 20 s want hw) hq).1
          · exact hv.elim
        · split at hv
          · rename_i s0 w0 hlast
            split at hv
            · rename_i t hc
              obtain ⟨h1, h2⟩ := hv
              have ht := cell_tmp_bool h hc
              cases t with
              | true => exact ih (st := st.assume s0 true) hpos (h.assume s0 true ht) (h1 rfl) (hK.assume s0 true)
              | false => exact ih (st := st.assume s0 false) hpos (h.assume s0 false ht) (h2 rfl) (hK.assume s0 false)
            · exact hv.elim
          · exact hv.elim
      · exact hv.elim
theorem guard_sound {K : St → PH → Prop} {next : Act → World → Prop} {Q : Exit → Act → World → Prop} {ops : Array Oper} {o : Oper} {j : Nat} {want : Bool} (hg : o.guard = some (j, want)) (n : Nat) {st : St} (hpos : 0 < st.next) (h : Inv g ν st u a w)
    (hv : guardVC P ops.toList o j want n st u K) (hK : Cont g ν st a o.dst.toList K next) : Guarded ro P ops o a w next Q :=
  guardG_sound hg (step := fun st u K => stepVC P st u o K) (fun h1 h2 h3 h4 => step_sound h1 h2 h3 h4) n hpos h hv hK
theorem filterMap_cons_dst (o : Oper) (r : List Oper) : (o :: r).filterMap (·.dst) = o.dst.toList ++ r.filterMap (·.dst) := by
  cases h : o.dst <;> simp [List.filterMap_cons, h]
theorem ops_sound {ops : Array Oper} {Q : Exit → Act → World → Prop} {K : St → PH → Prop} : ∀ (r : List Oper) {ν : Nat → Nat} {st : St} {u : PH} {a : Act} {w : World}, 0 < st.next → Inv g ν st u a w →
    opsVC P ops.toList r st u K → Cont g ν st a (r.filterMap (·.dst)) K (Q .normal) → wpListIn (FF ro) 0 P ops Q r a w := by
  intro r
  induction r with
  | nil => intro ν st u a w hpos h hv hK; exact hK ν st u a w h hv (Later.refl _ _) (Kept.refl _ _) hpos
  | cons o r ih =>
    intro ν st u a w hpos h hv hK
    simp only [opsVC] at hv
    have hC : Cont g ν st a o.dst.toList (fun st u => opsVC P ops.toList r st u K) (wpListIn (FF ro) 0 P ops Q r) := by
      intro ν' st' u' a' w' h1 h2 h3 h4 h5
      refine ih h5 h1 h2 ?_
      intro ν'' st'' u'' a'' w'' k1 k2 k3 k4 k5
      refine hK ν'' st'' u'' a'' w'' k1 k2 (h3.trans k3) ?_ k5
      rw [filterMap_cons_dst]
      exact h4.trans k4 (fun i hi => List.mem_append_left _ hi) (fun i hi => List.mem_append_right _ hi)
    unfold wpListIn
    cases hgd : o.guard with
    | none =>
      rw [hgd] at hv
      have : Region.wanted o (yielded ops a.tmps) = true := by simp [Region.wanted, hgd]
      rw [if_pos this]
      exact step_sound hpos h hv hC
    | some p =>
      obtain ⟨j, want⟩ := p
      rw [hgd] at hv
      have := guard_sound (ro := ro) (P := P) (Q := Q) (w := w) hgd 12 hpos h hv hC
      unfold Guarded at this
      split
      · rename_i hw; rw [if_pos hw] at this; exact this
      · rename_i hw; rw [if_neg hw] at this; exact ⟨fun _ _ => trivial, this⟩
end Go.Proofs.YtlmnfhhmgfnbpaaDoor.E
