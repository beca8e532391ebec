/- THE ENGINE, part 15: a region that draws its order: what may be taken first. -/
import Derived.Test.YtlmnfhhmgfnbpaaDoorE10
import Derived.OrdersHeld
import Derived.OrdersIn
namespace Go.Proofs.YtlmnfhhmgfnbpaaDoor.E
open Go
section
variable {P : Program} {ro : Option Nat} {ops : Array Oper} {Q : Exit → Act → World → Prop} {md : Region.Mode} {S : World → Prop} {br : List Nat}
/-- no operation that may break S has come up -/
def noBr (br : List Nat) (listed : Array Bool) : Prop := ∀ b ∈ br, listed.getD b false = false
/-- whatever order is picked; S holds as long as no operation of br has come up -/
def wpAnyS (ro : Option Nat) (P : Program) (md : Region.Mode) (ops : Array Oper) (Q : Exit → Act → World → Prop) (S : World → Prop) (br : List Nat) : Nat → Array Bool → Act → World → Prop
  | 0, listed, a, w => Region.ready md ops listed = [] ∧ Q .normal a w
  | fuel + 1, listed, a, w =>
    (Region.ready md ops listed = [] → Q .normal a w) ∧
    ∀ i ∈ Region.ready md ops listed, wpOpIn (FF ro) 0 P ops Q i (fun a' w' => (noBr br (listed.setIfInBounds i true) → S w') ∧ wpAnyS ro P md ops Q S br fuel (listed.setIfInBounds i true) a' w') a w
theorem wpAny_of_S : ∀ (fuel : Nat) (listed : Array Bool) (a : Act) (w : World), wpAnyS ro P md ops Q S br fuel listed a w → wpAnyIn (FF ro) 0 P md ops Q fuel listed a w
  | 0, _, _, _, h => h
  | fuel + 1, _, _, _, h => ⟨h.1, fun i hi => wpOpIn_mono (fun a' w' h' => wpAny_of_S fuel _ a' w' h'.2) (h.2 i hi)⟩
theorem set_comm' (listed : Array Bool) (i j : Nat) : (listed.setIfInBounds i true).setIfInBounds j true = (listed.setIfInBounds j true).setIfInBounds i true := by
  by_cases h : i = j
  · subst h; rfl
  · exact Array.setIfInBounds_comm _ _ h
theorem noBr_set {listed : Array Bool} {i : Nat} (hi : i ∉ br) : noBr br (listed.setIfInBounds i true) ↔ noBr br listed := by
  constructor
  · intro h b hb
    have := h b hb
    rwa [getD_set_ne false (fun e => hi (by rw [e]; exact hb))] at this
  · intro h b hb
    rw [getD_set_ne false (fun e => hi (by rw [e]; exact hb))]; exact h b hb
theorem yields_op {S' : World → Prop} {i : Nat} {o : Oper} {v : Value} {a : Act} (hi : ops[i]? = some o) (hy : YieldsIf P ops S' o v a)
    {K : Act → World → Prop} {w : World} (hS : S' w) (h : K (a.put o.dst v) w) : wpOpIn (FF ro) 0 P ops Q i K a w := by
  unfold wpOpIn
  simp only [hi]
  rcases hy with ⟨hw, hv⟩ | ⟨hw, rfl⟩
  · simp only [hw, if_true]; exact wp_of_value (hv w hS) h
  · simp only [hw, Bool.false_eq_true, if_false]; exact ⟨fun _ _ => trivial, h⟩
theorem op_putIf {S : World → Prop} {j : Nat} {oi oj : Oper} {v : Value} (hj : ops[j]? = some oj) (hap : oi.apart ops oj = true)
    (hsi : ∀ cs b, oi.op ≠ .select cs b) (hsj : ∀ cs b, oj.op ≠ .select cs b) (hdj : ∀ c, oj.op ≠ .defer c)
    (hQ : ∀ c a w, Q (.panic c) (a.put oi.dst v) w → Q (.panic c) a w) {K : Act → World → Prop} {a : Act} {w : World}
    (hy : YieldsIf P ops S oi v a) (h : wpOpIn (FF ro) 0 P ops Q j K (a.put oi.dst v) w) :
    wpOpIn (FF ro) 0 P ops Q j (fun a' w' => YieldsIf P ops S oi v a' ∧ K (a'.put oi.dst v) w') a w := by
  obtain ⟨h1, h2, h3⟩ := Oper.apart_spec hap
  have keep : ∀ (a : Act), YieldsIf P ops S oi v a → ∀ u, YieldsIf P ops S oi v (a.put oj.dst u) := fun a hy u =>
    hy.of_same (execOp_put oi hsi a oj.dst u h3) (wanted_put oi a oj.dst u h3)
  have keepD : ∀ d, YieldsIf P ops S oi v { a with defers := d :: a.defers } := fun d => hy.of_same rfl rfl
  unfold wpOpIn at *
  simp only [hj] at *
  rw [wanted_put oj a oi.dst v h1] at h
  split
  · rename_i hw
    simp only [hw, if_true] at h
    unfold Oper.wpIn at *
    refine ⟨fun _ _ => trivial, ?_⟩
    have h := h.2
    rw [Oper.semAt_eq _ _ _ hdj] at h ⊢
    rw [execOp_put oj hsj a oi.dst v h1] at h
    generalize (execOp a.eval oj).run P w = r at *
    cases r with
    | ok x w' =>
      cases x <;> simp only [Oper.uponIn] at h ⊢
      case value u => exact ⟨keep a hy u, by rw [← Act.put_comm a v u h2]; exact h⟩
      case skip => exact ⟨keep a hy _, by rw [← Act.put_comm a v undef h2]; exact h⟩
      case defer d =>
        refine ⟨keep _ (keepD d) _, ?_⟩
        rw [← Act.put_comm _ v undef h2, ← Act.put_defers]
        exact h
      case enter f args =>
        refine ⟨h.1, CallsIn.mono h.2 fun e w'' he => ?_⟩
        cases e with
        | returned u => exact ⟨keep a hy u, by rw [← Act.put_comm a v u h2]; exact he⟩
        | panicked c => exact hQ _ _ _ he
        | outgrown => exact he
      case row row args => exact ⟨h.1, RowsIn.mono h.2 fun u w'' he => ⟨keep a hy u, by rw [← Act.put_comm a v u h2]; exact he⟩⟩
      case round l f tmps assign body =>
        refine ⟨h.1, RoundIn.mono h.2 fun e w'' he => ?_⟩
        cases e with
        | returned u => exact ⟨keep a hy u, by rw [← Act.put_comm a v u h2]; exact he⟩
        | panicked c => exact hQ _ _ _ he
        | outgrown => exact he
    | halt x w' =>
      cases x <;> simp only [Oper.uponIn] at h ⊢
      case panic u => exact hQ _ _ _ h
  · rename_i hw
    simp only [hw] at h
    exact ⟨fun _ _ => trivial, keep a hy _, by rw [← Act.put_comm a v undef h2]; exact h.2⟩
/-- number i, that yields v where S holds (held), or anywhere, is taken first -/
theorem wpAnyS_first {i : Nat} {oi : Oper} {v : Value} (held : Bool) (hi : ops[i]? = some oi) (hib : i ∉ br) (hsel : ∀ (j : Nat) (o : Oper) cs b, ops[j]? = some o → o.op ≠ .select cs b) (hdef : ∀ (j : Nat) (o : Oper) c, ops[j]? = some o → o.op ≠ .defer c)
    (hQ : ∀ c a w, Q (.panic c) (a.put oi.dst v) w → Q (.panic c) a w)
    (hbr : held = true → ∀ b ∈ br, ∀ o, ops[b]? = some o → ∃ e ∈ o.after, Region.binds md e = true ∧ e.on = i) :
    ∀ (fuel : Nat) (listed : Array Bool) (a : Act) (w : World),
      (∀ j oj, ops[j]? = some oj → j ≠ i → listed.getD j true = false → (∀ e ∈ oj.after, Region.binds md e = true → e.on ≠ i) → oi.apart ops oj = true) →
      i ∈ Region.ready md ops listed → YieldsIf P ops (fun w => held = true → S w) oi v a → (noBr br listed → S w) → (held = true → noBr br listed) →
      wpAnyS ro P md ops Q S br fuel (listed.setIfInBounds i true) (a.put oi.dst v) w → wpAnyS ro P md ops Q S br (fuel + 1) listed a w := by
  intro fuel
  induction fuel with
  | zero =>
    intro listed a w _ hr hy hS hnb H
    refine ⟨fun h => (by rw [h] at hr; cases hr), fun j hj => ?_⟩
    by_cases hji : j = i
    · subst hji
      refine yields_op hi hy (fun hh => hS (hnb hh)) ⟨fun h => hS ((noBr_set hib).1 h), H⟩
    · have := ready_mono hj hji
      rw [H.1] at this; cases this
  | succ fuel ih =>
    intro listed a w hap hr hy hS hnb H
    refine ⟨fun h => (by rw [h] at hr; cases hr), fun j hj => ?_⟩
    by_cases hji : j = i
    · subst hji
      exact yields_op hi hy (fun hh => hS (hnb hh)) ⟨fun h => hS ((noBr_set hib).1 h), H⟩
    · have hj' := ready_mono hj hji
      have hjr := hj
      rw [mem_ready] at hjr
      obtain ⟨hj0, oj, hoj, hjall⟩ := hjr
      have hir := hr
      rw [mem_ready] at hir
      obtain ⟨hi0, oi', hoi', hiall⟩ := hir
      have hil : listed.getD i false = false := by
        cases h : listed.getD i false with
        | false => rfl
        | true =>
          exfalso
          have : listed.getD i true = true := by
            simp only [Array.getD_eq_getD_getElem?] at h ⊢
            cases hl : listed[i]? with
            | none => rfl
            | some b => rw [hl] at h; simpa using h
          rw [this] at hi0; cases hi0
      have hno : ∀ e ∈ oj.after, Region.binds md e = true → e.on ≠ i := by
        intro e he hb hei
        have := hjall e he hb
        rw [hei, hil] at this; cases this
      have hapj := hap j oj hoj hji hj0 hno
      have hstep := op_putIf (S := fun w => held = true → S w) hoj hapj (hsel i oi · · hi) (hsel j oj · · hoj) (hdef j oj · hoj) hQ hy (H.2 j hj')
      refine wpOpIn_mono (fun a' w' h' => ?_) hstep
      obtain ⟨hy', hS', H'⟩ := h'
      have hS'' : noBr br (listed.setIfInBounds j true) → S w' := fun h => hS' (by rw [set_comm']; exact (noBr_set hib).2 h)
      refine ⟨hS'', ?_⟩
      refine ih (listed.setIfInBounds j true) a' w' ?_ ?_ hy' hS'' ?_ (by rw [← set_comm']; exact H')
      · intro j2 oj2 h1 h2 h3 h4
        refine hap j2 oj2 h1 h2 ?_ h4
        by_cases hjj : j = j2
        · subst hjj
          have hlt : j < listed.size := by
            rcases Nat.lt_or_ge j listed.size with h | h
            · exact h
            · rw [Array.getD_eq_getD_getElem?, Array.getElem?_eq_none h] at hj0; cases hj0
          rw [Array.getD_eq_getD_getElem?, Array.getElem?_setIfInBounds, if_pos rfl] at h3
          simp [hlt] at h3
        · rwa [getD_set_ne true hjj] at h3
      · exact ready_mono hr (fun e => hji e.symm)
      · intro hh b hb
        have hbi := hnb hh b hb
        by_cases hbj : j = b
        · subst hbj
          obtain ⟨e, he, hbd, hei⟩ := hbr hh j hb oj hoj
          exact absurd hei (hno e he hbd)
        · rw [getD_set_ne false hbj]; exact hbi
end
end Go.Proofs.YtlmnfhhmgfnbpaaDoor.E
