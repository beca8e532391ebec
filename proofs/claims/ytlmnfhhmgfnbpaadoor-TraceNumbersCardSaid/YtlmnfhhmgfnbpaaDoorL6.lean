/- WORDS FOR PROOFS OVER THE ENGINE: what a call does not know stays as it is. -/
import Derived.Test.YtlmnfhhmgfnbpaaDoorL5
namespace Go.Proofs.YtlmnfhhmgfnbpaaDoor.E
open Go
variable {P : Program}
/-- F over u -/
def PH.join (u F : PH) : PH := fun b => match F b with
  | some o => some o
  | none => u b
theorem PH.join_none {u F : PH} {b : Nat} (h : F b = none) : PH.join u F b = u b := by simp [PH.join, h]
theorem PH.join_some {u F : PH} {b : Nat} {o : Obj} (h : F b = some o) : PH.join u F b = some o := by simp [PH.join, h]
def Apart (u F : PH) : Prop := ∀ b, u b = none ∨ F b = none
theorem Spec.frame {f : FuncId} {args : Array Value} {u F : PH} {Q : Value → PH → Prop} (h : Spec P f args u Q) (hd : Apart u F) :
    Spec P f args (PH.join u F) fun v u'' => ∃ u', Q v u' ∧ u'' = PH.join u' F ∧ Apart u' F := by
  intro w hw
  have hs : Sub u w := fun b o hb => hw b o (by
    rcases hd b with h1 | h1
    · rw [h1] at hb; cases hb
    · rw [PH.join_none h1]; exact hb)
  refine (h w hs).mono ?_
  rintro e w' ⟨v, u', rfl, h1, h2, h3⟩
  have keepF : ∀ b o, F b = some o → w'.heap[b]? = some o ∧ u' b = none := fun b o hb => by
    have h4 : w.heap[b]? = some o := hw b o (PH.join_some hb)
    have h5 : u b = none := (hd b).resolve_right fun h => by rw [hb] at h; cases h
    have h6 := h2.keep b (by
      rcases Nat.lt_or_ge b w.heap.size with h | h
      · exact h
      · rw [Array.getElem?_eq_none h] at h4; cases h4) h5
    exact ⟨h6.1.trans h4, h6.2⟩
  refine ⟨v, _, rfl, fun b o hb => ?_, ⟨h2.os, h2.tape, h2.output, h2.size, fun b hb hn => ?_⟩, u', h3, rfl, fun b => ?_⟩
  · cases hF : F b with
    | none => rw [PH.join_none hF] at hb; exact h1 b o hb
    | some x => rw [PH.join_some hF] at hb; cases hb; exact (keepF b _ hF).1
  · cases hF : F b with
    | none =>
      rw [PH.join_none hF] at hn
      have := h2.keep b hb hn
      exact ⟨this.1, by rw [PH.join_none hF]; exact this.2⟩
    | some x => rw [PH.join_some hF] at hn; cases hn
  · cases hF : F b with
    | none => exact .inr rfl
    | some x => exact .inl (keepF b x hF).2
/-- one block -/
def PH.one (b : Nat) (o : Obj) : PH := fun k => if k = b then some o else none
theorem PH.one_ne {b k : Nat} {o : Obj} (h : k ≠ b) : PH.one b o k = none := by simp [PH.one, h]
theorem PH.one_eq (b : Nat) (o : Obj) : PH.one b o b = some o := by simp [PH.one]
theorem PH.join_one {u : PH} {b : Nat} {o : Obj} : PH.join u (PH.one b o) = PH.add u b o := by
  funext k
  by_cases h : k = b
  · subst h; rw [PH.join_some (PH.one_eq k o), PH.add_eq]
  · rw [PH.join_none (PH.one_ne h), PH.add_ne h]
theorem PH.split_one {u : PH} {b : Nat} {o : Obj} (h : u b = some o) : PH.add (PH.del u b) b o = u := by
  funext k
  by_cases e : k = b
  · subst e; rw [PH.add_eq, h]
  · rw [PH.add_ne e, PH.del_ne e]
/-- a call that does not look at block b -/
theorem Spec.aside {f : FuncId} {args : Array Value} {u : PH} {b : Nat} {o : Obj} {Q : Value → PH → Prop} (h : Spec P f args (PH.del u b) Q) (hb : u b = some o) :
    Spec P f args u fun v u'' => ∃ u', Q v u' ∧ u' b = none ∧ u'' = PH.add u' b o := by
  have := h.frame (F := PH.one b o) (fun k => by
    by_cases e : k = b
    · subst e; exact .inl (PH.del_eq _ _)
    · exact .inr (PH.one_ne e))
  rw [PH.join_one, PH.split_one hb] at this
  refine this.use ?_
  rintro v u'' ⟨u', h1, h2, h3⟩
  refine ⟨u', h1, (h3 b).resolve_right fun h => (by rw [PH.one_eq] at h; cases h), by rw [h2, PH.join_one]⟩
theorem Ext.del {u u' : PH} {b : Nat} (h : Ext u u') : Ext (PH.del u b) (PH.del u' b) := fun k o hk => by
  by_cases e : k = b
  · subst e; rw [PH.del_eq] at hk; cases hk
  · rw [PH.del_ne e] at hk ⊢; exact h k o hk
theorem Ext.of_del (u : PH) (b : Nat) : Ext (PH.del u b) u := fun k o hk => by
  by_cases e : k = b
  · subst e; rw [PH.del_eq] at hk; cases hk
  · rwa [PH.del_ne e] at hk
theorem PH.del_add {u : PH} {b : Nat} {o : Obj} (h : u b = none) : PH.del (PH.add u b o) b = u := by
  funext k
  by_cases e : k = b
  · subst e; rw [PH.del_eq, h]
  · rw [PH.del_ne e, PH.add_ne e]
theorem PH.write_add {u : PH} {b o : Nat} {vs : List Value} {c : Array Value} {t : TypeId} {fr : Nat × Nat} : PH.write (PH.add u b (.cells c t fr)) b o vs = PH.add u b (.cells (setAll c o vs) t fr) := by
  funext k
  by_cases e : k = b
  · subst e; simp [PH.write, PH.add_eq]
  · rw [PH.write_ne e, PH.add_ne e, PH.add_ne e]
theorem PH.free_add {u : PH} {b o n : Nat} {c : Array Value} {t : TypeId} (h : o + n ≤ c.size) : PH.free (PH.add u b (.cells c t)) b o n := ⟨c, t, 0, 0, PH.add_eq _ _ _, h, fun j _ => by omega⟩
end Go.Proofs.YtlmnfhhmgfnbpaaDoor.E
