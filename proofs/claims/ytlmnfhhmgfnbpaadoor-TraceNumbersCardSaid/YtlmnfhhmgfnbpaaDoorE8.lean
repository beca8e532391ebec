/- THE ENGINE, part 9: making and storing. -/
import Derived.Test.YtlmnfhhmgfnbpaaDoorE7
namespace Go.Proofs.YtlmnfhhmgfnbpaaDoor.E
open Go
variable {P : Program} {g : Ghost} {ν : Nat → Nat} {st : St} {u : PH} {a : Act} {w : World}
def nuAt (ν : Nat → Nat) (k b : Nat) : Nat → Nat := fun j => if j = k then b else ν j
theorem nuAt_lt {ν : Nat → Nat} {n b : Nat} : ∀ k, k < n → nuAt ν n b k = ν k := fun k hk => by simp [nuAt]; omega
theorem heap_alloc_lt (w : World) (o : Obj) (b : Nat) (h : b < w.heap.size) : (w.alloc o).heap[b]? = w.heap[b]? := by
  show (w.heap.push o)[b]? = _
  rw [Array.getElem?_push, if_neg (by omega)]
theorem heap_alloc_eq (w : World) (o : Obj) : (w.alloc o).heap[w.heap.size]? = some o := by
  show (w.heap.push o)[w.heap.size]? = _
  rw [Array.getElem?_push, if_pos rfl]
theorem lt_of_heap {w : World} {b : Nat} {o : Obj} (h : w.heap[b]? = some o) : b < w.heap.size := by
  rcases Nat.lt_or_ge b w.heap.size with h' | h'
  · exact h'
  · rw [Array.getElem?_eq_none h'] at h; cases h
theorem Sub.lt {u : PH} {w : World} (h : Sub u w) {b : Nat} {o : Obj} (hb : u b = some o) : b < w.heap.size := lt_of_heap (h b o hb)
theorem Sub.none {u : PH} {w : World} (h : Sub u w) {b : Nat} (hb : w.heap.size ≤ b) : u b = none := by
  cases hu : u b with
  | none => rfl
  | some o => have := h.lt hu; omega
theorem Sub.alloc {u : PH} {w : World} (h : Sub u w) (o : Obj) : Sub u (w.alloc o) := fun b x hb => by rw [heap_alloc_lt w o b (h.lt hb)]; exact h b x hb
theorem Fr.alloc {u0 : PH} {w0 : World} (h : Fr u0 w0 u w) (o : Obj) : Fr u0 w0 u (w.alloc o) :=
  ⟨h.os, h.tape, h.output, by simp; have := h.size; omega, fun b hb hn => by
    obtain ⟨h1, h2⟩ := h.keep b hb hn
    exact ⟨by rw [heap_alloc_lt w o b (by have := h.size; omega)]; exact h1, h2⟩⟩
/-- a new block of one's own -/
theorem Inv.allocOwn (h : Inv g ν st u a w) (ob : OB) (hr : refsLt st.next (ob.cells.flatMap Cell.refs)) (hpos : 0 < st.next) :
    Inv g (nuAt ν st.next w.heap.size) { st with own := (st.next, ob) :: st.own, next := st.next + 1 } u a (w.alloc (obj ν ob)) := by
  have hν : ∀ k, k < st.next → nuAt ν st.next w.heap.size k = ν k := nuAt_lt
  have hself : nuAt ν st.next w.heap.size st.next = w.heap.size := by simp [nuAt]
  have hobj : ∀ ob' : OB, refsLt st.next (ob'.cells.flatMap Cell.refs) → obj (nuAt ν st.next w.heap.size) ob' = obj ν ob' := fun ob' h' => by unfold obj; rw [cells_congr hν _ h']
  refine ⟨h.sub.alloc _, h.fr.alloc _, ?_, ?_, ?_, ?_, ?_, h.size, h.defers.to (fun D _ hD hu => ⟨by rw [heap_alloc_lt _ _ _ (lt_of_heap hD)]; exact hD, hu⟩), by have := h.mle; simp only; omega⟩
  · intro i e hi
    have h1 := h.slots i e hi
    cases e with
    | ok x => exact ⟨h1.1.mono (by simp only; omega), by rw [SV.toV_congr hν x h1.1]; exact h1.2⟩
    | grd s b x => exact h1.mono (by simp only; omega)
    | any => trivial
  · intro i s b x hi
    have h1 := h.slots i _ (lookG_look hi)
    rw [SV.toV_congr hν x h1]
    exact h.grd i s b x hi
  · intro k ob' hk
    simp only [look] at hk
    split at hk
    · rename_i e; subst e; cases hk
      refine ⟨by simp only; omega, ?_, ?_, ?_, hr.mono (by simp only; omega)⟩
      · rw [hself, heap_alloc_eq, hobj _ hr]
      · rw [hself]; exact h.sub.none (Nat.le_refl _)
      · rw [hself]; exact h.fr.size
    · obtain ⟨g1, g2, g3, g4, g5⟩ := h.own k ob' hk
      rw [hν k g1]
      exact ⟨by simp only; omega, by rw [heap_alloc_lt _ _ _ (lt_of_heap g2), hobj _ g5]; exact g2, g3, g4, g5.mono (by simp only; omega)⟩
  · intro k k' o1 o2 h1 h2 e
    simp only [look] at h1 h2
    split at h1 <;> split at h2
    · rename_i e1 e2; rw [← e1, ← e2]
    · rename_i e1 e2; subst e1
      obtain ⟨g1, g2, _⟩ := h.own k' o2 h2
      rw [hself, hν k' g1] at e
      have := lt_of_heap g2; omega
    · rename_i e1 e2; subst e2
      obtain ⟨g1, g2, _⟩ := h.own k o1 h1
      rw [hself, hν k g1] at e
      have := lt_of_heap g2; omega
    · rw [hν k (h.own k o1 h1).1, hν k' (h.own k' o2 h2).1] at e
      exact h.inj k k' o1 o2 h1 h2 e
  · intro k ob' hm hk hd
    simp only [look] at hk
    split at hk
    · rename_i e; have := h.mle; omega
    · obtain ⟨g1, g2, _⟩ := h.own k ob' hk
      rw [hν k g1, heap_alloc_lt _ _ _ (lt_of_heap g2)]
      exact h.clean k ob' hm hk hd
/-- a new block that is known from the first -/
theorem Inv.allocPub (h : Inv g ν st u a w) (o : Obj) : Inv g ν st (PH.add u w.heap.size o) a (w.alloc o) := by
  refine ⟨?_, ?_, h.slots, h.grd, ?_, h.inj, ?_, h.size, h.defers.to (fun D _ hD hu => ⟨by rw [heap_alloc_lt _ _ _ (lt_of_heap hD)]; exact hD, by simp only [PH.add]; rw [if_neg (by have := lt_of_heap hD; omega)]; exact hu⟩), h.mle⟩
  · intro b x hb
    simp only [PH.add] at hb
    split at hb
    · rename_i e; subst e; cases hb; exact heap_alloc_eq w o
    · exact h.sub.alloc o b x hb
  · refine ⟨h.fr.os, h.fr.tape, h.fr.output, by simp; have := h.fr.size; omega, fun b hb hn => ?_⟩
    obtain ⟨h1, h2⟩ := h.fr.keep b hb hn
    have := h.fr.size
    exact ⟨by rw [heap_alloc_lt w o b (by omega)]; exact h1, by simp only [PH.add]; rw [if_neg (by omega)]; exact h2⟩
  · intro k ob hk
    obtain ⟨g1, g2, g3, g4, g5⟩ := h.own k ob hk
    have := lt_of_heap g2
    exact ⟨g1, by rw [heap_alloc_lt _ _ _ this]; exact g2, by simp only [PH.add]; rw [if_neg (by omega)]; exact g3, g4, g5⟩
  · intro k ob hm hk hd
    obtain ⟨g1, g2, _⟩ := h.own k ob hk
    rw [heap_alloc_lt _ _ _ (lt_of_heap g2)]
    exact h.clean k ob hm hk hd
theorem run_newObj (o : Obj) (w : World) : (newObj o).run P w = .ok w.heap.size (w.alloc o) := rfl
theorem run_newRow (e : TypeId) (c : Array Value) (w : World) : (newRow e c).run P w = .ok ⟨w.heap.size, 0, none⟩ (w.alloc (.cells c e)) := rfl
theorem run_newVar (e : TypeId) (v : Value) (w : World) : (newVar e v).run P w = .ok ⟨w.heap.size, 0, none⟩ (w.alloc (.cells v.cells e)) := rfl

/-! ### stores -/
theorem storable {n : Nat} {c : Cell} (h : refsLt n c.refs) (hu : c.isU = false) (ν : Nat → Nat) : (∀ cs, c.toV ν ≠ .agg cs) ∧ (∀ cs, c.toV ν ≠ .tuple cs) := by
  cases c with
  | undef => cases hu
  | v x =>
    cases x with
    | agg _ => exact absurd (h 0 (by simp [Cell.refs])).1 (by omega)
    | tuple _ => exact absurd (h 0 (by simp [Cell.refs])).1 (by omega)
    | _ => exact ⟨(fun _ e => by cases e), (fun _ e => by cases e)⟩
  | vv x =>
    obtain ⟨x, hx⟩ := x
    exact ⟨fun cs e => by simp only [Cell.toV] at e; subst e; simp [notAgg] at hx, fun cs e => by simp only [Cell.toV] at e; subst e; simp [notAgg] at hx⟩
  | _ => exact ⟨(fun _ e => by cases e), (fun _ e => by cases e)⟩
theorem run_store_one {b o : Nat} {v : Value} {w : World} {c : Array Value} {t : TypeId} {lo hi : Nat} (hb : w.heap[b]? = some (.cells c t (lo, hi))) (ho : o < c.size) (hf : ¬ (lo ≤ o ∧ o < hi))
    (h1 : ∀ cs, v ≠ .agg cs) (h2 : ∀ cs, v ≠ .tuple cs) :
    (Go.store ⟨b, o, none⟩ v).run P w = .ok () (w.setCell ⟨b, o, none⟩ v) := by
  have hc : w.cell? ⟨b, o, none⟩ = some c[o] := cell_of_block hb (by simp [ho])
  have hz : w.frozen? ⟨b, o, none⟩ = false := by
    simp only [World.frozen?, hb]
    simpa using hf
  cases v with
  | agg cs => exact absurd rfl (h1 cs)
  | tuple cs => exact absurd rfl (h2 cs)
  | _ => simp [Go.store, Sem.run, hc, hz]
theorem heap_setCell {b o : Nat} {v : Value} {w : World} {c : Array Value} {t : TypeId} {fr : Nat × Nat} (hb : w.heap[b]? = some (.cells c t fr)) :
    (w.setCell ⟨b, o, none⟩ v).heap[b]? = some (.cells (c.setIfInBounds o v) t fr) ∧ (∀ b', b' ≠ b → (w.setCell ⟨b, o, none⟩ v).heap[b']? = w.heap[b']?) ∧ (w.setCell ⟨b, o, none⟩ v).heap.size = w.heap.size := by
  refine ⟨?_, ?_, by simp [World.setCell]⟩
  · simp [World.setCell, Array.getElem?_modify, hb]
  · intro b' h
    simp only [World.setCell, Array.getElem?_modify]
    rw [if_neg (fun e => h e.symm)]
/-- what a store leaves: one block is turned -/
structure Turned (b : Nat) (o' : Obj) (w w' : World) : Prop where
  at_ : w'.heap[b]? = some o'
  other : ∀ b', b' ≠ b → w'.heap[b']? = w.heap[b']?
  size : w'.heap.size = w.heap.size
  os : w'.os = w.os
  tape : w'.tape = w.tape
  output : w'.output = w.output
theorem run_storeCells {b : Nat} : ∀ (vs : List Value) (o i : Nat) (w : World) (c : Array Value) (t : TypeId) (lo hi : Nat), w.heap[b]? = some (.cells c t (lo, hi)) → o + i + vs.length ≤ c.size →
    (∀ j, j < vs.length → ¬ (lo ≤ o + i + j ∧ o + i + j < hi)) → (∀ v ∈ vs, (∀ cs, v ≠ .agg cs) ∧ (∀ cs, v ≠ .tuple cs)) →
    ∃ w', (storeCells ⟨b, o, none⟩ vs i).run P w = .ok () w' ∧ Turned b (.cells (setAll c (o + i) vs) t (lo, hi)) w w' := by
  intro vs
  induction vs with
  | nil => intro o i w c t lo hi hb _ _ _; exact ⟨w, rfl, hb, fun _ _ => rfl, rfl, rfl, rfl, rfl⟩
  | cons v vs ih =>
    intro o i w c t lo hi hb hl hf hv
    simp only [List.length_cons] at hl hf
    obtain ⟨e1, e2, e3⟩ := heap_setCell (o := o + i) (v := v) hb
    have hr := run_store_one (P := P) (o := o + i) (v := v) hb (by omega) (by simpa using hf 0 (by omega)) (hv v (by simp)).1 (hv v (by simp)).2
    obtain ⟨w', r, tr⟩ := ih o (i + 1) _ _ t lo hi e1 (by simp; omega) (fun j hj => by have := hf (j + 1) (by omega); rw [show o + (i + 1) + j = o + i + (j + 1) by omega]; exact this) (fun v hv' => hv v (by simp [hv']))
    refine ⟨w', ?_, ?_⟩
    · simp only [storeCells, Sem.run_bind, addr_add, hr, Result.andThen_ok, r]
    · refine ⟨?_, fun b' hb' => (tr.other b' hb').trans (e2 b' hb'), tr.size.trans e3, tr.os, tr.tape, tr.output⟩
      rw [tr.at_]; simp only [setAll, Nat.add_assoc]
theorem run_storeVar {b o : Nat} {t' : TypeId} {v : Value} {w : World} {c : Array Value} {t : TypeId} {lo hi : Nat} (hb : w.heap[b]? = some (.cells c t (lo, hi))) (hs : v.cells.size = P.cellsOf t') (hi' : ∃ i, P.info? t' = some i)
    (hl : o + v.cells.size ≤ c.size) (hf : ∀ j, j < v.cells.size → ¬ (lo ≤ o + j ∧ o + j < hi)) (hv : ∀ v' ∈ v.cells.toList, (∀ cs, v' ≠ .agg cs) ∧ (∀ cs, v' ≠ .tuple cs)) :
    ∃ w', (storeVar t' ⟨b, o, none⟩ v).run P w = .ok () w' ∧ Turned b (.cells (setAll c o v.cells.toList) t (lo, hi)) w w' := by
  obtain ⟨i, hi'⟩ := hi'
  obtain ⟨w', r, tr⟩ := run_storeCells (P := P) (b := b) v.cells.toList o 0 w c t lo hi hb (by simpa using hl) (by simpa using hf) hv
  refine ⟨w', ?_, by simpa using tr⟩
  simp only [storeVar, Sem.run_bind, run_sizeOf hi', Result.andThen_ok, hs, ne_eq, not_true_eq_false, if_false, Sem.run_pure, r]
theorem Turned.sub {b : Nat} {o' : Obj} {w w' : World} (t : Turned b o' w w') (h : Sub u w) (hu : u b = none) : Sub u w' := fun b' x hb => by
  have : b' ≠ b := fun e => by subst e; rw [hu] at hb; cases hb
  rw [t.other b' this]; exact h b' x hb
theorem Inv.storeOwn (h : Inv g ν st u a w) (k : Nat) (ob : OB) (hk : look st.own k = some ob) (cs : List Cell) (hr : refsLt st.next (cs.flatMap Cell.refs)) {w' : World}
    (t : Turned (ν k) (obj ν { ob with cells := cs }) w w') : Inv g ν { st with own := (k, { ob with cells := cs }) :: st.own, dirty := k :: st.dirty } u a w' := by
  obtain ⟨g1, g2, g3, g4, g5⟩ := h.own k ob hk
  refine ⟨t.sub h.sub g3, ?_, h.slots, h.grd, ?_, ?_, ?_, h.size, h.defers.to (fun D _ hD hu => ⟨by rw [t.other D (fun e => by rw [e, g2] at hD; cases hD)]; exact hD, hu⟩), h.mle⟩
  · refine ⟨t.os.trans h.fr.os, t.tape.trans h.fr.tape, t.output.trans h.fr.output, by rw [t.size]; exact h.fr.size, fun b hb hn => ?_⟩
    obtain ⟨h1, h2⟩ := h.fr.keep b hb hn
    exact ⟨by rw [t.other b (by omega)]; exact h1, h2⟩
  · intro j ob' hj
    simp only [look] at hj
    split at hj
    · rename_i e; subst e; cases hj
      exact ⟨g1, t.at_, g3, g4, hr⟩
    · rename_i e
      obtain ⟨f1, f2, f3, f4, f5⟩ := h.own j ob' hj
      exact ⟨f1, by rw [t.other _ (fun e' => e (h.inj k j ob ob' hk hj e'.symm))]; exact f2, f3, f4, f5⟩
  · intro j j' o1 o2 h1 h2 e
    simp only [look] at h1 h2
    split at h1 <;> split at h2
    · rename_i e1 e2; rw [← e1, ← e2]
    · rename_i e1 e2; subst e1; exact h.inj _ _ ob o2 hk h2 e
    · rename_i e1 e2; subst e2; exact h.inj _ _ o1 ob h1 hk e
    · exact h.inj j j' o1 o2 h1 h2 e
  · intro j ob' hm hj hd
    simp only [List.mem_cons, not_or] at hd
    simp only [look] at hj
    split at hj
    · rename_i e; exact absurd e.symm hd.1
    · rw [t.other _ (fun e' => hd.1 (h.inj j k ob' ob hj hk e'))]
      exact h.clean j ob' hm hj hd.2
theorem Inv.storePub (h : Inv g ν st u a w) {b o : Nat} {vs : List Value} {c : Array Value} {t : TypeId} {fr : Nat × Nat} (hu : u b = some (.cells c t fr)) {w' : World}
    (tr : Turned b (.cells (setAll c o vs) t fr) w w') : Inv g ν st (PH.write u b o vs) a w' := by
  have hw : ∀ b', PH.write u b o vs b' = if b' = b then some (.cells (setAll c o vs) t fr) else u b' := by
    intro b'; simp only [PH.write, hu]
  refine ⟨?_, ?_, h.slots, h.grd, ?_, h.inj, ?_, h.size, h.defers.to (fun D _ hD hn => ⟨by rw [tr.other D (fun e => by rw [e, hu] at hn; cases hn)]; exact hD, by rw [hw, if_neg (fun e => by rw [e, hu] at hn; cases hn)]; exact hn⟩), h.mle⟩
  · intro b' x hb
    rw [hw] at hb
    split at hb
    · rename_i e; subst e; cases hb; exact tr.at_
    · rename_i e; rw [tr.other b' e]; exact h.sub b' x hb
  · refine ⟨tr.os.trans h.fr.os, tr.tape.trans h.fr.tape, tr.output.trans h.fr.output, by rw [tr.size]; exact h.fr.size, fun b' hb hn => ?_⟩
    obtain ⟨h1, h2⟩ := h.fr.keep b' hb hn
    have hne : b' ≠ b := fun e => by subst e; rw [hu] at h2; cases h2
    exact ⟨by rw [tr.other b' hne]; exact h1, by rw [hw, if_neg hne]; exact h2⟩
  · intro k ob hk
    obtain ⟨g1, g2, g3, g4, g5⟩ := h.own k ob hk
    have hne : ν k ≠ b := fun e => by rw [e, hu] at g3; cases g3
    exact ⟨g1, by rw [tr.other _ hne]; exact g2, by rw [hw, if_neg hne]; exact g3, g4, g5⟩
  · intro k ob hm hk hd
    obtain ⟨g1, g2, g3, g4, g5⟩ := h.own k ob hk
    have hne : ν k ≠ b := fun e => by rw [e, hu] at g3; cases g3
    rw [tr.other _ hne]
    exact h.clean k ob hm hk hd
end Go.Proofs.YtlmnfhhmgfnbpaaDoor.E
