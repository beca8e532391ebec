/- CONTRACTS: right histories, by hist and by the document. -/
import Derived.Test.YtlmnfhhmgfnbpaaC11
namespace Go.Proofs.Ytlmnfhhmgfnbpaa.E
open Go
def sameOp (a b : Op) : Bool := (a.kind == b.kind) && ((a.key == b.key) && ((a.val == b.val) && ((a.cost == b.cost) && (a.ttl == b.ttl))))
def rightOp (o : Op) : Bool := (decide (o.kind ≥ 0) && decide (o.kind ≤ 7)) && sameOp (bare o) o
theorem f31_spec (o : Op) (u : PH) : Spec Try.prog 31 #[o.v] u fun v u' => v = .bool (rightOp o) ∧ Ext u u' := by
  refine f31_of ?_
  unfold f31_V
  refine ⟨u, Ext.refl u, (f52_spec o.kind u).use ?_⟩
  rintro v u' ⟨rfl, rfl⟩
  have T : ∀ {Q : Value → PH → Prop}, ((decide (o.kind ≥ 0) && decide (o.kind ≤ 7)) = true) → (∀ u6, Ext u' u6 → Q (bare o).v u6) → Spec Try.prog 53 #[o.v] u' Q := fun h hq => (f53_spec o u').use fun v u6 ⟨h1, h2⟩ => h1 ▸ hq u6 h2
  have G : ∀ {u6 : PH}, ((decide (o.kind ≥ 0) && decide (o.kind ≤ 7)) = true) → Ext u' u6 → (Value.bool (sameOp (bare o) o) = .bool (rightOp o) ∧ Ext u' u6) := fun h1 h2 => by rw [rightOp, h1]; exact ⟨rfl, h2⟩
  have N : ((decide (o.kind ≥ 0) && decide (o.kind ≤ 7)) = false) → (Value.bool false = .bool (rightOp o) ∧ Ext u' u') := fun h1 => by rw [rightOp, h1]; exact ⟨rfl, Ext.refl _⟩
  refine ⟨_, rfl, Ext.refl _, ⟨Ext.refl _, ⟨fun h => T h fun u6 h6 => ?_, fun h => ⟨Ext.refl _, Ext.refl _, N h⟩⟩, ⟨Ext.refl _, fun h => T h fun u6 h6 => ?_, fun h => ⟨Ext.refl _, N h⟩⟩⟩, ⟨Ext.refl _, Ext.refl _, fun h => T h fun u6 h6 => ?_, fun h => ⟨Ext.refl _, N h⟩⟩⟩
  · exact ⟨_, _, _, _, _, rfl, h6, h6, G h h6⟩
  · exact ⟨_, _, _, _, _, rfl, h6, G h h6⟩
  · exact ⟨_, _, _, _, _, rfl, h6, G h h6⟩
theorem f36_spec (o : Op) (u : PH) : Spec Try.prog 36 #[o.v] u fun v u' => v = .bool (rightOp o) ∧ u' = u := by
  refine f36_of ?_
  unfold f36_V
  refine ⟨u, Ext.refl u, fun h => (f55_spec o u).use ?_, fun h => ⟨Ext.refl u, ?_, rfl⟩⟩
  · rintro v u' ⟨rfl, rfl⟩
    refine ⟨_, _, _, _, _, rfl, Ext.refl _, ?_, rfl⟩
    rw [rightOp, h]; rfl
  · rw [rightOp, h]; rfl
theorem f33_spec {x d : Call} {B : Nat} {u : PH} (hB : PH.cells u B 0 x.cells) : Spec Try.prog 33 #[d.v, .pointer (some ⟨B, 0, none⟩)] u fun v u' => v = .bool (!apart x d) ∧ u' = u := by
  refine f33_of ?_
  unfold f33_V
  refine ⟨_, _, _, _, _, _, _, _, _, _, _, _, _, hB, (f34_spec x d u).use ?_⟩
  rintro v u' ⟨rfl, rfl⟩
  exact ⟨_, rfl, rfl, rfl⟩
def okAt (p : List Call) (x : Call) : Bool := rightOp x.op && timed x && p.all fun d => apart x d
def rightH (L : List Call) : Bool := (List.range L.length).all fun i => match L[i]? with
  | some x => okAt (L.take i) x
  | none => true
theorem rightH_false {L : List Call} {k : Nat} {x : Call} (hx : L[k]? = some x) (h : okAt (L.take k) x = false) : rightH L = false := by
  rw [rightH, List.all_eq_false]
  have := (List.getElem?_eq_some_iff.1 hx).1
  exact ⟨k, by simpa using this, by simp [hx, h]⟩
theorem rightH_true {L : List Call} (h : ∀ k x, L[k]? = some x → okAt (L.take k) x = true) : rightH L = true := by
  rw [rightH, List.all_eq_true]
  intro i _
  cases hx : L[i]? with
  | none => rfl
  | some x => exact h i x hx
theorem e33 : entersB Try.prog 33 = true := by kernel_rfl
section
variable {u : PH} {a : Option Addr} {n c : Nat} {L : List Call}
theorem f9_spec (hL : Sl Call.cells 13 u a n L) (hn : n ≤ 1000000) (hc : n ≤ c) : Spec Try.prog 9 #[.slice a n c] u fun v u' => v = .bool (rightH L) ∧ Ext u u' := by
  refine f9_of ?_
  unfold f9_V
  refine ⟨fun _ i u' => ∃ k : Nat, i = k ∧ k ≤ n ∧ Ext u u' ∧ ∀ j x, j < k → L[j]? = some x → okAt (L.take j) x = true, fun _ i _ => n - i.toNat, ⟨0, rfl, by omega, Ext.refl u, fun j x h => by omega⟩, ?_⟩
  rintro z i u1 ⟨k, rfl, hk, hE, hall⟩
  have hlen := hL.len
  refine ⟨fun hlt => ?_, fun hge => ?_⟩
  · have hlt := of_decide_eq_true hlt
    obtain ⟨x, hx⟩ := (hL.ext hE).idx (i := (k : Int)) (by omega) hlt
    have hx' : L[k]? = some x := by simpa using hx
    rw [wrap_i64 (x := (k : Int) + 1) (by omega) (by omega)]
    have no : okAt (L.take k) x = false → (Value.bool false = .bool (rightH L)) := fun h => by rw [rightH_false hx' h]
    refine (hL.ext hE).call (by omega) hx fun b o _ => (f31_spec x.op u1).use ?_
    rintro v u2 ⟨rfl, hE2⟩
    refine ⟨_, rfl, fun h => ⟨no (by have h : rightOp x.op = false := by simpa using h
                                     simp [okAt, h]), hE.trans hE2⟩, fun h => (f32_spec x u2).use ?_⟩
    have hr : rightOp x.op = true := by simpa using h
    rintro v u3 ⟨rfl, rfl⟩
    refine ⟨_, rfl, fun h => ⟨no (by have h : timed x = false := by simpa using h
                                     simp [okAt, h]), hE.trans hE2⟩, fun h => ⟨by omega, fun B hB => ?_⟩⟩
    have ht : timed x = true := by simpa using h
    have hS := (hL.ext (hE.trans (hE2.trans (Ext.add hB (.cells #[.int .i64 x.client, .int .i64 x.id, .int .i64 x.op.kind, .int .i64 x.op.key, .int .i64 x.op.val, .int .i64 x.op.cost, .int .i64 x.op.ttl, .int .i64 x.beg, .int .i64 x.at_, .int .i64 x.end_, .int .i64 x.tick, .bool x.ok, .int .i64 x.got] 28))))).sub (i := 0) (j := k) (c := c) (by omega) hk hc
    have hcB := PH.cells_of (xs := x.cells) (PH.add_eq u3 B (.cells #[.int .i64 x.client, .int .i64 x.id, .int .i64 x.op.kind, .int .i64 x.op.key, .int .i64 x.op.val, .int .i64 x.op.cost, .int .i64 x.op.ttl, .int .i64 x.beg, .int .i64 x.at_, .int .i64 x.end_, .int .i64 x.tick, .bool x.ok, .int .i64 x.got] 28)) (o := 0) rfl
    refine (f35_spec (f := .func (.func 33) #[] #[.pointer (some ⟨B, 0, none⟩)]) rfl hS (by omega) (fun d => !apart x d) fun d _ => .inl ⟨33, _, rfl, e33, f33_spec (x := x) (d := d) hcB⟩).use ?_
    rintro v u4 ⟨rfl, rfl⟩
    have hdrop : (L.drop 0).take (k - 0) = L.take k := by simp
    rw [hdrop]
    refine ⟨_, rfl, fun h => ⟨no ?_, hE.trans (hE2.trans (Ext.add hB _))⟩, fun h => ⟨⟨k + 1, by omega, by omega, hE.trans (hE2.trans (Ext.add hB _)), fun j y hj hy => ?_⟩, by show n - Int.toNat _ < n - Int.toNat _; omega⟩⟩
    · rw [okAt, hr, ht]
      simp only [Bool.true_and, Bool.and_self]
      rw [List.all_eq_false]
      obtain ⟨d, hd1, hd2⟩ := List.any_eq_true.1 h
      exact ⟨d, hd1, by simpa using hd2⟩
    · by_cases e : j = k
      · subst e
        rw [hx'] at hy; cases hy
        rw [okAt, hr, ht]
        simp only [Bool.true_and, Bool.and_self]
        rw [List.all_eq_true]
        intro d hd
        have := List.any_eq_false.1 h d hd
        simpa using this
      · exact hall j y (by omega) hy
  · have hge := of_decide_eq_false hge
    refine ⟨?_, hE⟩
    rw [rightH_true fun j x hx => hall j x (by have := (List.getElem?_eq_some_iff.1 hx).1; omega) hx]
theorem f10_spec (hL : Sl Call.cells 13 u a n L) (hn : n ≤ 1000000) : Spec Try.prog 10 #[.slice a n c] u fun v u' => v = .bool (rightH L) ∧ u' = u := by
  refine f10_of ?_
  unfold f10_V
  refine ⟨fun _ i u' => ∃ k : Nat, i = k ∧ k ≤ n ∧ u' = u ∧ ∀ j x, j < k → L[j]? = some x → okAt (L.take j) x = true, fun _ i _ => n - i.toNat, ⟨0, rfl, by omega, rfl, fun j x h => by omega⟩, ?_⟩
  rintro z i u1 ⟨k, rfl, hk, rfl, hall⟩
  have hlen := hL.len
  refine ⟨fun hlt => ?_, fun hge => ?_⟩
  · have hlt := of_decide_eq_true hlt
    obtain ⟨x, hx⟩ := hL.idx (i := (k : Int)) (by omega) hlt
    have hx' : L[k]? = some x := by simpa using hx
    rw [wrap_i64 (x := (k : Int) + 1) (by omega) (by omega)]
    have no : okAt (L.take k) x = false → (Value.bool false = .bool (rightH L) ∧ u1 = u1) := fun h => by rw [rightH_false hx' h]; exact ⟨rfl, rfl⟩
    refine hL.call (by omega) hx fun b o _ => (f36_spec x.op u1).use ?_
    rintro v u2 ⟨rfl, rfl⟩
    refine ⟨_, rfl, fun h => no ?_, fun h => ?_⟩
    · have : (rightOp x.op && timed x) = false := by
        cases hr : rightOp x.op with
        | false => rfl
        | true =>
          rw [hr] at h
          simp only [timed, Bool.true_and]
          simp at h
          split
          · rfl
          · split
            · simp; omega
            · simp; omega
      rw [okAt, this]; rfl
    · have hrt : rightOp x.op = true ∧ timed x = true := by
        cases hr : rightOp x.op with
        | false => rw [hr] at h; simp at h
        | true =>
          rw [hr] at h
          simp at h
          refine ⟨rfl, ?_⟩
          simp only [timed]
          rw [if_neg (by omega)]
          split
          · simp; omega
          · simp; omega
      refine ⟨fun _ i u' => ∃ q : Nat, i = q ∧ q ≤ k ∧ u' = u2 ∧ (L.take q).all (fun d => apart x d) = true, fun _ i _ => n - i.toNat, ⟨0, rfl, by omega, rfl, rfl⟩, ?_⟩
      rintro z2 i u3 ⟨q, rfl, hq, rfl, hq2⟩
      refine ⟨fun hlt2 => ?_, fun hge2 => ?_⟩
      · have hlt2 := of_decide_eq_true hlt2
        obtain ⟨d, hd⟩ := hL.idx (i := (q : Int)) (by omega) (by omega)
        have hd' : L[q]? = some d := by simpa using hd
        have hdm : d ∈ L.take k := List.mem_of_getElem? (i := q) (by rw [List.getElem?_take_of_lt (by omega)]; exact hd')
        have no2 : apart x d = false → (Value.bool false = .bool (rightH L) ∧ u3 = u3) := fun h => no (by
          rw [okAt, hrt.1, hrt.2]
          simp only [Bool.true_and, Bool.and_self]
          exact List.all_eq_false.2 ⟨d, hdm, by simp [h]⟩)
        have htake : L.take (q + 1) = L.take q ++ [d] := by rw [List.take_add_one, hd']; rfl
        rw [wrap_i64 (x := (q : Int) + 1) (by omega) (by omega)]
        refine ⟨fun _ u' => u' = u3 ∧ apart x d = true, ⟨fun _ u' => u' = u3 ∧ ¬ (d.id = x.id) ∧ ¬ (d.at_ ≥ 0 ∧ d.at_ = x.at_), ?_, ?_⟩, ?_⟩
        · refine hL.callInt (v := d.id) (j := 1) (by omega) hd rfl fun b o _ => ⟨fun h1 => no2 ?_, fun h1 => ?_⟩
          · have h1 : d.id = x.id := by simpa using h1
            simp [apart, h1]
          · have h1 : ¬ d.id = x.id := by simpa using h1
            refine hL.callInt (v := d.at_) (j := 8) (by omega) hd rfl fun b o _ => ⟨fun h2 => ?_, fun h2 => ?_⟩
            · have h2 := of_decide_eq_true h2
              refine hL.callInt (v := d.at_) (j := 8) (by omega) hd rfl fun b o _ => ⟨fun h3 => no2 ?_, fun h3 => ?_⟩
              · have h3 : d.at_ = x.at_ := by simpa using h3
                have h4 : x.at_ ≥ 0 := by omega
                simp [apart, ← h3, h2]
              · have h3 : ¬ d.at_ = x.at_ := by simpa using h3
                exact ⟨rfl, h1, fun h => h3 h.2⟩
            · have h2 := of_decide_eq_false h2
              exact ⟨rfl, h1, fun h => h2 h.1⟩
        · rintro z3 u4 ⟨rfl, g1, g2⟩
          have base : ((x.id == d.id) || (decide (x.at_ ≥ 0) && (x.at_ == d.at_))) = false := by
            simp only [Bool.or_eq_false_iff, Bool.and_eq_false_iff, beq_eq_false_iff_ne, ne_eq, decide_eq_false_iff_not]
            exact ⟨fun h => g1 h.symm, by omega⟩
          refine ⟨u4, Ext.refl u4, ?_⟩
          refine hL.callInt (v := d.client) (j := 0) (by omega) hd rfl fun b o _ => ⟨fun h1 => ?_, fun h1 => ?_⟩
          · have h1 : d.client = x.client := by simpa using h1
            refine hL.call (by omega) hd fun b o _ => (f8_spec d x u4).use ?_
            rintro v u5 ⟨rfl, rfl⟩
            have fin : ∀ t : Bool, ahead x d = t → ahead d x = false → apart x d = t := fun t h2 h3 => by
              simp [apart, base, h1, h2, h3]
            refine ⟨_, rfl, Ext.refl _, fun h2 => ?_, fun h2 => ?_⟩
            · have h2 : ahead d x = false := by simpa using h2
              have ob : ∃ b' o' : Nat, (a : Option Addr) = some ⟨b', o', none⟩ ∧ PH.cells u5 b' (o' + q * 13) d.cells := hL.get q d hd'
              obtain ⟨b', o', ha, hcells⟩ := ob
              refine ⟨b', o', ha, ⟨by omega, by omega⟩, ⟨Ext.refl _, _, _, _, _, _, _, _, _, _, _, _, _, _, hcells, Ext.refl _, (f8_spec x d u5).use ?_⟩, ⟨_, _, _, _, _, _, _, _, _, _, _, _, _, hcells, Ext.refl _, Ext.refl _, (f8_spec x d u5).use ?_⟩⟩
              · rintro v u6 ⟨rfl, rfl⟩
                exact ⟨_, rfl, Ext.refl _, fun h3 => no2 (fin false (by simpa using h3) h2), fun h3 => ⟨rfl, fin true (by simpa using h3) h2⟩⟩
              · rintro v u6 ⟨rfl, rfl⟩
                exact ⟨_, rfl, Ext.refl _, fun h3 => no2 (fin false (by simpa using h3) h2), fun h3 => ⟨rfl, fin true (by simpa using h3) h2⟩⟩
            · have h2 : ahead d x = true := by simpa using h2
              have : apart x d = true := by simp [apart, base, h2]
              exact ⟨⟨Ext.refl _, Ext.refl _, Ext.refl _, rfl, this⟩, ⟨Ext.refl _, Ext.refl _, Ext.refl _, rfl, this⟩⟩
          · have h1 : ¬ d.client = x.client := by simpa using h1
            have : apart x d = true := by simp [apart, base, Ne.symm h1]
            exact ⟨Ext.refl _, ⟨Ext.refl _, Ext.refl _, Ext.refl _, rfl, this⟩, ⟨Ext.refl _, Ext.refl _, Ext.refl _, rfl, this⟩⟩
        · rintro z3 u4 ⟨rfl, g1⟩
          refine ⟨⟨q + 1, by omega, by omega, rfl, ?_⟩, by show n - Int.toNat _ < n - Int.toNat _; omega⟩
          rw [htake, List.all_append, hq2]; simp [g1]
      · have hge2 := of_decide_eq_false hge2
        have : q = k := by omega
        subst this
        refine ⟨⟨q + 1, by omega, by omega, rfl, fun j y hj hy => ?_⟩, by show n - Int.toNat _ < n - Int.toNat _; omega⟩
        by_cases e : j = q
        · subst e
          rw [hx'] at hy; cases hy
          rw [okAt, hrt.1, hrt.2, hq2]; rfl
        · exact hall j y (by omega) hy
  · have hge := of_decide_eq_false hge
    refine ⟨?_, rfl⟩
    rw [rightH_true fun j x hx => hall j x (by have := (List.getElem?_eq_some_iff.1 hx).1; omega) hx]
end
end Go.Proofs.Ytlmnfhhmgfnbpaa.E
