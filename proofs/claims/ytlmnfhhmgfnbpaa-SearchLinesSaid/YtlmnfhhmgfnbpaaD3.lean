/- CONTRACTS: search: may, and the smaller functions of slices. -/
import Derived.Test.YtlmnfhhmgfnbpaaD2
import Derived.Test.YtlmnfhhmgfnbpaaC11
namespace Go.Proofs.Ytlmnfhhmgfnbpaa.E
open Go
section
variable {P : Program}
/-- a call that knows u0 alone, over u -/
theorem Spec.over {f : FuncId} {args : Array Value} {u0 u : PH} {Q : Value → PH → Prop} (h : Spec P f args u0 Q) (he : Ext u0 u) :
    Spec P f args u fun v u'' => ∃ u0', Q v u0' ∧ Ext u0' u'' ∧ ∀ k o, u0 k = none → u k = some o → u'' k = some o ∧ u0' k = none := by
  have hj : PH.join u0 (fun k => match u0 k with | some _ => none | none => u k) = u := by
    funext k
    cases hk : u0 k with
    | none =>
      cases hu : u k with
      | none => rw [PH.join_none (by simp [hk, hu])]; exact hk
      | some o => exact PH.join_some (by simp [hk, hu])
    | some o => rw [PH.join_none (by simp [hk]), hk, he k o hk]
  have := h.frame (F := fun k => match u0 k with | some _ => none | none => u k) (fun k => by
    cases hk : u0 k with
    | none => exact .inl rfl
    | some o => exact .inr (by simp [hk]))
  rw [hj] at this
  refine this.use ?_
  rintro v u'' ⟨u0', h1, rfl, h3⟩
  refine ⟨u0', h1, fun k o hk => ?_, fun k o h0 hk => ?_⟩
  · rcases h3 k with h | h
    · rw [h] at hk; cases hk
    · rw [PH.join_none h]; exact hk
  · have : (fun k => match u0 k with | some _ => none | none => u k) k = some o := by simp [h0, hk]
    exact ⟨PH.join_some this, (h3 k).resolve_right fun h => by rw [this] at h; cases h⟩
end
section
variable {u : PH} {a : Option Addr} {n c : Nat} {L : List Int}
theorem Sl.int (h : Sl encI 1 u a n L) {i : Int} {x : Int} (hi : 0 ≤ i) (hx : L[i.toNat]? = some x) {K : Nat → Nat → Int → Prop} (hk : ∀ b o, a = some ⟨b, o, none⟩ → K b o x) :
    ∃ b o : Nat, a = some ⟨b, o, none⟩ ∧ (0 ≤ i ∧ i < (n : Int)) ∧ ∃ n1 : Int, PH.cell u b (o + i.toNat * 1) = some (.int .i64 n1) ∧ K b o n1 := by
  obtain ⟨b, o, h1, h2⟩ := h.get _ x hx
  have := h.len
  have hlt : i.toNat < L.length := (List.getElem?_eq_some_iff.1 hx).1
  exact ⟨b, o, h1, ⟨hi, by omega⟩, x, by have := h2 0 _ rfl; simpa using this, hk b o h1⟩
theorem f85_spec (hL : Sl encI 1 u a n L) (hn : n ≤ 1000000) (x : Int) : Spec Try.prog 85 #[.slice a n c, .int .i64 x] u fun v u' => ∃ r : Int, v = .int .i64 r ∧ (0 ≤ r ↔ L.contains x = true) ∧ u' = u := by
  refine f85_of ?_
  unfold f85_V
  refine ⟨fun _ i u' => ∃ k : Nat, i = k ∧ k ≤ n ∧ u' = u ∧ (L.take k).contains x = false, fun _ i _ => n - i.toNat, ⟨0, rfl, by omega, rfl, by simp⟩, ?_⟩
  rintro z i u1 ⟨k, rfl, hk, rfl, hno⟩
  have hlen := hL.len
  refine ⟨fun hlt => ?_, fun hge => ?_⟩
  · have hlt := of_decide_eq_true hlt
    obtain ⟨y, hy⟩ := hL.idx (i := (k : Int)) (by omega) hlt
    have hy' : L[k]? = some y := by simpa using hy
    have htake : L.take (k + 1) = L.take k ++ [y] := by rw [List.take_add_one, hy']; rfl
    rw [wrap_i64 (x := (k : Int) + 1) (by omega) (by omega)]
    refine hL.int (by omega) hy fun b o _ => ⟨fun h => ⟨_, rfl, ⟨fun _ => ?_, fun _ => by omega⟩, rfl⟩, fun h => ⟨⟨k + 1, by omega, by omega, rfl, ?_⟩, by show n - Int.toNat _ < n - Int.toNat _; omega⟩⟩
    · have h : x = y := by simpa using h
      subst h
      simpa using List.mem_of_getElem? hy'
    · have h : ¬ x = y := by simpa using h
      rw [htake]
      simp only [List.contains_eq_mem, List.mem_append, List.mem_singleton, decide_eq_false_iff_not] at hno ⊢
      intro hh
      rcases hh with hh | hh
      · exact hno hh
      · exact h hh
  · have hge := of_decide_eq_false hge
    have : k = n := by omega
    subst this
    rw [List.take_of_length_le (by omega)] at hno
    exact ⟨_, rfl, ⟨fun h => by omega, fun h => by rw [hno] at h; cases h⟩, rfl⟩
theorem f72_spec (hL : Sl encI 1 u a n L) (hn : n ≤ 1000000) (x : Int) : Spec Try.prog 72 #[.slice a n c, .int .i64 x] u fun v u' => v = .bool (L.contains x) ∧ u' = u := by
  refine f72_of ?_
  unfold f72_V
  refine (f85_spec hL hn x).use ?_
  rintro v u' ⟨r, rfl, hr, rfl⟩
  refine ⟨r, rfl, ?_, rfl⟩
  congr 1
  rw [Bool.eq_iff_iff, decide_eq_true_iff, ← hr]
theorem f60_spec (hL : Sl encI 1 u a n L) (hn : n ≤ 1000000) (h0 : a = none → n = 0) : Spec Try.prog 60 #[.slice a n c] u fun v u' => ∃ a' c', v = .slice a' n c' ∧ Own encI 1 3 u u' a' n c' L ∧ Ext u u' := by
  refine f60_of ?_
  unfold f60_V
  refine ⟨fun h => ?_, fun h B hB => ?_⟩
  · have h : a = none := by simpa using h
    have hn0 := h0 h
    subst hn0
    have : L = [] := List.eq_nil_of_length_eq_zero hL.len
    subst this
    exact ⟨_, _, rfl, Own.nil _ _, Ext.refl _⟩
  · refine (app_ints (Own.fresh (u := u) hB 3 ([] : List Int) encI_len (by unfold maxLen; simp)) (hL.ext (Ext.add hB _)) (by simp; omega) (Ext.add hB _)).use ?_
    rintro v u' ⟨a', c', rfl, hO, hE, _⟩
    simp only [List.length_nil, Nat.zero_add, List.nil_append] at hO ⊢
    exact ⟨_, _, _, rfl, _, _, rfl, hO, hE⟩
end
/-- may call i come next behind those of P? -/
def mayB (L : List Call) (P : List Int) (i : Nat) : Bool := !P.contains (i : Int) && (List.range L.length).all fun k => (k == i) || P.contains (k : Int) || match L[k]?, L[i]? with
  | some x, some y => !ahead x y
  | _, _ => true
theorem f62_spec {u : PH} {sB : Nat} {a ao : Option Addr} {n c m co : Nat} {L : List Call} {P : List Int} {left : Int} {i : Nat} (hs : u sB = some (.cells #[.slice a n c, .slice ao m co, .int .i64 left] 56)) (hL : Sl Call.cells 13 u a n L) (hP : Sl encI 1 u ao m P)
    (hn : n ≤ 1000) (hm : m ≤ 1000) (hi : i < n) : Spec Try.prog 62 #[.pointer (some ⟨sB, 0, none⟩), .int .i64 i] u fun v u' => v = .bool (mayB L P i) ∧ u' = u := by
  refine f62_of ?_
  unfold f62_V
  have hlen := hL.len
  obtain ⟨y, hy⟩ := hL.idx (i := (i : Int)) (by omega) (by omega)
  have hy' : L[i]? = some y := by simpa using hy
  refine ⟨sB, 0, rfl, ao, m, co, by rw [PH.cell_eq hs]; rfl, (f72_spec hP (by omega) i).use ?_⟩
  rintro v u1 ⟨rfl, rfl⟩
  refine ⟨_, rfl, fun h => ⟨by rw [mayB, h]; rfl, rfl⟩, fun h => ⟨sB, 0, rfl, a, n, c, by rw [PH.cell_eq hs]; rfl, ?_⟩⟩
  refine ⟨fun _ j u' => ∃ k : Nat, j = k ∧ k ≤ n ∧ u' = u1 ∧ (List.range k).all (fun k => (k == i) || P.contains (k : Int) || match L[k]?, L[i]? with
  | some x, some y => !ahead x y
  | _, _ => true) = true, fun _ j _ => n - j.toNat, ⟨0, rfl, by omega, rfl, rfl⟩, ?_⟩
  rintro z j u2 ⟨k, rfl, hk, rfl, hall⟩
  refine ⟨fun hlt => ?_, fun hge => ?_⟩
  · have hlt := of_decide_eq_true hlt
    obtain ⟨x, hx⟩ := hL.idx (i := (k : Int)) (by omega) hlt
    have hx' : L[k]? = some x := by simpa using hx
    rw [wrap_i64 (x := (k : Int) + 1) (by omega) (by omega)]
    have nxt : ((k == i) || P.contains (k : Int) || !ahead x y) = true → ((∃ k' : Nat, (k : Int) + 1 = k' ∧ k' ≤ n ∧ u2 = u2 ∧ (List.range k').all (fun k => (k == i) || P.contains (k : Int) || match L[k]?, L[i]? with
        | some x, some y => !ahead x y
        | _, _ => true) = true) ∧ n - ((k : Int) + 1).toNat < n - (k : Int).toNat) := fun hh => by
      refine ⟨⟨k + 1, by omega, by omega, rfl, ?_⟩, by omega⟩
      rw [List.range_succ, List.all_append, hall]
      simpa [hx', hy'] using hh
    have stop : ((k == i) || P.contains (k : Int) || !ahead x y) = false → (Value.bool false = .bool (mayB L P i) ∧ u2 = u2) := fun hh => by
      refine ⟨?_, rfl⟩
      have : mayB L P i = false := by
        rw [mayB, Bool.and_eq_false_iff]
        right
        rw [List.all_eq_false]
        exact ⟨k, by simp; omega, by simpa [hx', hy'] using hh⟩
      rw [this]
    refine hL.call (by omega) hx fun b o _ => ⟨u2, Ext.refl u2, fun hne => ?_, fun heq => ?_⟩
    · have hne : ¬ k = i := by
        intro e; subst e; simp at hne
      refine ⟨sB, 0, rfl, ao, m, co, by rw [PH.cell_eq hs]; rfl, (f72_spec hP (by omega) k).use ?_⟩
      rintro v u3 ⟨rfl, rfl⟩
      refine ⟨_, rfl, Ext.refl _, fun hno => ?_, fun hyes => ?_⟩
      · have hno : P.contains (k : Int) = false := by simpa using hno
        have fin : ∀ t, ahead x y = t → ((k == i) || P.contains (k : Int) || !ahead x y) = !t := fun t ht => by rw [hno, ht]; simp [hne]
        have hcell : PH.cell u3 sB (0 + 0) = some (.slice a n c) := by rw [PH.cell_eq hs]; rfl
        refine ⟨sB, 0, rfl, ⟨Ext.refl _, a, n, c, hcell, Ext.refl _, ?_⟩, ⟨a, n, c, hcell, Ext.refl _, ?_⟩⟩
        · refine hL.call (by omega) hy fun b o _ => ⟨Ext.refl _, (f7_spec x y _).use ?_⟩
          rintro v u4 ⟨rfl, rfl⟩
          exact ⟨_, rfl, Ext.refl _, fun ht => stop (by rw [fin _ ht]; rfl), fun ht => nxt (by rw [fin _ ht]; rfl)⟩
        · obtain ⟨b', o', ha, hcells⟩ := hL.get i y hy'
          refine ⟨b', o', ha, ⟨by omega, by omega⟩, ⟨Ext.refl _, _, _, _, _, _, _, _, _, _, _, _, _, _, hcells, Ext.refl _, (f7_spec x y _).use ?_⟩, ⟨_, _, _, _, _, _, _, _, _, _, _, _, _, hcells, Ext.refl _, Ext.refl _, (f7_spec x y _).use ?_⟩⟩
          · rintro v u4 ⟨rfl, rfl⟩
            exact ⟨_, rfl, Ext.refl _, fun ht => stop (by rw [fin _ ht]; rfl), fun ht => nxt (by rw [fin _ ht]; rfl)⟩
          · rintro v u4 ⟨rfl, rfl⟩
            exact ⟨_, rfl, Ext.refl _, fun ht => stop (by rw [fin _ ht]; rfl), fun ht => nxt (by rw [fin _ ht]; rfl)⟩
      · have hyes : P.contains (k : Int) = true := by simpa using hyes
        have N := nxt (by rw [hyes]; simp)
        exact ⟨⟨Ext.refl _, Ext.refl _, Ext.refl _, Ext.refl _, N⟩, ⟨Ext.refl _, ⟨Ext.refl _, Ext.refl _, Ext.refl _, N⟩, ⟨Ext.refl _, Ext.refl _, Ext.refl _, N⟩⟩⟩
    · have heq : k = i := by
        have : (k : Int) = i := by simpa using heq
        omega
      have N := nxt (by simp [heq])
      exact ⟨Ext.refl _, ⟨Ext.refl _, Ext.refl _, Ext.refl _, Ext.refl _, N⟩, ⟨Ext.refl _, ⟨Ext.refl _, Ext.refl _, Ext.refl _, N⟩, ⟨Ext.refl _, Ext.refl _, Ext.refl _, N⟩⟩⟩
  · have hge := of_decide_eq_false hge
    have : k = n := by omega
    subst this
    refine ⟨?_, rfl⟩
    rw [← hlen] at hall
    rw [mayB, h, hall]; rfl
end Go.Proofs.Ytlmnfhhmgfnbpaa.E
