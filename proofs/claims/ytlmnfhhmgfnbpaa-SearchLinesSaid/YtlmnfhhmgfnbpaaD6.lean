/- CONTRACTS: the document's lossy map, and its lines. -/
import Derived.Test.YtlmnfhhmgfnbpaaD3
import Derived.Test.YtlmnfhhmgfnbpaaC12
namespace Go.Proofs.Ytlmnfhhmgfnbpaa.E
open Go
section
variable {u : PH} {a : Option Addr} {n : Nat} {l : List Call}
theorem Sl.callInt2 (h : Sl Call.cells 13 u a n l) {i : Int} {x : Call} (hi : 0 ≤ i) (hx : l[i.toNat]? = some x) {j j' : Nat} {v : Int} (hv : x.cells[j + j']? = some (.int .i64 v)) {K : Nat → Nat → Int → Prop}
    (hk : ∀ b o, a = some ⟨b, o, none⟩ → K b o v) :
    ∃ b o : Nat, a = some ⟨b, o, none⟩ ∧ (0 ≤ i ∧ i < (n : Int)) ∧ ∃ n1 : Int, PH.cell u b (o + i.toNat * 13 + j + j') = some (.int .i64 n1) ∧ K b o n1 := by
  obtain ⟨b, o, h1, h2⟩ := h.get _ x hx
  have := h.len
  have hlt : i.toNat < l.length := (List.getElem?_eq_some_iff.1 hx).1
  exact ⟨b, o, h1, ⟨hi, by omega⟩, v, by rw [Nat.add_assoc]; exact h2 _ _ hv, hk b o h1⟩
theorem Sl.callBool (h : Sl Call.cells 13 u a n l) {i : Int} {x : Call} (hi : 0 ≤ i) (hx : l[i.toNat]? = some x) {j : Nat} {v : Bool} (hv : x.cells[j]? = some (.bool v)) {K : Nat → Nat → Bool → Prop}
    (hk : ∀ b o, a = some ⟨b, o, none⟩ → K b o v) :
    ∃ b o : Nat, a = some ⟨b, o, none⟩ ∧ (0 ≤ i ∧ i < (n : Int)) ∧ ∃ n1 : Bool, PH.cell u b (o + i.toNat * 13 + j) = some (.bool n1) ∧ K b o n1 := by
  obtain ⟨b, o, h1, h2⟩ := h.get _ x hx
  have := h.len
  have hlt : i.toNat < l.length := (List.getElem?_eq_some_iff.1 hx).1
  exact ⟨b, o, h1, ⟨hi, by omega⟩, v, h2 _ _ hv, hk b o h1⟩
end
def LM.run (M : LM) (l : List Call) : LM := l.foldl LM.next M
theorem LM.run_snoc (M : LM) (l : List Call) (x : Call) : M.run (l ++ [x]) = (M.run l).next x := by simp [LM.run, List.foldl_append]
theorem ord_next {M : LM} (h : Rk.Ord M.L) (x : Call) : Rk.Ord (M.next x).L := by
  unfold LM.next
  split
  · exact h
  · split
    · exact Rk.ord_insL _ _ _ h
    · split
      · exact Rk.ord_delL _ _ h
      · split
        · exact List.Pairwise.nil
        · split
          · exact List.Pairwise.nil
          · exact h
theorem ord_run {M : LM} (h : Rk.Ord M.L) : ∀ l : List Call, Rk.Ord (M.run l).L := by
  intro l
  induction l generalizing M with
  | nil => exact h
  | cons x r ih => exact ih (ord_next h x)
/-- what a key has behind calls, the last one first -/
def thereR (key : Int) : List Call → Option Thing
  | [] => none
  | c :: r => if !c.ok then thereR key r else if (c.op.kind == 5) || (c.op.kind == 6) || ((c.op.kind == 3) && (c.op.key == key)) then none else if (c.op.kind == 2) && (c.op.key == key) then some ⟨c.op.val, endAt c.tick c.op.ttl⟩ else thereR key r
def Em : LM := ⟨[], false⟩
theorem there_run (key : Int) (l : List Call) : ∀ r : List Call, l = r.reverse → Rk.getL key (Em.run l).L = thereR key r := by
  intro r
  induction r generalizing l with
  | nil => rintro rfl; rfl
  | cons c r ih =>
    rintro rfl
    have ih := ih r.reverse rfl
    rw [List.reverse_cons, LM.run_snoc]
    have ho : Rk.Ord (Em.run r.reverse).L := ord_run (List.Pairwise.nil) _
    simp only [thereR, LM.next]
    by_cases h0 : (!c.ok) = true
    · rw [if_pos h0, if_pos h0]; exact ih
    · rw [if_neg h0, if_neg h0]
      by_cases h2 : c.op.kind = 2
      · rw [if_pos h2, if_neg (by simp [h2]), Rk.getL_insL _ _ _ _ ho]
        by_cases hk : key = c.op.key
        · rw [if_pos hk, if_pos (by simp [h2, hk])]
        · rw [if_neg hk, if_neg (by simp [Ne.symm hk]), ih]
      · rw [if_neg h2]
        by_cases h3 : c.op.kind = 3
        · rw [if_pos h3, Rk.getL_delL _ _ _ ho]
          by_cases hk : key = c.op.key
          · rw [if_pos hk, if_pos (by simp [h3, hk])]
          · rw [if_neg hk, if_neg (by simp [h3, Ne.symm hk]), if_neg (by simp [h3]), ih]
        · rw [if_neg h3]
          by_cases h6 : c.op.kind = 6
          · rw [if_pos h6, if_pos (by simp [h6])]; rfl
          · rw [if_neg h6]
            by_cases h5 : c.op.kind = 5
            · rw [if_pos h5, if_pos (by simp [h5])]; rfl
            · rw [if_neg h5, if_neg (by simp [h5, h6, h3]), if_neg (by simp [h2])]; exact ih
def closedB (l : List Call) : Bool := l.any fun c => (c.op.kind == 6) && c.ok
theorem closed_run (l : List Call) : ∀ r : List Call, l = r.reverse → (Em.run l).closed = closedB l := by
  intro r
  induction r generalizing l with
  | nil => rintro rfl; rfl
  | cons c r ih =>
    rintro rfl
    have ih := ih r.reverse rfl
    rw [List.reverse_cons, LM.run_snoc, closedB, List.any_append, ← closedB, ← ih]
    unfold LM.next
    split
    · rename_i h; have : c.ok = false := by simpa using h
      simp [this]
    · rename_i h; have hok : c.ok = true := by simpa using h
      split
      · rename_i h2; simp [h2]
      · split
        · rename_i h3; simp [h3]
        · split
          · rename_i h6; simp [h6, hok]
          · rename_i h6
            split
            · simp [h6]
            · simp [h6]
def okAll (M : LM) : List Call → Bool
  | [] => true
  | x :: r => M.may x && okAll (M.next x) r
theorem okAll_iff (M : LM) (L : List Call) : okAll M L = true ↔ ∀ k x, L[k]? = some x → (M.run (L.take k)).may x = true := by
  induction L generalizing M with
  | nil => simp [okAll]
  | cons y r ih =>
    simp only [okAll, Bool.and_eq_true, ih]
    constructor
    · rintro ⟨h1, h2⟩ k x hx
      cases k with
      | zero => simp at hx; subst hx; exact h1
      | succ k => exact h2 k x (by simpa using hx)
    · intro h
      exact ⟨h 0 y rfl, fun k x hx => h (k + 1) x (by simpa using hx)⟩
section
variable {u : PH} {a : Option Addr} {n c : Nat} {L : List Call}
def Told : Option Thing → Value
  | none => .tuple #[.int .i64 0, .int .i64 0, .bool false]
  | some t => .tuple #[.int .i64 t.val, .int .i64 t.end_, .bool true]
theorem f83_spec (hL : Sl Call.cells 13 u a n L) (hn : n ≤ 1000000) (key : Int) : Spec Try.prog 83 #[.slice a n c, .int .i64 key] u fun v u' => v = Told (thereR key L.reverse) ∧ u' = u := by
  refine f83_of ?_
  unfold f83_V
  have hlen := hL.len
  rw [wrap_i64 (x := (n : Int) - 1) (by omega) (by omega)]
  refine ⟨fun _ _ _ i u' => ∃ k : Nat, i = (k : Int) - 1 ∧ k ≤ n ∧ u' = u ∧ thereR key (L.take k).reverse = thereR key L.reverse, fun _ _ _ i _ => (i + 1).toNat, ⟨n, rfl, Nat.le_refl _, rfl, by rw [List.take_of_length_le (by omega)]⟩, ?_⟩
  rintro _ _ _ i u1 ⟨k, rfl, hk, rfl, hth⟩
  refine ⟨fun hge => ?_, fun hlt => ?_⟩
  · have hge := of_decide_eq_true hge
    obtain ⟨x, hx⟩ := hL.idx (i := (k : Int) - 1) (by omega) (by omega)
    have hx' : L[k - 1]? = some x := by rwa [show ((k : Int) - 1).toNat = k - 1 by omega] at hx
    have htake : L.take k = L.take (k - 1) ++ [x] := by
      conv => lhs; rw [show k = (k - 1) + 1 by omega, List.take_add_one, hx']
      rfl
    rw [wrap_i64 (x := (k : Int) - 1 - 1) (by omega) (by omega)]
    rw [htake, List.reverse_append] at hth
    simp only [List.reverse_cons, List.reverse_nil, List.nil_append, List.singleton_append, thereR] at hth
    refine hL.call (by omega) hx fun b o _ => ⟨fun h => ?_, fun h => ⟨fun h2 => ?_, fun h2 => ⟨fun h3 => ?_, fun h3 => ?_⟩⟩⟩
    · rw [if_pos h] at hth
      exact ⟨⟨k - 1, by omega, by omega, rfl, hth⟩, by show Int.toNat _ < Int.toNat _; omega⟩
    · rw [if_neg (by simp [h]), if_pos h2] at hth
      rw [← hth]; exact ⟨rfl, rfl⟩
    · rw [if_neg (by simp [h]), if_neg (by simp only [h2]; simp), if_pos h3] at hth
      refine (f104_spec x.tick x.op.ttl u1).use ?_
      rintro v u2 ⟨rfl, rfl⟩
      refine ⟨_, _, rfl, ?_, rfl⟩
      rw [← hth]; rfl
    · rw [if_neg (by simp [h]), if_neg (by simp only [h2]; simp), if_neg (by simp only [h3]; simp)] at hth
      exact ⟨⟨k - 1, by omega, by omega, rfl, hth⟩, by show Int.toNat _ < Int.toNat _; omega⟩
  · have hlt := of_decide_eq_false hlt
    have : k = 0 := by omega
    subst this
    rw [← hth]; exact ⟨rfl, rfl⟩
theorem f69_spec (hL : Sl Call.cells 13 u a n L) (hn : n ≤ 1000000) : Spec Try.prog 69 #[.slice a n c] u fun v u' => v = .bool (closedB L) ∧ u' = u := by
  refine f69_of ?_
  unfold f69_V
  refine ⟨fun _ i u' => ∃ k : Nat, i = k ∧ k ≤ n ∧ u' = u ∧ closedB (L.take k) = false, fun _ i _ => n - i.toNat, ⟨0, rfl, by omega, rfl, rfl⟩, ?_⟩
  rintro z i u1 ⟨k, rfl, hk, rfl, hno⟩
  have hlen := hL.len
  refine ⟨fun hlt => ?_, fun hge => ?_⟩
  · have hlt := of_decide_eq_true hlt
    obtain ⟨x, hx⟩ := hL.idx (i := (k : Int)) (by omega) hlt
    have hx' : L[k]? = some x := by simpa using hx
    have htake : L.take (k + 1) = L.take k ++ [x] := by rw [List.take_add_one, hx']; rfl
    rw [wrap_i64 (x := (k : Int) + 1) (by omega) (by omega)]
    have nxt : ((x.op.kind == 6) && x.ok) = false → ((∃ k' : Nat, (k : Int) + 1 = k' ∧ k' ≤ n ∧ u1 = u1 ∧ closedB (L.take k') = false) ∧ n - ((k : Int) + 1).toNat < n - (k : Int).toNat) := fun h => by
      refine ⟨⟨k + 1, by omega, by omega, rfl, ?_⟩, by omega⟩
      rw [htake, closedB, List.any_append, ← closedB, hno]; simpa using h
    refine hL.callInt2 (v := x.op.kind) (j := 2) (j' := 0) (by omega) hx rfl fun b o _ => ⟨fun h => ?_, fun h => nxt (by rw [h]; rfl)⟩
    refine hL.callBool (v := x.ok) (by omega) hx rfl fun b o _ => ⟨fun h2 => ⟨?_, rfl⟩, fun h2 => nxt (by rw [h2]; simp)⟩
    have : closedB L = true := List.any_eq_true.2 ⟨x, List.mem_of_getElem? hx', by rw [h, h2]; rfl⟩
    rw [this]
  · have hge := of_decide_eq_false hge
    have : k = n := by omega
    subst this
    rw [List.take_of_length_le (by omega)] at hno
    exact ⟨by rw [hno], rfl⟩
theorem get_run (L : List Call) (key now : Int) : (Em.run L).get key now = match thereR key L.reverse with
    | none => none
    | some t => if overB t.end_ now then none else some t.val := by
  rw [LM.get, there_run key L L.reverse (by simp)]
  cases thereR key L.reverse <;> rfl
theorem f70_spec (hL : Sl Call.cells 13 u a n L) (hn : n ≤ 1000000) (key now : Int) : Spec Try.prog 70 #[.slice a n c, .int .i64 key, .int .i64 now] u fun v u' => (v = match (Em.run L).get key now with
    | none => .tuple #[.int .i64 0, .bool false]
    | some n => .tuple #[.int .i64 n, .bool true]) ∧ u' = u := by
  refine f70_of ?_
  unfold f70_V
  rw [get_run]
  refine (f83_spec hL hn key).use ?_
  rintro v u' ⟨rfl, rfl⟩
  cases thereR key L.reverse with
  | none => exact ⟨_, _, _, rfl, fun _ => ⟨rfl, rfl⟩, fun h => by simp at h⟩
  | some t =>
    refine ⟨t.val, t.end_, true, rfl, fun h => by simp at h, fun _ => (f84_spec t.end_ now _).use ?_⟩
    rintro v u' ⟨rfl, rfl⟩
    refine ⟨_, rfl, fun h => ?_, fun h => ?_⟩
    · simp only [h, if_true]; exact ⟨trivial, trivial⟩
    · simp only [h]; exact ⟨rfl, trivial⟩
theorem f59_spec (hL : Sl Call.cells 13 u a n L) (hn : n ≤ 1000000) (x : Call) : Spec Try.prog 59 #[.slice a n c, x.v] u fun v u' => v = .bool ((Em.run L).may x) ∧ u' = u := by
  refine f59_of ?_
  unfold f59_V
  have hcl := closed_run L L.reverse (by simp)
  refine ⟨fun h => ⟨?_, rfl⟩, fun h => (f69_spec hL hn).use ?_⟩
  · have : (Em.run L).may x = false := by
      unfold LM.may
      split
      · rfl
      · simp at h
        split
        · simpa using h.2
        · rename_i h1 h2
          simp at h2
          rcases h.1 with h3 | h3
          · exact (h3 h2.1).elim
          · rw [h2.2] at h3; cases h3
    rw [this]
  · rintro v u' ⟨rfl, rfl⟩
    rw [← hcl]
    refine ⟨_, rfl, fun hc => ⟨?_, rfl⟩, fun hc => ⟨fun h1 => ?_, fun h1 => ⟨fun h2 => ⟨fun hok => ⟨?_, rfl⟩, fun hok => ?_⟩, fun h2 => ⟨fun h7 => ?_, fun h7 => ⟨?_, rfl⟩⟩⟩⟩⟩
    · congr 1
      unfold LM.may LM.must
      simp only [hc, if_true, Bool.true_and]
      cases hok : x.ok <;> cases hk : (x.op.kind == 6) <;> simp_all
    · have h1' : x.op.kind = 1 := by simpa using h1
      refine (f70_spec hL hn x.op.key x.tick).use ?_
      rintro v u' ⟨rfl, rfl⟩
      have hmu : (Em.run L).must x = (false, false) := by unfold LM.must; rw [if_neg (by simp [hc]), if_neg (by omega), if_neg (by omega), if_pos h1']
      cases hg : (Em.run L).get x.op.key x.tick with
      | none =>
        refine ⟨0, false, rfl, ?_, rfl⟩
        congr 1
        unfold LM.may
        rw [hmu, hg]
        cases hok : x.ok <;> simp_all
      | some m =>
        refine ⟨m, true, rfl, ?_, rfl⟩
        congr 1
        unfold LM.may
        rw [hmu, hg]
        cases hok : x.ok <;> simp_all
    · have h2' : x.op.kind = 2 := by simpa using h2
      congr 1
      unfold LM.may LM.must
      simp_all
    · have h2' : x.op.kind = 2 := by simpa using h2
      refine (f71_spec _ _).use ?_
      rintro v u' ⟨rfl, rfl⟩
      refine ⟨_, rfl, ?_, rfl⟩
      congr 1
      unfold LM.may LM.must
      have hok' : x.ok = true := by simpa using hok
      cases hcost : costB x.op.cost <;> by_cases ht : x.op.ttl < 0 <;> simp_all <;> omega
    · have h7' : x.op.kind = 7 := by simpa using h7
      refine ⟨_, Ext.refl _, (f71_spec _ _).use ?_⟩
      rintro v u' ⟨rfl, rfl⟩
      refine ⟨_, rfl, Ext.refl _, ?_, rfl⟩
      congr 1
      unfold LM.may LM.must
      cases hok : x.ok <;> cases hcost : costB x.op.cost <;> simp_all
    · have h1' : ¬ x.op.kind = 1 := by simpa using h1
      have h2' : ¬ x.op.kind = 2 := by simpa using h2
      have h7' : ¬ x.op.kind = 7 := by simpa using h7
      congr 1
      unfold LM.may LM.must
      have e : (decide (x.op.kind > 0) && decide (x.op.kind < 7)) = (decide (x.op.kind ≥ 3) && decide (x.op.kind ≤ 6)) := by
        rw [Bool.eq_iff_iff]; simp; omega
      cases hok : x.ok
      · simp_all
      · simp_all
        rw [Bool.eq_iff_iff]; simp
end
end Go.Proofs.Ytlmnfhhmgfnbpaa.E
