/- CONTRACTS: the clock, costs, and lossy maps. -/
import Derived.Test.YtlmnfhhmgfnbpaaL6
import Derived.Test.YtlmnfhhmgfnbpaaD1
import Derived.Test.YtlmnfhhmgfnbpaaC9
namespace Go.Proofs.Ytlmnfhhmgfnbpaa.E
open Go
def cut40 (n : Int) : Int := max 0 (min n 1099511627776)
theorem cut40_le (n : Int) : 0 ≤ cut40 n ∧ cut40 n ≤ 1099511627776 := by unfold cut40; omega
theorem f89_spec (n : Int) (u : PH) : Spec Try.prog 89 #[.int .i64 n] u fun v u' => v = .int .i64 (cut40 n) ∧ u' = u := by
  refine f89_of ?_
  unfold f89_V
  refine (sem_min _ _ _).use ?_
  rintro v u' ⟨rfl, rfl⟩
  refine ⟨_, rfl, (sem_max _ _ _).use ?_⟩
  rintro v u' ⟨rfl, rfl⟩
  exact ⟨_, rfl, rfl, rfl⟩
theorem f118_spec (n : Int) (u : PH) : Spec Try.prog 118 #[.int .i64 n] u fun v u' => v = .int .i64 (cut40 n) ∧ u' = u := by
  refine f118_of ?_
  unfold f118_V
  refine (sem_min _ _ _).use ?_
  rintro v u' ⟨rfl, rfl⟩
  refine ⟨_, rfl, (sem_max _ _ _).use ?_⟩
  rintro v u' ⟨rfl, rfl⟩
  exact ⟨_, rfl, rfl, rfl⟩
def behind (now n : Int) : Int := if n ≥ 1099511627776 - now then 1099511627776 else now + max n 0
theorem f88_spec (now n : Int) (u : PH) (h0 : 0 ≤ now) (h1 : now ≤ 1099511627776) : Spec Try.prog 88 #[.int .i64 now, .int .i64 n] u fun v u' => v = .int .i64 (behind now n) ∧ u' = u := by
  refine f88_of ?_
  unfold f88_V behind
  rw [wrap_i64 (by omega) (by omega)]
  refine ⟨fun h => ?_, fun h => ?_⟩
  · rw [if_pos (of_decide_eq_true h)]; exact ⟨rfl, rfl⟩
  · have h := of_decide_eq_false h
    refine (sem_max _ _ _).use ?_
    rintro v u' ⟨rfl, rfl⟩
    refine ⟨_, rfl, ?_, rfl⟩
    rw [if_neg h, wrap_i64 (by omega) (by omega)]
theorem f117_spec (now n : Int) (u : PH) (h0 : 0 ≤ now) (h1 : now ≤ 1099511627776) (hn : 0 < n) : Spec Try.prog 117 #[.int .i64 now, .int .i64 n] u fun v u' => v = .int .i64 (behind now n) ∧ u' = u := by
  refine f117_of ?_
  unfold f117_V behind
  rw [wrap_i64 (x := 1099511627776 - now) (by omega) (by omega)]
  refine ⟨fun h => ?_, fun _ => ⟨fun h => ?_, fun h => ?_⟩⟩
  · have h := of_decide_eq_true h; omega
  · have h := of_decide_eq_true h
    rw [if_pos (by omega)]; exact ⟨rfl, rfl⟩
  · have h := of_decide_eq_false h
    rw [wrap_i64 (by omega) (by omega)]
    refine ⟨?_, rfl⟩
    congr 1
    split <;> omega
def endAt (now ttl : Int) : Int := if ttl ≤ 0 then 0 else behind (cut40 now) ttl
theorem f74_spec (now ttl : Int) (u : PH) : Spec Try.prog 74 #[.int .i64 now, .int .i64 ttl] u fun v u' => v = .tuple #[.int .i64 (endAt now ttl), .bool (decide (0 ≤ ttl))] ∧ u' = u := by
  have hc := cut40_le now
  refine f74_of ?_
  unfold f74_V endAt
  refine ⟨fun h => ?_, fun h => ⟨fun h2 => ?_, fun h2 => ?_⟩⟩
  · have h : ttl = 0 := by simpa using h
    subst h; exact ⟨rfl, rfl⟩
  · have h2 := of_decide_eq_true h2
    rw [if_pos (by omega)]
    refine ⟨?_, rfl⟩
    have : decide (0 ≤ ttl) = false := by simp; omega
    rw [this]
  · have h2 := of_decide_eq_false h2
    have h : ¬ ttl = 0 := by simpa using h
    refine (f89_spec now u).use ?_
    rintro v u' ⟨rfl, rfl⟩
    refine ⟨_, rfl, (f88_spec (cut40 now) ttl _ hc.1 hc.2).use ?_⟩
    rintro v u' ⟨rfl, rfl⟩
    refine ⟨_, rfl, ?_, rfl⟩
    rw [if_neg (by omega)]
    have : decide (0 ≤ ttl) = true := by simp; omega
    rw [this]
theorem f104_spec (now ttl : Int) (u : PH) : Spec Try.prog 104 #[.int .i64 now, .int .i64 ttl] u fun v u' => v = .tuple #[.int .i64 (endAt now ttl), .bool (decide (0 ≤ ttl))] ∧ u' = u := by
  have hc := cut40_le now
  refine f104_of ?_
  unfold f104_V endAt
  refine ⟨fun h2 => ?_, fun h2 => ⟨fun h => ?_, fun h => ?_⟩⟩
  · have h2 := of_decide_eq_true h2
    rw [if_pos (by omega)]
    refine ⟨?_, rfl⟩
    have : decide (0 ≤ ttl) = false := by simp; omega
    rw [this]
  · have h : ttl = 0 := by simpa using h
    subst h; exact ⟨rfl, rfl⟩
  · have h2 := of_decide_eq_false h2
    have h : ¬ ttl = 0 := by simpa using h
    refine (f118_spec now u).use ?_
    rintro v u' ⟨rfl, rfl⟩
    refine ⟨_, rfl, (f117_spec (cut40 now) ttl _ hc.1 hc.2 (by omega)).use ?_⟩
    rintro v u' ⟨rfl, rfl⟩
    refine ⟨_, rfl, ?_, rfl⟩
    rw [if_neg (by omega)]
    have : decide (0 ≤ ttl) = true := by simp; omega
    rw [this]
def overB (e now : Int) : Bool := decide (e > 0) && decide (e ≤ now)
theorem f107_spec (e now : Int) (u : PH) : Spec Try.prog 107 #[.int .i64 e, .int .i64 now] u fun v u' => v = .bool (overB e now) ∧ u' = u := by
  refine f107_of ?_; unfold f107_V; exact ⟨rfl, rfl⟩
theorem f84_spec (e now : Int) (u : PH) : Spec Try.prog 84 #[.int .i64 e, .int .i64 now] u fun v u' => v = .bool (overB e now) ∧ u' = u := by
  refine f84_of ?_; unfold f84_V; exact ⟨rfl, rfl⟩
def costB (n : Int) : Bool := decide (n ≥ 0) && decide (n ≤ 4611686018427387904)
theorem f105_spec (n : Int) (u : PH) : Spec Try.prog 105 #[.int .i64 n] u fun v u' => v = .bool (costB n) ∧ u' = u := by
  refine f105_of ?_; unfold f105_V; exact ⟨rfl, rfl⟩
theorem f71_spec (n : Int) (u : PH) : Spec Try.prog 71 #[.int .i64 n] u fun v u' => v = .bool (costB n) ∧ u' = u := by
  refine f71_of ?_; unfold f71_V; exact ⟨rfl, rfl⟩
/-! lossy maps -/
structure LM where
  L : List (Int × Thing)
  closed : Bool
def LM.get (m : LM) (k now : Int) : Option Int := match Rk.getL k m.L with
  | none => none
  | some t => if overB t.end_ now then none else some t.val
def LM.must (m : LM) (x : Call) : Bool × Bool :=
  if m.closed then (x.op.kind == 6, true) else if x.op.kind = 2 then (false, !costB x.op.cost || decide (x.op.ttl < 0)) else if x.op.kind = 7 then (costB x.op.cost, true) else if x.op.kind = 1 then (false, false)
  else (decide (x.op.kind > 0) && decide (x.op.kind < 7), true)
def LM.may (m : LM) (x : Call) : Bool :=
  if (m.must x).2 && !(x.ok == (m.must x).1) then false else if (x.op.kind != 1) || !x.ok then x.got == 0 else match m.get x.op.key x.tick with
    | none => false
    | some v => v == x.got
def LM.next (m : LM) (x : Call) : LM :=
  if !x.ok then m else if x.op.kind = 2 then ⟨Rk.insL x.op.key ⟨x.op.val, endAt x.tick x.op.ttl⟩ m.L, m.closed⟩ else if x.op.kind = 3 then ⟨Rk.delL x.op.key m.L, m.closed⟩ else if x.op.kind = 6 then ⟨[], true⟩
  else if x.op.kind = 5 then ⟨[], m.closed⟩ else m
/-- the map at m -/
def MapAt (u : PH) (m : Option Addr) (x : LM) : Prop := ∃ (b : Nat) (p : Option Addr) (tr : Rk.T Thing), m = some ⟨b, 0, none⟩ ∧ u b = some (.cells #[.pointer p, .bool x.closed] 72) ∧ RkA.At (PH.del u b) p tr ∧ tr.toL = x.L ∧ Rk.Ord x.L ∧ x.L.length ≤ 800000
section
variable {u u' : PH} {m : Option Addr} {x : LM}
theorem MapAt.ext (h : MapAt u m x) (he : Ext u u') : MapAt u' m x := by
  obtain ⟨b, p, tr, h1, h2, h3, h4⟩ := h
  exact ⟨b, p, tr, h1, he _ _ h2, h3.ext he.del, h4⟩
theorem f64_spec (u : PH) : Spec Try.prog 64 #[] u fun v u' => ∃ q, v = .pointer q ∧ RkA.At u' q .nil ∧ Ext u u' := by
  refine f64_of ?_
  unfold f64_V
  refine (RkA.New_spec u).use ?_
  rintro v u' ⟨q, rfl, h⟩
  exact ⟨_, rfl, _, rfl, h⟩
theorem f49_spec (u : PH) : Spec Try.prog 49 #[] u fun v u' => ∃ m, v = .pointer m ∧ MapAt u' m ⟨[], false⟩ ∧ Ext u u' := by
  refine f49_of ?_
  unfold f49_V
  refine (f64_spec u).use ?_
  rintro v u' ⟨q, rfl, h1, h2⟩
  refine ⟨_, rfl, fun B hB => ⟨_, rfl, ⟨B, q, .nil, rfl, PH.add_eq _ _ _, ?_, rfl, List.Pairwise.nil, by simp⟩, h2.trans (Ext.add hB _)⟩⟩
  rw [PH.del_add hB]; exact h1
theorem f61_spec (h : MapAt u m x) : Spec Try.prog 61 #[.pointer m] u fun v u' => ∃ m', v = .pointer m' ∧ MapAt u' m' x ∧ Ext u u' ∧ ∃ b, m' = some ⟨b, 0, none⟩ ∧ u b = none := by
  obtain ⟨b, p, tr, rfl, hb, ht, hL⟩ := h
  refine f61_of ?_
  unfold f61_V
  refine ⟨fun h => by simp at h, fun _ => ⟨b, 0, rfl, p, x.closed, PH.cells_of hb rfl, fun B hB => ⟨_, rfl, ⟨B, p, tr, rfl, PH.add_eq _ _ _, ?_, hL⟩, Ext.add hB _, B, rfl, hB⟩⟩⟩
  rw [PH.del_add hB]; exact ht.ext (Ext.of_del _ _)
theorem f86_spec (h : MapAt u m x) (c : Call) : Spec Try.prog 86 #[.pointer m, c.v] u fun v u' => v = .tuple #[.bool (x.must c).1, .bool (x.must c).2] ∧ u' = u := by
  obtain ⟨b, p, tr, rfl, hb, ht, hL⟩ := h
  refine f86_of ?_
  unfold f86_V LM.must
  refine ⟨b, 0, rfl, x.closed, by rw [PH.cell_eq hb]; rfl, fun h => ?_, fun h => ⟨fun h2 => ?_, fun h2 => ⟨fun h7 => ?_, fun h7 => ⟨fun h1 => ?_, fun h1 => ?_⟩⟩⟩⟩
  · rw [if_pos h]; exact ⟨rfl, rfl⟩
  · have h2 : c.op.kind = 2 := by simpa using h2
    rw [if_neg (by simp [h]), if_pos h2]
    refine ⟨u, Ext.refl u, (f105_spec _ _).use ?_⟩
    rintro v u' ⟨rfl, rfl⟩
    exact ⟨_, rfl, Ext.refl _, Ext.refl _, rfl, rfl⟩
  · have h2 : ¬ c.op.kind = 2 := by simpa using h2
    have h7 : c.op.kind = 7 := by simpa using h7
    rw [if_neg (by simp [h]), if_neg h2, if_pos h7]
    refine (f105_spec _ _).use ?_
    rintro v u' ⟨rfl, rfl⟩
    exact ⟨_, rfl, rfl, rfl⟩
  · have h2 : ¬ c.op.kind = 2 := by simpa using h2
    have h7 : ¬ c.op.kind = 7 := by simpa using h7
    have h1 : c.op.kind = 1 := by simpa using h1
    rw [if_neg (by simp [h]), if_neg h2, if_neg h7, if_pos h1]; exact ⟨rfl, rfl⟩
  · have h2 : ¬ c.op.kind = 2 := by simpa using h2
    have h7 : ¬ c.op.kind = 7 := by simpa using h7
    have h1 : ¬ c.op.kind = 1 := by simpa using h1
    rw [if_neg (by simp [h]), if_neg h2, if_neg h7, if_neg h1]; exact ⟨rfl, rfl⟩
theorem f87_spec (h : MapAt u m x) (key now : Int) : Spec Try.prog 87 #[.pointer m, .int .i64 key, .int .i64 now] u fun v u' => (v = match x.get key now with
    | none => .tuple #[.int .i64 0, .bool false]
    | some n => .tuple #[.int .i64 n, .bool true]) ∧ u' = u := by
  obtain ⟨b, p, tr, rfl, hb, ht, hL, ho, hn⟩ := h
  refine f87_of ?_
  unfold f87_V LM.get
  refine ⟨fun h => by simp at h, fun _ => ⟨b, 0, rfl, p, by rw [PH.cell_eq hb]; rfl, (RkA.Get_spec key (ht.ext (Ext.of_del _ _)) (by rw [hL]; exact ho) (by rw [← Rk.T.toL_len, hL]; omega)).use ?_⟩⟩
  rintro v u' ⟨rfl, rfl⟩
  rw [hL]
  cases Rk.getL key x.L with
  | none => exact ⟨_, _, _, rfl, fun _ => ⟨rfl, rfl⟩, fun h => by simp at h⟩
  | some t =>
    refine ⟨t.val, t.end_, true, rfl, fun h => by simp at h, fun _ => (f107_spec t.end_ now _).use ?_⟩
    rintro v u' ⟨rfl, rfl⟩
    refine ⟨_, rfl, fun h => ?_, fun h => ?_⟩
    · simp only [h, if_true]; exact ⟨trivial, trivial⟩
    · simp only [h]; exact ⟨rfl, trivial⟩
theorem f73_spec (h : MapAt u m x) (c : Call) : Spec Try.prog 73 #[.pointer m, c.v] u fun v u' => v = .bool (x.may c) ∧ u' = u := by
  have h' := h
  obtain ⟨b, p, tr, rfl, hb, _⟩ := h'
  refine f73_of ?_
  unfold f73_V LM.may
  refine ⟨fun h => by simp at h, fun _ => (f86_spec h c).use ?_⟩
  rintro v u' ⟨rfl, rfl⟩
  refine ⟨_, _, rfl, fun h1 => ?_, fun h1 => ⟨fun h2 => ?_, fun h2 => ?_⟩⟩
  · rw [if_pos h1]; exact ⟨rfl, rfl⟩
  · rw [if_neg (by simp [h1]), if_pos h2]; exact ⟨rfl, rfl⟩
  · rw [if_neg (by simp [h1]), if_neg (by simp [h2])]
    refine (f87_spec h c.op.key c.tick).use ?_
    rintro v u' ⟨rfl, rfl⟩
    cases x.get c.op.key c.tick with
    | none => exact ⟨0, false, rfl, rfl, rfl⟩
    | some n => exact ⟨n, true, rfl, rfl, rfl⟩
theorem len_insL (k : Int) (v : Thing) : ∀ l : List (Int × Thing), (Rk.insL k v l).length ≤ l.length + 1
  | [] => by simp [Rk.insL]
  | x :: r => by
    have := len_insL k v r
    simp only [Rk.insL]
    split
    · simp
    · split
      · simp only [List.length_cons]; omega
      · simp
theorem len_delL (k : Int) : ∀ l : List (Int × Thing), (Rk.delL k l).length ≤ l.length
  | [] => by simp [Rk.delL]
  | x :: r => by
    have := len_delL k r
    simp only [Rk.delL]
    split
    · simp
    · simp only [List.length_cons]; omega
/-- all but the block at m stays -/
def Rest (u u' : PH) (m : Option Addr) : Prop := ∀ k o, (∀ a, m = some a → k ≠ a.block) → u k = some o → u' k = some o
theorem Ext.aside {u u' : PH} {b : Nat} {o : Obj} (he : Ext (PH.del u b) u') (hb : u b = some o) : Ext u (PH.add u' b o) := fun k x hk => by
  by_cases e : k = b
  · subst e; rw [PH.add_eq, ← hb, hk]
  · rw [PH.add_ne e]; exact he k x (by rw [PH.del_ne e]; exact hk)
theorem f63_spec (h : MapAt u m x) (c : Call) (hsm : x.L.length ≤ 700000) : Spec Try.prog 63 #[.pointer m, c.v] u fun v u' => v = .bool (x.may c) ∧ Rest u u' m ∧ (x.may c = true → MapAt u' m (x.next c)) ∧ (x.may c = false → u' = u) := by
  have hm := h
  obtain ⟨b, p, tr, rfl, hb, ht, hL, ho, hn⟩ := h
  have hsz : tr.size ≤ 800000 := by rw [← Rk.T.toL_len, hL]; exact hn
  refine f63_of ?_
  unfold f63_V
  refine (f73_spec hm c).use ?_
  rintro v u1 ⟨rfl, rfl⟩
  refine ⟨_, rfl, fun h => ?_, fun h => ?_⟩
  · have h : x.may c = false := by simpa using h
    rw [h]; exact ⟨rfl, fun k o _ hk => hk, fun h => (by cases h), fun _ => rfl⟩
  have h : x.may c = true := by simpa using h
  have fin : ∀ {u' : PH} {q : Option Addr} {t : Rk.T Thing} {cl : Bool} {y : LM}, u' b = none → Ext (PH.del u1 b) u' → RkA.At u' q t → t.toL = y.L → cl = y.closed → Rk.Ord y.L → y.L.length ≤ 800000 → x.next c = y →
      (Value.bool true = .bool (x.may c) ∧ Rest u1 (PH.add u' b (.cells #[.pointer q, .bool cl] 72)) (some ⟨b, 0, none⟩) ∧ (x.may c = true → MapAt (PH.add u' b (.cells #[.pointer q, .bool cl] 72)) (some ⟨b, 0, none⟩) (x.next c)) ∧ (x.may c = false → PH.add u' b (.cells #[.pointer q, .bool cl] 72) = u1)) := by
    intro u' q t cl y g1 g2 g3 g4 g5 g6 g7 g8
    subst g5
    refine ⟨by rw [h], fun k o hk hk' => ?_, fun _ => ⟨b, q, t, rfl, by rw [g8]; exact PH.add_eq _ _ _, by rw [PH.del_add g1]; exact g3, by rw [g8]; exact g4, by rw [g8]; exact g6, by rw [g8]; exact g7⟩, fun h' => by rw [h] at h'; cases h'⟩
    have hkb := hk _ rfl
    rw [PH.add_ne hkb]; exact g2 k o (by rw [PH.del_ne hkb]; exact hk')
  refine ⟨fun hok => ?_, fun hok => ⟨fun h2 => ?_, fun h2 => ⟨fun h3 => ?_, fun h3 => ⟨fun h6 => ?_, fun h6 => ⟨fun h5 => ?_, fun h5 => ?_⟩⟩⟩⟩⟩
  · refine ⟨by rw [h], fun k o _ hk => hk, fun _ => ?_, fun _ => rfl⟩
    rw [LM.next, if_pos hok]; exact hm
  · have h2 : c.op.kind = 2 := by simpa using h2
    refine (f74_spec c.tick c.op.ttl _).use ?_
    rintro v u2 ⟨rfl, rfl⟩
    refine ⟨_, _, rfl, _, Ext.refl _, b, 0, rfl, p, by rw [PH.cell_eq hb]; rfl, ((RkA.Put_spec c.op.key ⟨c.op.val, endAt c.tick c.op.ttl⟩ ht (by omega)).aside hb).use ?_⟩
    rintro v u3 ⟨u', ⟨q, rfl, g1, g2⟩, g3, rfl⟩
    refine ⟨_, rfl, g2.aside hb, b, 0, rfl, PH.free_add (by simp), ?_⟩
    rw [PH.write_add]
    have ho' : Rk.Ord tr.toL := by rw [hL]; exact ho
    refine fin g3 g2 g1 (y := ⟨Rk.insL c.op.key ⟨c.op.val, endAt c.tick c.op.ttl⟩ x.L, x.closed⟩) (by rw [Rk.toL_put _ _ _ ho', hL]) rfl (Rk.ord_insL _ _ _ ho) (by have := len_insL c.op.key ⟨c.op.val, endAt c.tick c.op.ttl⟩ x.L; simp only []; omega) ?_
    rw [LM.next, if_neg (by simpa using hok), if_pos h2]
  · have h2 : ¬ c.op.kind = 2 := by simpa using h2
    have h3 : c.op.kind = 3 := by simpa using h3
    refine ⟨b, 0, rfl, p, by rw [PH.cell_eq hb]; rfl, ((RkA.Drop_spec c.op.key ht (by omega)).aside hb).use ?_⟩
    rintro v u3 ⟨u', ⟨q, rfl, g1, g2⟩, g3, rfl⟩
    refine ⟨_, rfl, b, 0, rfl, PH.free_add (by simp), ?_⟩
    rw [PH.write_add]
    have ho' : Rk.Ord tr.toL := by rw [hL]; exact ho
    refine fin g3 g2 g1 (y := ⟨Rk.delL c.op.key x.L, x.closed⟩) (by rw [Rk.toL_drop _ _ ho', hL]) rfl (Rk.ord_delL _ _ ho) (by have := len_delL c.op.key x.L; simp only []; omega) ?_
    rw [LM.next, if_neg (by simpa using hok), if_neg h2, if_pos h3]
  · have h2 : ¬ c.op.kind = 2 := by simpa using h2
    have h3 : ¬ c.op.kind = 3 := by simpa using h3
    have h6 : c.op.kind = 6 := by simpa using h6
    refine ⟨b, 0, rfl, ⟨_, _, 0, 0, hb, by simp, fun j _ => by omega⟩, ?_⟩
    have hw : PH.write u1 b (0 + 1) [.bool true] = PH.add (PH.del u1 b) b (.cells #[.pointer p, .bool true] 72) := by
      conv => lhs; rw [← PH.split_one hb]
      rw [PH.write_add]; rfl
    rw [hw]
    have hdel : PH.del (PH.add (PH.del u1 b) b (.cells #[.pointer p, .bool true] 72)) b = PH.del u1 b := PH.del_add (PH.del_eq _ _)
    refine (Spec.aside (b := b) (by rw [hdel]; exact f64_spec (PH.del u1 b)) (PH.add_eq _ _ _)).use ?_
    rintro v u3 ⟨u', ⟨q, rfl, g1, g2⟩, g3, rfl⟩
    refine ⟨_, rfl, b, 0, rfl, PH.free_add (by simp), ?_⟩
    rw [PH.write_add]
    refine fin g3 g2 g1 (y := ⟨[], true⟩) rfl rfl List.Pairwise.nil (by simp) ?_
    rw [LM.next, if_neg (by simpa using hok), if_neg h2, if_neg h3, if_pos h6]
  · have h2 : ¬ c.op.kind = 2 := by simpa using h2
    have h3 : ¬ c.op.kind = 3 := by simpa using h3
    have h6 : ¬ c.op.kind = 6 := by simpa using h6
    have h5 : c.op.kind = 5 := by simpa using h5
    refine ((f64_spec (PH.del u1 b)).aside hb).use ?_
    rintro v u3 ⟨u', ⟨q, rfl, g1, g2⟩, g3, rfl⟩
    refine ⟨_, rfl, b, 0, rfl, PH.free_add (by simp), ?_⟩
    rw [PH.write_add]
    refine fin g3 g2 g1 (y := ⟨[], x.closed⟩) rfl rfl List.Pairwise.nil (by simp) ?_
    rw [LM.next, if_neg (by simpa using hok), if_neg h2, if_neg h3, if_neg h6, if_pos h5]
  · have h2 : ¬ c.op.kind = 2 := by simpa using h2
    have h3 : ¬ c.op.kind = 3 := by simpa using h3
    have h6 : ¬ c.op.kind = 6 := by simpa using h6
    have h5 : ¬ c.op.kind = 5 := by simpa using h5
    refine ⟨by rw [h], fun k o _ hk => hk, fun _ => ?_, fun _ => rfl⟩
    rw [LM.next, if_neg (by simpa using hok), if_neg h2, if_neg h3, if_neg h6, if_neg h5]; exact hm
end
end Go.Proofs.Ytlmnfhhmgfnbpaa.E
