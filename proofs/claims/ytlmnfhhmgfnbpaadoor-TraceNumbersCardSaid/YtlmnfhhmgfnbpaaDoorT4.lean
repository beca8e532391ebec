/- CONTRACTS: the line of a call. -/
import Derived.Test.YtlmnfhhmgfnbpaaDoorT3
namespace Go.Proofs.YtlmnfhhmgfnbpaaDoor.E
open Go Go.RowKit
def bareO (op : Op) : Op :=
  if op.kind = 1 then ⟨op.kind, op.key, 0, 0, 0⟩ else if op.kind = 3 then ⟨op.kind, op.key, 0, 0, 0⟩ else if op.kind = 2 then op else if op.kind = 4 then ⟨op.kind, 0, 0, 0, 0⟩ else if op.kind = 5 then ⟨op.kind, 0, 0, 0, 0⟩
  else if op.kind = 6 then ⟨op.kind, 0, 0, 0, 0⟩ else if op.kind = 7 then ⟨7, 0, 0, op.cost, 0⟩ else ⟨0, 0, 0, 0, 0⟩
def eqO (a b : Op) : Bool := (a.kind == b.kind) && ((a.key == b.key) && ((a.val == b.val) && ((a.cost == b.cost) && (a.ttl == b.ttl))))
def rightB (op : Op) : Bool := knownB op.kind && eqO (bareO op) op
theorem f55_spec (op : Op) (u : PH) : Spec Tryd.prog 55 #[op.v] u fun v u' => v = (bareO op).v ∧ u' = u := by
  refine f55_of ?_
  unfold f55_V
  refine ⟨fun h => ?_, fun h1 => ⟨fun h => ?_, fun h2 => ⟨fun h => ?_, fun h3 => ⟨fun h => ?_, fun h4 => ⟨fun h => ?_, fun h5 => ⟨fun h => ?_, fun h6 => ⟨fun h => ?_, fun h7 => ?_⟩⟩⟩⟩⟩⟩⟩ <;> simp_all [bareO]
theorem f28_spec (op : Op) (u : PH) : Spec Tryd.prog 28 #[op.v] u fun v u' => v = .bool (rightB op) ∧ u' = u := by
  refine f28_of ?_
  unfold f28_V
  refine ⟨u, Ext.refl _, fun h => (f55_spec op u).use ?_, fun h => ⟨Ext.refl _, ?_, rfl⟩⟩
  · rintro v u' ⟨rfl, rfl⟩
    refine ⟨_, _, _, _, _, rfl, Ext.refl _, ?_, rfl⟩
    have h : knownB op.kind = true := h
    rw [rightB, h]; rfl
  · have h : knownB op.kind = false := h
    rw [rightB, h]; rfl
def numsL (op : Op) : List Int := if op.kind = 1 then [op.key] else if op.kind = 3 then [op.key] else if op.kind = 2 then [op.key, op.val, op.cost, op.ttl] else if op.kind = 7 then [op.cost] else []
abbrev encI : Int → List Value := fun x => [.int .i64 x]
theorem encI_len (x : Int) : (encI x).length = 1 := rfl
theorem f34_spec (op : Op) (u : PH) : Spec Tryd.prog 34 #[op.v] u fun v u' => ∃ a n, v = .slice a n n ∧ Sl encI 1 u' a n (numsL op) ∧ Ext u u' := by
  refine f34_of ?_
  unfold f34_V
  have one : ∀ {B : Nat} (x : Int), u B = none → numsL op = [x] → ∃ a n, Value.slice (some ⟨B, 0, none⟩) 1 1 = .slice a n n ∧ Sl encI 1 (PH.add u B (.cells #[.int .i64 x] 3)) a n (numsL op) ∧ Ext u (PH.add u B (.cells #[.int .i64 x] 3)) := fun {B} x hB he => by
    rw [he]
    exact ⟨_, _, rfl, (Own.fresh (u := u) hB 3 [x] encI_len (by unfold maxLen; simp)).sl encI_len, Ext.add hB _⟩
  refine ⟨fun h B hB => one _ hB ?_, fun h1 => ⟨fun h B hB => one _ hB ?_, fun h2 => ⟨fun h B hB => ?_, fun h3 => ⟨fun h B hB => one _ hB ?_, fun h4 => ?_⟩⟩⟩⟩
  · simp_all [numsL]
  · simp_all [numsL]
  · have he : numsL op = [op.key, op.val, op.cost, op.ttl] := by simp_all [numsL]
    rw [he]
    exact ⟨_, _, rfl, (Own.fresh (u := u) hB 3 [op.key, op.val, op.cost, op.ttl] encI_len (by unfold maxLen; simp)).sl encI_len, Ext.add hB _⟩
  · simp_all [numsL]
  · have he : numsL op = [] := by simp_all [numsL]
    rw [he]
    exact ⟨_, _, rfl, Sl.nil _, Ext.refl _⟩
structure OpI (op : Op) : Prop where
  kind : I64 op.kind
  key : I64 op.key
  val : I64 op.val
  cost : I64 op.cost
  ttl : I64 op.ttl
structure CallI (c : Call) : Prop where
  client : I64 c.client
  id : I64 c.id
  op : OpI c.op
  beg : I64 c.beg
  at_ : I64 c.at_
  end_ : I64 c.end_
  tick : I64 c.tick
  got : I64 c.got
theorem nums_ok {op : Op} (h : OpI op) : (numsL op).length ≤ 4 ∧ ∀ x ∈ numsL op, I64 x := by
  unfold numsL
  split
  · exact ⟨by simp, by simpa using h.key⟩
  split
  · exact ⟨by simp, by simpa using h.key⟩
  split
  · exact ⟨by simp, by simpa using ⟨h.key, h.val, h.cost, h.ttl⟩⟩
  split
  · exact ⟨by simp, by simpa using h.cost⟩
  · exact ⟨by simp, by simp⟩
def ansL (ok : Bool) : List UInt8 := if ok then [111, 107] else [110, 111]
theorem f32_spec (ok : Bool) (u : PH) : Spec Tryd.prog 32 #[.bool ok] u fun v u' => v = .string (S (ansL ok)) ∧ u' = u := by
  refine f32_of ?_
  unfold f32_V
  refine ⟨fun h => ⟨by rw [h]; rfl, rfl⟩, fun h => ⟨by rw [h]; rfl, rfl⟩⟩
def wordsL (c : Call) : List (List UInt8) := [nameL c.op.kind] ++ (numsL c.op).map Lib.itoa ++ [[61], ansL c.ok, Lib.itoa c.got, [91] ++ Lib.itoa c.beg, Lib.itoa c.at_, Lib.itoa c.end_ ++ [93], [64] ++ Lib.itoa c.tick]
def callL (c : Call) : List UInt8 := if rightB c.op then Lib.itoa c.client ++ [46] ++ Lib.itoa c.id ++ Lib.joinTail [32] (wordsL c) else []
theorem nameL_len (k : Int) : (nameL k).length ≤ 5 := by
  unfold nameL
  split
  · decide
  split
  · decide
  split
  · decide
  split
  · decide
  split
  · decide
  split
  · decide
  split
  · decide
  split
  · decide
  · decide
theorem flat_le {l : List Int} (h : ∀ x ∈ l, I64 x) : (l.flatMap fun x => [32] ++ Lib.itoa x).length ≤ 22 * l.length := by
  induction l with
  | nil => simp
  | cons x r ih =>
    have h1 := ih fun y hy => h y (by simp [hy])
    have h2 := itoa_len (h x (by simp))
    simp only [List.flatMap_cons, List.length_append, List.length_cons, List.length_nil]
    omega
theorem f9_spec {c : Call} (hc : CallI c) {u : PH} : Spec Tryd.prog 9 #[c.v] u fun v u' => v = .string (S (callL c)) ∧ Ext u u' := by
  obtain ⟨hn4, hnI⟩ := nums_ok hc.op
  have l1 := itoa_len hc.client
  have l2 := itoa_len hc.id
  have l3 := itoa_len hc.got
  have l4 := itoa_len hc.beg
  have l5 := itoa_len hc.at_
  have l6 := itoa_len hc.end_
  have l7 := itoa_len hc.tick
  have l8 := nameL_len c.op.kind
  refine f9_of ?_
  unfold f9_V
  refine (f28_spec c.op u).use ?_
  rintro v u' ⟨rfl, rfl⟩
  refine ⟨_, rfl, fun h => ⟨?_, Ext.refl _⟩, fun h B hB => ⟨_, Ext.refl _, ?_⟩⟩
  · have h : rightB c.op = false := by simpa using h
    rw [callL, h]; rfl
  have h : rightB c.op = true := by simpa using h
  have hk : knownB c.op.kind = true := by rw [rightB, Bool.and_eq_true] at h; exact h.1
  have hname : ∃ s : ByteArray, PH.cell (PH.add u' B (.cells #[.string (ByteArray.mk #[110, 111, 110, 101]), .string (ByteArray.mk #[103, 101, 116]), .string (ByteArray.mk #[115, 101, 116]), .string (ByteArray.mk #[100, 101, 108]), .string (ByteArray.mk #[119, 97, 105, 116]), .string (ByteArray.mk #[99, 108, 101, 97, 114]), .string (ByteArray.mk #[99, 108, 111, 115, 101]), .string (ByteArray.mk #[108, 105, 109, 105, 116])] 9)) B (0 + c.op.kind.toNat * 1) = some (.string s) ∧ s = S (nameL c.op.kind) := by
    generalize c.op.kind = k at hk
    rcases known_cases hk with rfl | rfl | rfl | rfl | rfl | rfl | rfl | rfl <;> exact ⟨_, by rw [PH.cell_eq (PH.add_eq _ _ _)]; rfl, rfl⟩
  obtain ⟨s, hs, rfl⟩ := hname
  have hkk := known_cases hk
  refine ⟨B, 0, rfl, by omega, _, hs, (f18_spec hc.client.1 hc.client.2).use ?_⟩
  rintro v u10 ⟨rfl, hE1⟩
  refine ⟨_, rfl, hE1, (by simp only [S_add, S_size, List.length_append, List.length_cons, List.length_nil]; omega), (f18_spec hc.id.1 hc.id.2).use ?_⟩
  rintro v u13 ⟨rfl, hE2⟩
  refine ⟨_, rfl, hE1.trans hE2, (by simp only [S_add, S_size, List.length_append, List.length_cons, List.length_nil]; omega), (by simp only [S_add, S_size, List.length_append, List.length_cons, List.length_nil]; omega), (by simp only [S_add, S_size, List.length_append, List.length_cons, List.length_nil]; omega), (f34_spec c.op u13).use ?_⟩
  rintro v u16 ⟨a17, n18, rfl, hS, hE3⟩
  have hEu : Ext u' u16 := (Ext.add hB _).trans (hE1.trans (hE2.trans hE3))
  have hSl := hS.len
  refine ⟨_, _, _, rfl, fun s n u24 => ∃ k : Nat, n = k ∧ k ≤ n18 ∧ s = S (Lib.itoa c.client ++ [46] ++ Lib.itoa c.id ++ [32] ++ nameL c.op.kind ++ ((numsL c.op).take k).flatMap fun x => [32] ++ Lib.itoa x) ∧ Ext u16 u24, fun _ n _ => n18 - n.toNat,
    ⟨0, rfl, by omega, by simp only [S_add, List.take_zero, List.flatMap_nil, List.append_nil], Ext.refl _⟩, ?_⟩
  rintro s n u24 ⟨k, rfl, hk, rfl, hE4⟩
  have hfl := flat_le (l := (numsL c.op).take k) fun x hx => hnI x (List.mem_of_mem_take hx)
  rw [List.length_take] at hfl
  refine ⟨fun hlt => ?_, fun hge => ?_⟩
  · have hlt := of_decide_eq_true hlt
    obtain ⟨x, hx⟩ : ∃ x, (numsL c.op)[k]? = some x := ⟨_, List.getElem?_eq_getElem (by omega)⟩
    have hxI := hnI x (List.mem_of_getElem? hx)
    have l9 := itoa_len hxI
    rw [wrap_i64 (x := (k : Int) + 1) (by omega) (by omega)]
    refine (hS.ext hE4).at (i := (k : Int)) (by omega) (by simpa using hx) fun b o hcc => ⟨x, by simpa using hcc 0 _ rfl, (f18_spec hxI.1 hxI.2).use ?_⟩
    rintro v u29 ⟨rfl, hE5⟩
    refine ⟨_, rfl, (by simp only [S_add, S_size, List.length_append, List.length_cons, List.length_nil]; omega), (by simp only [S_add, S_size, List.length_append, List.length_cons, List.length_nil]; omega), ⟨k + 1, by omega, by omega, ?_, hE4.trans hE5⟩, by show n18 - Int.toNat _ < n18 - Int.toNat _; omega⟩
    rw [List.take_add_one, hx, List.flatMap_append]
    simp [S_add]
  · have hge := of_decide_eq_false hge
    have : k = n18 := by omega
    subst this
    rw [List.take_of_length_le (by omega)] at hfl ⊢
    have fin : ∀ {u45 : PH} (a : List UInt8), Ext u24 u45 → a = [32] ++ [61] ++ [32] ++ ansL c.ok ++ [32] → Value.string (S (Lib.itoa c.client ++ [46] ++ Lib.itoa c.id ++ [32] ++ nameL c.op.kind ++ ((numsL c.op).flatMap fun x => [32] ++ Lib.itoa x) ++ a ++ Lib.itoa c.got ++ [32, 91] ++ Lib.itoa c.beg ++ [32] ++ Lib.itoa c.at_ ++ [32] ++ Lib.itoa c.end_ ++ [93, 32, 64] ++ Lib.itoa c.tick)) = .string (S (callL c)) ∧ Ext u' u45 := fun {u45} a h1 h2 => by
      refine ⟨?_, hEu.trans (hE4.trans h1)⟩
      rw [h2, callL, if_pos h]
      simp only [wordsL, Lib.joinTail, List.map_append, List.flatten_append, List.map_cons, List.map_nil, List.map_map, List.flatMap_def, List.flatten_cons, List.flatten_nil, List.append_assoc, List.cons_append, List.nil_append, List.append_nil]
      rfl
    refine ⟨fun hok => ⟨(by simp only [S_add, S_size, List.length_append, List.length_cons, List.length_nil]; omega), u24, Ext.refl _, (f18_spec hc.got.1 hc.got.2).use ?_⟩, fun hok => ⟨(by simp only [S_add, S_size, List.length_append, List.length_cons, List.length_nil]; omega), u24, Ext.refl _, (f18_spec hc.got.1 hc.got.2).use ?_⟩⟩
    all_goals
      rintro v u33 ⟨rfl, g1⟩
      refine ⟨_, rfl, g1, (by simp only [S_add, S_size, List.length_append, List.length_cons, List.length_nil]; omega), (by simp only [S_add, S_size, List.length_append, List.length_cons, List.length_nil]; omega), (f18_spec hc.beg.1 hc.beg.2).use ?_⟩
      rintro v u36 ⟨rfl, g2⟩
      refine ⟨_, rfl, g1.trans g2, (by simp only [S_add, S_size, List.length_append, List.length_cons, List.length_nil]; omega), (by simp only [S_add, S_size, List.length_append, List.length_cons, List.length_nil]; omega), (f18_spec hc.at_.1 hc.at_.2).use ?_⟩
      rintro v u39 ⟨rfl, g3⟩
      refine ⟨_, rfl, g1.trans (g2.trans g3), (by simp only [S_add, S_size, List.length_append, List.length_cons, List.length_nil]; omega), (by simp only [S_add, S_size, List.length_append, List.length_cons, List.length_nil]; omega), (f18_spec hc.end_.1 hc.end_.2).use ?_⟩
      rintro v u42 ⟨rfl, g4⟩
      refine ⟨_, rfl, g1.trans (g2.trans (g3.trans g4)), (by simp only [S_add, S_size, List.length_append, List.length_cons, List.length_nil]; omega), (by simp only [S_add, S_size, List.length_append, List.length_cons, List.length_nil]; omega), (f18_spec hc.tick.1 hc.tick.2).use ?_⟩
      rintro v u45 ⟨rfl, g5⟩
      refine ⟨_, rfl, g1.trans (g2.trans (g3.trans (g4.trans g5))), (by simp only [S_add, S_size, List.length_append, List.length_cons, List.length_nil]; omega), ?_⟩
      simp only [S_add]
      exact fin _ (g1.trans (g2.trans (g3.trans (g4.trans g5)))) (by rw [hok]; rfl)
end Go.Proofs.YtlmnfhhmgfnbpaaDoor.E
