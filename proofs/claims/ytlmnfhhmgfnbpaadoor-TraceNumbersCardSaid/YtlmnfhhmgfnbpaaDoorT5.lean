/- CONTRACTS: trace.Call's line. -/
import Derived.Test.YtlmnfhhmgfnbpaaDoorT4
namespace Go.Proofs.YtlmnfhhmgfnbpaaDoor.E
open Go Go.RowKit
abbrev encS : List UInt8 → List Value := fun x => [.string (S x)]
theorem encS_len (x : List UInt8) : (encS x).length = 1 := rfl
theorem ht55 : Tryd.prog.underlying 55 = some (.slice 9) := by kernel_rfl
noncomputable def i9 : TypeInfo := (Tryd.prog.info? 9).getD default
theorem hi9 : Tryd.prog.info? 9 = some i9 := by kernel_rfl
theorem app_strs {u0 u : PH} {a a2 : Option Addr} {n c m c2 : Nat} {l l2 : List (List UInt8)} (h : Own encS 1 9 u0 u a n c l) (hx : Sl encS 1 u a2 m l2) (hb : n + m ≤ 1000000000) (he : Ext u0 u) :
    SemSpec Tryd.prog (Builtin.append_ #[55, 55] 55 #[.slice a n c, .slice a2 m c2]) u fun v u' => ∃ a' c', v = .slice a' (n + m) c' ∧ Own encS 1 9 u0 u' a' (n + m) c' (l ++ l2) ∧ Ext u0 u' ∧ Stays u u' a :=
  sem_append ht55 hi9 (z := .string ByteArray.empty) (by kernel_rfl) (size := 1) (by kernel_rfl) (bytes := 16) (by kernel_rfl) rfl (by omega) encS_len (by intro x v hv; simp at hv; subst hv; rfl) h hx (by unfold maxLen; omega) (by omega) he
theorem f33_spec {u : PH} {a : Option Addr} {n c : Nat} {xs : List (List UInt8)} {sep : List UInt8} (h : Sl encS 1 u a n xs) (hn : n ≤ c) (hpos : 0 < n) (hc : n ≤ 1000000000) (hlen : (Lib.join xs sep).length ≤ 1000000000) :
    Spec Tryd.prog 33 #[.slice a n c, .string (S sep)] u fun v u' => v = .string (S (Lib.join xs sep)) ∧ u' = u := fun w hw => by
  have hl := h.len
  obtain ⟨b, o, rfl, h0⟩ := h.get 0 _ (List.getElem?_eq_getElem (by omega))
  have hcells : ∀ (j : Nat) x, xs[j]? = some x → PH.cell u b (o + j) = some (.string (S x)) := fun j x hj => by
    obtain ⟨b', o', h1, h2⟩ := h.get j x hj
    cases h1
    simpa using h2 0 _ rfl
  have e : (xs.map S).map (fun x : ByteArray => x.data.toList) = xs := by rw [List.map_map]; simp [Function.comp_def]
  have hbk : b < w.heap.size := by
    obtain ⟨cs, t, fr, g1, _⟩ := PH.cell_some (hcells 0 _ (List.getElem?_eq_getElem (by omega)))
    have := hw _ _ g1
    rcases Nat.lt_or_ge b w.heap.size with h | h
    · exact h
    · rw [Array.getElem?_eq_none h] at this; cases this
  have := Tryd.strings_Join b o c (xs.map S) (S sep) w (fun j x hj => by
    rw [List.getElem?_map] at hj
    obtain ⟨y, hy, rfl⟩ := Option.map_eq_some_iff.1 hj
    exact cell_ok' (hcells j y hy) hw) hbk (by rw [List.length_map]; omega) (by rw [List.length_map]; omega) (by rw [e]; exact Nat.le_trans hlen (by omega))
  rw [List.length_map, hl, e] at this
  exact this.mono (by
    rintro e w' ⟨rfl, hb⟩
    exact post_of_below hw hb ⟨rfl, rfl⟩)
abbrev encP (b : Nat) : Nat → List Value := fun p => [.pointer (some ⟨b, p, none⟩)]
theorem encP_len (b x : Nat) : (encP b x).length = 1 := rfl
theorem f31_spec {u : PH} {b o : Nat} {op : Op} (hk : PH.cell u b (o + 0) = some (.int .i64 op.kind)) : Spec Tryd.prog 31 #[.pointer (some ⟨b, o, none⟩)] u fun v u' => ∃ a n ps, v = .slice a n n ∧ Sl (encP b) 1 u' a n ps ∧ Ext u u' ∧ ps.length = (numsL op).length ∧
    ∀ (i : Nat) p x, ps[i]? = some p → (numsL op)[i]? = some x → ∃ j, p = o + j ∧ op.cells[j]? = some (.int .i64 x) := by
  refine f31_of ?_
  unfold f31_V
  have one : ∀ {B : Nat} (j : Nat) (x : Int), u B = none → numsL op = [x] → op.cells[j]? = some (.int .i64 x) → ∃ a n ps, Value.slice (some ⟨B, 0, none⟩) 1 1 = .slice a n n ∧ Sl (encP b) 1 (PH.add u B (.cells #[.pointer (some ⟨b, o + j, none⟩)] 68)) a n ps ∧ Ext u (PH.add u B (.cells #[.pointer (some ⟨b, o + j, none⟩)] 68)) ∧ ps.length = (numsL op).length ∧
      ∀ (i : Nat) p x, ps[i]? = some p → (numsL op)[i]? = some x → ∃ j, p = o + j ∧ op.cells[j]? = some (.int .i64 x) := fun {B} j x hB he hj => by
    rw [he]
    refine ⟨_, _, [o + j], rfl, (Own.fresh (u := u) hB 68 [o + j] (encP_len b) (by unfold maxLen; simp)).sl (encP_len b), Ext.add hB _, rfl, fun i p y h1 h2 => ?_⟩
    cases i with
    | zero => simp at h1 h2; subst h1; subst h2; exact ⟨j, rfl, hj⟩
    | succ i => simp at h1
  refine ⟨b, o, rfl, _, hk, fun h => ⟨b, o, rfl, fun B hB => one 1 op.key hB ?_ rfl⟩, fun h1 => ⟨fun h => ⟨b, o, rfl, fun B hB => one 1 op.key hB ?_ rfl⟩, fun h2 => ⟨fun h => ⟨b, o, rfl, b, o, rfl, b, o, rfl, b, o, rfl, fun B hB => ?_⟩, fun h3 => ⟨fun h => ⟨b, o, rfl, fun B hB => one 3 op.cost hB ?_ rfl⟩, fun h4 => ?_⟩⟩⟩⟩
  · simp_all [numsL]
  · simp_all [numsL]
  · have he : numsL op = [op.key, op.val, op.cost, op.ttl] := by simp_all [numsL]
    rw [he]
    refine ⟨_, _, [o + 1, o + 2, o + 3, o + 4], rfl, (Own.fresh (u := u) hB 68 [o + 1, o + 2, o + 3, o + 4] (encP_len b) (by unfold maxLen; simp)).sl (encP_len b), Ext.add hB _, rfl, fun i p y h1 h2 => ?_⟩
    match i, h1, h2 with
    | 0, h1, h2 => simp at h1 h2; subst h1; subst h2; exact ⟨1, rfl, rfl⟩
    | 1, h1, h2 => simp at h1 h2; subst h1; subst h2; exact ⟨2, rfl, rfl⟩
    | 2, h1, h2 => simp at h1 h2; subst h1; subst h2; exact ⟨3, rfl, rfl⟩
    | 3, h1, h2 => simp at h1 h2; subst h1; subst h2; exact ⟨4, rfl, rfl⟩
    | i + 4, h1, h2 => simp at h1
  · simp_all [numsL]
  · have he : numsL op = [] := by simp_all [numsL]
    rw [he]
    exact ⟨_, _, [], rfl, Sl.nil _, Ext.refl _, rfl, fun i p y h1 h2 => by simp at h1⟩
theorem add_none {u : PH} {b k : Nat} {o : Obj} (h : PH.add u b o k = none) : k ≠ b ∧ u k = none := by
  have hk : k ≠ b := fun e => by subst e; rw [PH.add_eq] at h; cases h
  rw [PH.add_ne hk] at h; exact ⟨hk, h⟩
/-- what f8 rests on -/
def Right29 : Prop := ∀ (op : Op) (u : PH), Spec Tryd.prog 29 #[op.v] u fun v u' => v = .bool (rightB op) ∧ Ext u u'
theorem f8_spec (H : Right29) {c : Call} (hc : CallI c) {u : PH} (T : Tb u) : Spec Tryd.prog 8 #[c.v] u fun v u' => v = .string (S (callL c)) ∧ Ext u u' := by
  obtain ⟨hn4, hnI⟩ := nums_ok hc.op
  have l1 := itoa_len hc.client
  have l2 := itoa_len hc.id
  have l3 := itoa_len hc.got
  have l4 := itoa_len hc.beg
  have l5 := itoa_len hc.at_
  have l6 := itoa_len hc.end_
  have l7 := itoa_len hc.tick
  have l8 := nameL_len c.op.kind
  refine f8_of ?_
  unfold f8_V
  refine (H c.op u).use ?_
  rintro v u2 ⟨rfl, hE2⟩
  have T2 := T.ext hE2
  refine ⟨_, rfl, fun h => ⟨?_, hE2⟩, fun h => ⟨u2, Ext.refl _, (f17_spec hc.client.1 hc.client.2 T2).use ?_⟩⟩
  · have h : rightB c.op = false := by simpa using h
    rw [callL, h]; rfl
  have h : rightB c.op = true := by simpa using h
  rintro v u' ⟨rfl, rfl⟩
  refine ⟨_, rfl, Ext.refl _, (by simp only [S_add, S_size, List.length_append, List.length_cons, List.length_nil]; omega), (f17_spec hc.id.1 hc.id.2 T2).use ?_⟩
  rintro v u' ⟨rfl, rfl⟩
  refine ⟨_, rfl, Ext.refl _, (by simp only [S_add, S_size, List.length_append, List.length_cons, List.length_nil]; omega), (f30_spec T2).use ?_⟩
  rintro v u' ⟨rfl, rfl⟩
  refine ⟨_, rfl, Ext.refl _, fun B14 h14 => ⟨Ext.add h14 _, fun B15 h15 => ?_⟩⟩
  obtain ⟨n54, h15'⟩ := add_none h15
  have hcell : ∀ {x : PH} (j : Nat) (y : Value), c.cells[j]? = some y → PH.cell (PH.add x B15 (.cells c.cells.toArray 25)) B15 (0 + j) = some y := fun {x} j y hj => by
    rw [PH.cell_eq (PH.add_eq _ _ _), Nat.zero_add, List.getElem?_toArray]; exact hj
  refine (f31_spec (op := c.op) (o := 2) (hcell 2 _ rfl)).use ?_
  rintro v u17 ⟨a18, n19, ps, rfl, hP, hE17, hpl, hps⟩
  have hPl := hP.len
  have k14 : u17 B14 = some (.cells #[.string ((S (Lib.itoa c.client) ++ ByteArray.mk #[46]) ++ S (Lib.itoa c.id)), .string (S (nameL c.op.kind))] 9) := hE17 _ _ (by rw [PH.add_ne n54.symm, PH.add_eq])
  have k15 : u17 B15 = some (.cells c.cells.toArray 25) := hE17 _ _ (PH.add_eq _ _ _)
  have hEu : Ext u (PH.del u17 B14) := fun k o hk => by
    have h1 := hE2 _ _ hk
    have e1 : k ≠ B14 := fun e => by subst e; rw [h14] at h1; cases h1
    have e2 : k ≠ B15 := fun e => by subst e; rw [h15'] at h1; cases h1
    rw [PH.del_ne e1]
    exact hE17 _ _ (by rw [PH.add_ne e2, PH.add_ne e1]; exact h1)
  have hOwn : Own encS 1 9 (PH.del u17 B14) u17 (some ⟨B14, 0, none⟩) 2 2 [Lib.itoa c.client ++ [46] ++ Lib.itoa c.id, nameL c.op.kind] :=
    ⟨rfl, Nat.le_refl _, by unfold maxLen; omega, .inr ⟨B14, _, rfl, PH.del_eq _ _, k14, rfl, by simp [S_add, encS]⟩⟩
  obtain ⟨base, hbase⟩ : ∃ base, base = PH.del u17 B14 := ⟨_, rfl⟩
  have hb17 : Ext base u17 := by rw [hbase]; exact Ext.of_del _ _
  have hb15 : base B15 = some (.cells c.cells.toArray 25) := by rw [hbase, PH.del_ne n54]; exact k15
  have hbP : Sl (encP B15) 1 base a18 n19 ps := by
    refine ⟨hP.len, fun i x hx => ?_⟩
    obtain ⟨b', o', g1, g2⟩ := hP.get i x hx
    refine ⟨b', o', g1, fun j y hj => ?_⟩
    have hne : b' ≠ B14 := fun e => by
      subst e
      have g3 := g2 j y hj
      rw [PH.cell_eq k14] at g3
      cases j with
      | zero =>
        simp only [List.getElem?_cons_zero, Option.some.injEq] at hj
        subst hj
        have : o' + i * 1 + 0 < 2 := (Array.getElem?_eq_some_iff.1 g3).1
        have hh : o' + i * 1 + 0 = 0 ∨ o' + i * 1 + 0 = 1 := by omega
        rcases hh with hh | hh <;> rw [hh] at g3 <;> simp at g3
      | succ j => simp at hj
    rw [hbase, PH.cell_of_eq (PH.del_ne hne)]; exact g2 j y hj
  have hTb : Tb base := T.ext (by rw [hbase]; exact hEu)
  rw [← hbase] at hOwn hEu
  clear hbase
  have hbc : ∀ {x : PH} (_ : Ext base x) (j : Nat) (y : Value), c.cells[j]? = some y → PH.cell x B15 (0 + j) = some y := fun he j y hj => by
    rw [PH.cell_eq (he _ _ hb15), Nat.zero_add, List.getElem?_toArray]; exact hj
  refine ⟨_, _, _, rfl, fun a l c' n u' => ∃ k : Nat, n = k ∧ k ≤ n19 ∧ l = 2 + k ∧ Own encS 1 9 base u' a l c' ([Lib.itoa c.client ++ [46] ++ Lib.itoa c.id, nameL c.op.kind] ++ ((numsL c.op).take k).map Lib.itoa) ∧ Ext base u', fun _ _ _ n _ => n19 - n.toNat,
    ⟨0, rfl, by omega, rfl, by simpa using hOwn, hb17⟩, ?_⟩
  rintro a23 l24 c25 n26 u27 ⟨k, rfl, hk, rfl, hW, hE27⟩
  refine ⟨fun hlt => ?_, fun hge => ?_⟩
  · have hlt := of_decide_eq_true hlt
    have hp : ps[((k : Int)).toNat]? = some (ps[k]'(by omega)) := List.getElem?_eq_getElem (by omega)
    have hx : (numsL c.op)[k]? = some ((numsL c.op)[k]'(by omega)) := List.getElem?_eq_getElem (by omega)
    obtain ⟨j, hj1, hj2⟩ := hps k _ _ hp hx
    have hxI := hnI _ (List.mem_of_getElem? hx)
    rw [wrap_i64 (x := (k : Int) + 1) (by omega) (by omega)]
    refine (hbP.ext hE27).at (i := (k : Int)) (by omega) hp fun b o hcc => ⟨_, by simpa using hcc 0 _ rfl, B15, _, rfl, (numsL c.op)[k]'(by omega), ?_, (f17_spec hxI.1 hxI.2 (hTb.ext hE27)).use ?_⟩
    · have hc5 : j < 5 := by
        have := (List.getElem?_eq_some_iff.1 hj2).1
        simpa using this
      have := hbc hE27 (2 + j) (.int .i64 ((numsL c.op)[k]'(by omega))) (by
        match j, hc5, hj2 with
        | 0, _, h | 1, _, h | 2, _, h | 3, _, h | 4, _, h => exact h)
      have e : ps[((k : Int)).toNat]'(by omega) = 2 + j := hj1
      rw [Nat.zero_add] at this
      show PH.cell u27 B15 (ps[k]'(by omega)) = _
      rw [show ps[k]'(by omega) = 2 + j from hj1]; exact this
    rintro v u35 ⟨rfl, rfl⟩
    refine ⟨_, rfl, fun B hB => (app_strs (hW.ext (Ext.add hB _)) ((Own.fresh (u := u35) hB 9 [Lib.itoa ((numsL c.op)[k]'(by omega))] encS_len (by unfold maxLen; simp)).sl encS_len) (by simp; omega) (hE27.trans (Ext.add hB _))).use ?_⟩
    rintro v u39 ⟨a', c'', rfl, hO, hE39, _⟩
    refine ⟨_, _, _, rfl, ⟨k + 1, by omega, by omega, by simp; omega, ?_, hE39⟩, by show n19 - Int.toNat _ < n19 - Int.toNat _; omega⟩
    rw [List.take_add_one, hx, List.map_append, ← List.append_assoc]
    exact hO
  · have hge := of_decide_eq_false hge
    have : k = n19 := by omega
    subst this
    rw [List.take_of_length_le (by omega)] at hW
    refine ⟨base, hE27, _, hbc (Ext.refl _) 11 _ rfl, _, hbc (Ext.refl _) 12 _ rfl, _, hbc (Ext.refl _) 7 _ rfl, _, hbc (Ext.refl _) 8 _ rfl, _, hbc (Ext.refl _) 9 _ rfl, _, hbc (Ext.refl _) 10 _ rfl, (f32_spec c.ok u27).use ?_⟩
    have T7 := hTb.ext hE27
    rintro v u' ⟨rfl, rfl⟩
    refine ⟨_, rfl, hE27, (f17_spec hc.got.1 hc.got.2 T7).use ?_⟩
    rintro v u' ⟨rfl, rfl⟩
    refine ⟨_, rfl, hE27, (f17_spec hc.beg.1 hc.beg.2 T7).use ?_⟩
    rintro v u' ⟨rfl, rfl⟩
    refine ⟨_, rfl, hE27, (by simp only [S_add, S_size, List.length_append, List.length_cons, List.length_nil]; omega), (f17_spec hc.at_.1 hc.at_.2 T7).use ?_⟩
    rintro v u' ⟨rfl, rfl⟩
    refine ⟨_, rfl, hE27, (f17_spec hc.end_.1 hc.end_.2 T7).use ?_⟩
    rintro v u' ⟨rfl, rfl⟩
    refine ⟨_, rfl, hE27, (by simp only [S_add, S_size, List.length_append, List.length_cons, List.length_nil]; omega), (f17_spec hc.tick.1 hc.tick.2 T7).use ?_⟩
    rintro v u' ⟨rfl, rfl⟩
    refine ⟨_, rfl, hE27, (by simp only [S_add, S_size, List.length_append, List.length_cons, List.length_nil]; omega), fun B68 h68 => ⟨hE27.trans (Ext.add h68 _), ?_⟩⟩
    have hlast : Sl encS 1 (PH.add u' B68 (.cells #[.string (ByteArray.mk #[61]), .string (S (ansL c.ok)), .string (S (Lib.itoa c.got)), .string (ByteArray.mk #[91] ++ S (Lib.itoa c.beg)), .string (S (Lib.itoa c.at_)), .string (S (Lib.itoa c.end_) ++ ByteArray.mk #[93]), .string (ByteArray.mk #[64] ++ S (Lib.itoa c.tick))] 9)) (some ⟨B68, 0, none⟩) 7
        [[61], ansL c.ok, Lib.itoa c.got, [91] ++ Lib.itoa c.beg, Lib.itoa c.at_, Lib.itoa c.end_ ++ [93], [64] ++ Lib.itoa c.tick] := by
      simp only [S_add]
      exact (Own.fresh (u := u') h68 9 [[61], ansL c.ok, Lib.itoa c.got, [91] ++ Lib.itoa c.beg, Lib.itoa c.at_, Lib.itoa c.end_ ++ [93], [64] ++ Lib.itoa c.tick] encS_len (by unfold maxLen; simp)).sl encS_len
    refine (app_strs (hW.ext (Ext.add h68 _)) hlast (by omega) (hE27.trans (Ext.add h68 _))).use ?_
    rintro v u70 ⟨a71, c73, rfl, hO, hE70, _⟩
    have hjoin : Lib.join ([Lib.itoa c.client ++ [46] ++ Lib.itoa c.id, nameL c.op.kind] ++ (numsL c.op).map Lib.itoa ++ [[61], ansL c.ok, Lib.itoa c.got, [91] ++ Lib.itoa c.beg, Lib.itoa c.at_, Lib.itoa c.end_ ++ [93], [64] ++ Lib.itoa c.tick]) [32] = callL c := by
      rw [callL, if_pos h]
      show Lib.join ((Lib.itoa c.client ++ [46] ++ Lib.itoa c.id) :: wordsL c) [32] = _
      rw [Lib.join_cons]
    have hcl : (callL c).length ≤ 1000 := by
      have := flat_le hnI
      rw [callL, if_pos h]
      have l9 : (ansL c.ok).length ≤ 2 := by unfold ansL; split <;> simp
      simp only [wordsL, Lib.joinTail, List.map_append, List.flatten_append, List.map_cons, List.map_nil, List.map_map, List.flatten_cons, List.flatten_nil, List.length_append, List.length_cons, List.length_nil]
      have e : ((numsL c.op).map ((fun x => [32] ++ x) ∘ Lib.itoa)).flatten.length = ((numsL c.op).flatMap fun x => [32] ++ Lib.itoa x).length := by rw [List.flatMap_def]; rfl
      rw [e]
      omega
    refine ⟨_, _, _, rfl, hE70, (f33_spec (sep := [32]) (hO.sl encS_len) hO.le (by omega) (by omega) (by rw [hjoin]; omega)).use ?_⟩
    rintro v u75 ⟨rfl, rfl⟩
    exact ⟨_, rfl, by rw [hjoin], hEu.trans hE70⟩
end Go.Proofs.YtlmnfhhmgfnbpaaDoor.E
