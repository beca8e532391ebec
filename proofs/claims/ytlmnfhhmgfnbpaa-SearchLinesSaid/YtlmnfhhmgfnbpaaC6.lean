/- CONTRACTS: 'those' of hist: the calls that are asked for, in the stable order by a number of each. -/
import Derived.Test.YtlmnfhhmgfnbpaaC5
import Derived.Test.YtlmnfhhmgfnbpaaVB
namespace Go.Proofs.Ytlmnfhhmgfnbpaa.E
open Go
theorem ht22 : Try.prog.underlying 22 = some (.slice 28) := by kernel_rfl
noncomputable def i28 : TypeInfo := (Try.prog.info? 28).getD default
theorem hi28 : Try.prog.info? 28 = some i28 := by kernel_rfl
theorem e57 : entersB Try.prog 57 = true := by kernel_rfl
theorem Call.cells_len (x : Call) : (Call.cells x).length = 13 := rfl
theorem Call.cells_one (x : Call) : ∀ v ∈ Call.cells x, v.oneCell' = true := by
  intro v hv
  simp only [Call.cells, List.mem_cons, List.not_mem_nil, or_false] at hv
  rcases hv with h | h | h | h | h | h | h | h | h | h | h | h | h <;> subst h <;> rfl
theorem app_calls {u0 u : PH} {a a2 : Option Addr} {n c m c2 : Nat} {l l2 : List Call} (h : Own Call.cells 13 28 u0 u a n c l) (hx : Sl Call.cells 13 u a2 m l2) (hb : n + m ≤ 1000000000) (he : Ext u0 u) :
    SemSpec Try.prog (Builtin.append_ #[22, 22] 22 #[.slice a n c, .slice a2 m c2]) u fun v u' => ∃ a' c', v = .slice a' (n + m) c' ∧ Own Call.cells 13 28 u0 u' a' (n + m) c' (l ++ l2) ∧ Ext u0 u' ∧ Stays u u' a :=
  sem_append ht22 hi28 (z := .agg #[.int .i64 0, .int .i64 0, .int .i64 0, .int .i64 0, .int .i64 0, .int .i64 0, .int .i64 0, .int .i64 0, .int .i64 0, .int .i64 0, .int .i64 0, .bool false, .int .i64 0]) (by kernel_rfl) (size := 13) (by kernel_rfl) (bytes := 104) (by kernel_rfl) rfl (by omega) Call.cells_len Call.cells_one h hx (by unfold maxLen; omega) (by omega) he
/-- one call, in a block of its own -/
theorem Sl.one (u : PH) (b : Nat) (x : Call) (e : TypeId) : Sl Call.cells 13 (PH.add u b (.cells #[.int .i64 x.client, .int .i64 x.id, .int .i64 x.op.kind, .int .i64 x.op.key, .int .i64 x.op.val, .int .i64 x.op.cost, .int .i64 x.op.ttl, .int .i64 x.beg, .int .i64 x.at_, .int .i64 x.end_, .int .i64 x.tick, .bool x.ok, .int .i64 x.got] e)) (some ⟨b, 0, none⟩) 1 [x] :=
  ⟨rfl, fun i y hy => by
    cases i with
    | zero =>
      simp at hy; subst hy
      exact ⟨b, 0, rfl, PH.cells_of (PH.add_eq _ _ _) rfl⟩
    | succ i => simp at hy⟩
/-- a slice of one's own, as a row with numbers -/
instance : Inhabited Call := ⟨⟨0, 0, ⟨0, 0, 0, 0, 0⟩, 0, 0, 0, 0, false, 0⟩⟩
theorem Own.rowF {u0 u : PH} {b n c : Nat} {l : List Call} (h : Own Call.cells 13 28 u0 u (some ⟨b, 0, none⟩) n c l) : u0 b = none ∧ RowF encT 13 28 u b c n fun i => ((l[i]?).getD default, i) := by
  have hs := h.sl Call.cells_len
  rcases h.row with ⟨h0, _⟩ | ⟨b', cs, h1, h2, h3, h4, h5⟩
  · cases h0
  · cases h1
    refine ⟨h2, cs, h3, h4, h.le, fun i hi j y hj => ?_⟩
    have hlt : i < l.length := by have := h.len; omega
    obtain ⟨b2, o2, g1, g2⟩ := hs.get i _ (List.getElem?_eq_getElem hlt)
    cases g1
    have := g2 j y (by simpa [List.getElem?_eq_getElem hlt] using hj)
    rw [PH.cell_eq h3, Nat.zero_add] at this
    exact this
theorem list_of_row {f : Nat → CT} {n : Nat} {cs : Array Value} (h : ∀ i, i < n → ∀ j y, (encT (f i))[j]? = some y → cs[i * 13 + j]? = some y) :
    cs.toList.take (n * 13) = ((List.range n).map fun i => (f i).1).flatMap Call.cells := by
  induction n with
  | zero => simp
  | succ n ih =>
    rw [List.range_succ, List.map_append, List.flatMap_append, ← ih fun i hi => h i (by omega), Nat.add_mul, Nat.one_mul, List.take_add]
    congr 1
    apply List.ext_getElem?
    intro j
    simp only [List.map_cons, List.map_nil, List.flatMap_cons, List.flatMap_nil, List.append_nil]
    by_cases hj : j < 13
    · rw [List.getElem?_take_of_lt hj, List.getElem?_drop, Array.getElem?_toList]
      have hl : j < (Call.cells (f n).1).length := hj
      rw [List.getElem?_eq_getElem hl]
      exact h n (by omega) j _ (List.getElem?_eq_getElem hl)
    · rw [List.getElem?_eq_none (by simp; omega), List.getElem?_eq_none (by simpa using hj)]
theorem RowF.own {u0 u : PH} {b n c : Nat} {f : Nat → CT} (R : RowF encT 13 28 u b c n f) (h0 : u0 b = none) (hc : c ≤ maxLen) : Own Call.cells 13 28 u0 u (some ⟨b, 0, none⟩) n c ((List.range n).map fun i => (f i).1) := by
  obtain ⟨cs, h1, h2, h3, h4⟩ := R.ex
  exact ⟨by simp, h3, hc, .inr ⟨b, cs, rfl, h0, h1, h2, list_of_row h4⟩⟩
/-- nothing to sort -/
theorem f67_zero {a : Option Addr} {c : Nat} {cmp : Value} (hc : notAgg cmp = true) (u : PH) : Spec Try.prog 67 #[.slice a 0 c, .int .i64 0, cmp] u fun v u' => v = .tuple #[] ∧ u' = u := by
  refine f67_of (hcmp := hc) ?_
  unfold f67_V
  refine ⟨fun i j u' => i = 0 ∧ j = 20 ∧ u' = u, fun i _ _ => 0, ⟨rfl, rfl, rfl⟩, ?_⟩
  rintro i j u1 ⟨rfl, rfl, rfl⟩
  refine ⟨fun h => by simp at h, fun _ => ?_⟩
  have : Spec Try.prog 81 #[.slice a 0 c, .int .i64 0, .int .i64 0, cmp] u1 fun v u' => v = .tuple #[] ∧ u' = u1 := by
    refine f81_of (hcmp := hc) ?_
    unfold f81_V
    refine ⟨fun i u' => i = 1 ∧ u' = u1, fun i _ => 0, ⟨by decide, rfl⟩, ?_⟩
    rintro i u2 ⟨rfl, rfl⟩
    exact ⟨fun h => by simp at h, fun _ => ⟨rfl, rfl⟩⟩
  refine this.use ?_
  rintro v u2 ⟨rfl, rfl⟩
  refine ⟨rfl, fun i j k u' => i = 20 ∧ u' = u2, fun i _ _ _ => 0, ⟨rfl, rfl⟩, ?_⟩
  rintro i j k u3 ⟨rfl, rfl⟩
  exact ⟨fun h => by simp at h, fun _ => ⟨rfl, rfl⟩⟩
theorem f56_zero {a : Option Addr} {c : Nat} {cmp : Value} (hc : notAgg cmp = true) (u : PH) : Spec Try.prog 56 #[.slice a 0 c, cmp] u fun v u' => v = .tuple #[] ∧ u' = u := by
  refine f56_of (hcmp := hc) ?_
  unfold f56_V
  refine (f67_zero hc u).use ?_
  rintro v u' ⟨rfl, rfl⟩
  exact ⟨rfl, rfl, rfl⟩
theorem f57_spec {a b : Call} {B : Nat} {u : PH} {by_ : Value} {key : Call → Int} (hn : notAgg by_ = true) (hB : PH.cell u B 0 = some by_) (hby : ∀ x : Call, CallV Try.prog by_ [x.v] u fun v u' => v = .int .i64 (key x) ∧ u' = u) :
    Spec Try.prog 57 #[a.v, b.v, .pointer (some ⟨B, 0, none⟩)] u fun v u' => ∃ r : Int, v = .int .i64 r ∧ (r < 0 ↔ key a < key b) ∧ u' = u := by
  refine f57_of ?_
  unfold f57_V
  refine ⟨u, Ext.refl u, by_, hn, hB, by_, hn, hB, (hby a).mono ?_⟩
  rintro v u1 ⟨rfl, rfl⟩
  refine ⟨_, rfl, Ext.refl _, (hby b).mono ?_⟩
  rintro v u2 ⟨rfl, rfl⟩
  refine ⟨_, rfl, Ext.refl _, (f58_spec _ _ _).use ?_⟩
  rintro v u3 ⟨r, rfl, hr, _, rfl⟩
  exact ⟨r, rfl, Ext.refl _, r, rfl, hr, rfl⟩
theorem f38_spec {u : PH} {a : Option Addr} {n c : Nat} {L : List Call} {is by_ : Value} {p : Call → Bool} {key : Call → Int} (hL : Sl Call.cells 13 u a n L) (hn : n ≤ 1000000) (hi : notAgg is = true) (hb : notAgg by_ = true)
    (his : ∀ u1, Ext u u1 → ∀ x : Call, CallV Try.prog is [x.v] u1 fun v u' => v = .bool (p x) ∧ u' = u1) (hby : ∀ u1, Ext u u1 → ∀ x : Call, CallV Try.prog by_ [x.v] u1 fun v u' => v = .int .i64 (key x) ∧ u' = u1) :
    Spec Try.prog 38 #[.slice a n c, is, by_] u fun v u' => ∃ a' m c' L', v = .slice a' m c' ∧ Own Call.cells 13 28 u u' a' m c' L' ∧ Ext u u' ∧ Srt.Stable key (L.filter p) L' := by
  refine f38_of (his := hi) (hx2 := hb) ?_
  unfold f38_V
  refine ⟨fun a' m c' i u' => ∃ k : Nat, i = k ∧ k ≤ n ∧ Own Call.cells 13 28 u u' a' m c' ((L.take k).filter p) ∧ Ext u u', fun _ _ _ i _ => n - i.toNat, ⟨0, rfl, by omega, Own.nil _ _, Ext.refl u⟩, ?_⟩
  rintro a' m c' i u1 ⟨k, rfl, hk, hO, hE⟩
  have hlen := hL.len
  refine ⟨fun hlt => ?_, fun hge => ?_⟩
  · have hlt := of_decide_eq_true hlt
    obtain ⟨x, hx⟩ := (hL.ext hE).idx (i := (k : Int)) (by omega) hlt
    have hx' : L[k]? = some x := by simpa using hx
    refine (hL.ext hE).call (by omega) hx fun b o _ => (his u1 hE x).mono ?_
    rintro v u2 ⟨rfl, rfl⟩
    have htake : L.take (k + 1) = L.take k ++ [x] := by rw [List.take_add_one, hx']; rfl
    rw [wrap_i64 (by omega) (by omega)]
    refine ⟨_, rfl, fun hp B hB => ?_, fun hp => ?_⟩
    · have hm : m ≤ 1000000 := by
        have h1 := hO.len
        have h2 := List.length_filter_le p (L.take k)
        rw [List.length_take] at h2
        omega
      refine (app_calls (hO.ext (Ext.add hB _)) (Sl.one u2 B x 28) (by omega) (hE.trans (Ext.add hB _))).use ?_
      rintro v u3 ⟨a3, c3, rfl, hO3, hE3, _⟩
      refine ⟨_, _, _, rfl, ⟨k + 1, by omega, by omega, ?_, hE3⟩, by show n - Int.toNat _ < n - Int.toNat _; omega⟩
      rw [htake, List.filter_append]
      simpa [hp] using hO3
    · refine ⟨⟨k + 1, by omega, by omega, ?_, hE⟩, by show n - Int.toNat _ < n - Int.toNat _; omega⟩
      rw [htake, List.filter_append]
      simpa [hp] using hO
  · have hge := of_decide_eq_false hge
    have : k = n := by omega
    subst this
    rw [List.take_of_length_le (by omega)] at hO
    intro B hB
    have hm : m ≤ 1000000 := by
      have h1 := hO.len
      have h2 := List.length_filter_le p L
      omega
    rcases hO.row with ⟨rfl, rfl⟩ | ⟨b0, cs, rfl, hb0, hb1, _, _⟩
    · have hm0 : m = 0 := by have := hO.le; omega
      subst hm0
      refine (f56_zero rfl _).use ?_
      rintro v u2 ⟨rfl, rfl⟩
      refine ⟨rfl, _, _, _, _, rfl, hO.ext (Ext.add hB _), hE.trans (Ext.add hB _), ?_⟩
      have : L.filter p = [] := List.eq_nil_of_length_eq_zero hO.len
      rw [this]; exact Srt.Stable.nil
    · obtain ⟨hb2, R⟩ := (hO.ext (Ext.add hB (.cells #[by_] 51))).rowF
      have hbB : b0 ≠ B := fun h => by subst h; rw [hB] at hb1; cases hb1
      have hext : ∀ u3, SameBut (PH.add u1 B (.cells #[by_] 51)) u3 b0 → Ext u u3 := fun u3 h3 k' o hk' => by
        have h4 := hE k' o hk'
        have : k' ≠ b0 := fun h => by subst h; rw [hb2] at hk'; cases hk'
        have h5 : k' ≠ B := fun h => by subst h; rw [hB] at h4; cases h4
        rw [h3 k' this, PH.add_ne h5]; exact h4
      have hC : CmpOk (PH.add u1 B (.cells #[by_] 51)) b0 key (.func (.func 57) #[] #[.pointer (some ⟨B, 0, none⟩)]) := fun u3 h3 x y =>
        .inl ⟨57, _, rfl, e57, f57_spec hb (by rw [PH.cell_of_eq (h3 B (Ne.symm hbB)), PH.cell_eq (PH.add_eq _ _ _)]; rfl) fun x => hby u3 (hext u3 h3) x⟩
      refine (f56_spec rfl hC (by omega) R (SameBut.refl _ _) fun i j h1 h2 => h1).use ?_
      rintro v u3 ⟨rfl, hs3, f', R', hD⟩
      have hlen2 := hO.len
      refine ⟨rfl, _, _, _, _, rfl, R'.own hb2 hO.max, hext u3 hs3, ?_⟩
      rw [← hlen2]
      rw [← hlen2] at hD
      exact Srt.Stable.of_place (fun i x hx => by simp only [hx, Option.getD_some]) hD.1 hD.2
end Go.Proofs.Ytlmnfhhmgfnbpaa.E
