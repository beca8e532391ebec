/- CONTRACTS: prog.Right, through its two loops over a call's own numbers. -/
import Derived.Test.YtlmnfhhmgfnbpaaDoorT5
namespace Go.Proofs.YtlmnfhhmgfnbpaaDoor.E
open Go Go.RowKit
theorem ht48 : Tryd.prog.underlying 48 = some (.slice 3) := by kernel_rfl
noncomputable def i3 : TypeInfo := (Tryd.prog.info? 3).getD default
theorem hi3 : Tryd.prog.info? 3 = some i3 := by kernel_rfl
theorem app_ints {u0 u : PH} {a a2 : Option Addr} {n c m c2 : Nat} {l l2 : List Int} (h : Own encI 1 3 u0 u a n c l) (hx : Sl encI 1 u a2 m l2) (hb : n + m ≤ 1000000000) (he : Ext u0 u) :
    SemSpec Tryd.prog (Builtin.append_ #[48, 48] 48 #[.slice a n c, .slice a2 m c2]) u fun v u' => ∃ a' c', v = .slice a' (n + m) c' ∧ Own encI 1 3 u0 u' a' (n + m) c' (l ++ l2) ∧ Ext u0 u' ∧ Stays u u' a :=
  sem_append ht48 hi3 (z := .int .i64 0) (by kernel_rfl) (size := 1) (by kernel_rfl) (bytes := 8) (by kernel_rfl) rfl (by omega) encI_len (by intro x v hv; simp at hv; subst hv; rfl) h hx (by unfold maxLen; omega) (by omega) he
def offsK (k : Int) : List Nat := if k = 1 then [1] else if k = 3 then [1] else if k = 2 then [1, 2, 3, 4] else if k = 7 then [3] else []
theorem offs_nums (op : Op) : (offsK op.kind).length = (numsL op).length ∧ (offsK op.kind).length ≤ 4 ∧ ∀ (i : Nat) p x, (offsK op.kind)[i]? = some p → (numsL op)[i]? = some x → op.cells[p]? = some (.int .i64 x) ∧ p < 5 := by
  have one : ∀ (p : Nat) (x : Int), offsK op.kind = [p] → numsL op = [x] → op.cells[p]? = some (.int .i64 x) → p < 5 → (offsK op.kind).length = (numsL op).length ∧ (offsK op.kind).length ≤ 4 ∧ ∀ (i : Nat) p x, (offsK op.kind)[i]? = some p → (numsL op)[i]? = some x → op.cells[p]? = some (.int .i64 x) ∧ p < 5 := fun p x h1 h2 h3 h4 => by
    rw [h1, h2]
    refine ⟨rfl, by simp, fun i q y g1 g2 => ?_⟩
    cases i with
    | zero => simp at g1 g2; subst g1; subst g2; exact ⟨h3, h4⟩
    | succ i => simp at g1
  by_cases h1 : op.kind = 1
  · exact one 1 op.key (by simp [offsK, h1]) (by simp [numsL, h1]) rfl (by omega)
  by_cases h3 : op.kind = 3
  · exact one 1 op.key (by simp [offsK, h3]) (by simp [numsL, h3]) rfl (by omega)
  by_cases h2 : op.kind = 2
  · have e1 : offsK op.kind = [1, 2, 3, 4] := by simp [offsK, h2]
    have e2 : numsL op = [op.key, op.val, op.cost, op.ttl] := by simp [numsL, h2]
    rw [e1, e2]
    refine ⟨rfl, by simp, fun i q y g1 g2 => ?_⟩
    match i, g1, g2 with
    | 0, g1, g2 => simp at g1 g2; subst g1; subst g2; exact ⟨rfl, by omega⟩
    | 1, g1, g2 => simp at g1 g2; subst g1; subst g2; exact ⟨rfl, by omega⟩
    | 2, g1, g2 => simp at g1 g2; subst g1; subst g2; exact ⟨rfl, by omega⟩
    | 3, g1, g2 => simp at g1 g2; subst g1; subst g2; exact ⟨rfl, by omega⟩
    | i + 4, g1, g2 => simp at g1
  by_cases h7 : op.kind = 7
  · exact one 3 op.cost (by simp [offsK, h7]) (by simp [numsL, h7]) rfl (by omega)
  · have e1 : offsK op.kind = [] := by simp [offsK, h1, h3, h2, h7]
    have e2 : numsL op = [] := by simp [numsL, h1, h3, h2, h7]
    rw [e1, e2]
    exact ⟨rfl, by simp, fun i q y g1 g2 => by simp at g1⟩
theorem none_of_ext {u v : PH} {b : Nat} (he : Ext u v) (h : v b = none) : u b = none := by
  cases hu : u b with
  | none => rfl
  | some o => rw [he _ _ hu] at h; cases h
theorem CallV.mono {P : Program} {x : Value} {args : List Value} {u : PH} {Q Q' : Value → PH → Prop} (h : CallV P x args u Q) (hq : ∀ v u', Q v u' → Q' v u') : CallV P x args u Q' := by
  rcases h with ⟨f, caps, h1, h2, h3⟩ | ⟨l, h1, h2⟩
  · exact .inl ⟨f, caps, h1, h2, h3.mono hq⟩
  · refine .inr ⟨l, h1, fun w hw => ?_⟩
    obtain ⟨r, k1, k2, k3⟩ := h2 w hw
    exact ⟨r, k1, k2, k3.mono fun e w' ⟨v, u', a1, a2, a3, a4⟩ => ⟨v, u', a1, a2, a3, hq v u' a4⟩⟩
/-- of what the yields of 'own' leave -/
structure YOk (y : Value) (J : Nat → PH → Prop) (b : Nat) (ps : List Nat) : Prop where
  ok : ∀ (i : Nat) (F u : PH) (p : Nat), ps[i]? = some p → J i F → Ext F u → CallV Tryd.prog y [.pointer (some ⟨b, p, none⟩)] u fun v u' => v = .bool true ∧ ∃ F', J (i + 1) F' ∧ Ext F' u' ∧ (∀ k o, F k = none → u k = some o → u' k = some o) ∧ (∀ k, F' k ≠ none → F k ≠ none ∨ u k = none)
theorem loopOwn {y : Value} {J : Nat → PH → Prop} {b : Nat} {ps : List Nat} (hY : YOk y J b ps) {n : Nat} {N : Int} (hN : N = n) (hn : ps.length = n) (hn4 : n ≤ 4) {cs : Array Value} (hcs : ∀ (i : Nat) p, ps[i]? = some p → cs[i]? = some (.pointer (some ⟨b, p, none⟩))) {u F : PH} {B8 : Nat} (h8 : u B8 = none) (hJ : J 0 F) (hF : Ext F u) {Q : Value → PH → Prop}
    (hQ : ∀ u', (∃ F', J n F' ∧ Ext F' u' ∧ ∀ k o, F k = none → u k = some o → u' k = some o ∧ F' k = none) → Q (.tuple #[]) u') :
    ∃ (I9 : Int → PH → Prop) (M10 : Int → PH → Nat), I9 0 (PH.add u B8 (.cells cs 68)) ∧ ∀ n11 : Int, ∀ u12 : PH, I9 n11 u12 →
      ((decide ((n11 : Int) < N)) = true → ∃ b13 o14 : Nat, ((some ⟨B8, 0, none⟩) : Option Addr) = some ⟨b13, o14, none⟩ ∧ ((0 : Int) ≤ n11 ∧ (n11 : Int) < ((n : Nat) : Int)) ∧ ∃ p15 : Option Addr, PH.cell u12 b13 (o14 + (n11 : Int).toNat * 1) = some (.pointer p15) ∧
        CallV Tryd.prog y [.pointer p15] u12 (fun v16 u17 => ∃ b18 : Bool, v16 = .bool b18 ∧ ((!b18) = true → Q (.tuple #[]) u17) ∧ ((!b18) = false → I9 (IntKind.wrap .i64 (n11 + 1)) u17 ∧ M10 (IntKind.wrap .i64 (n11 + 1)) u17 < M10 n11 u12))) ∧
      ((decide ((n11 : Int) < N)) = false → Q (.tuple #[]) u12) := by
  subst hN
  refine ⟨fun i u' => ∃ (k : Nat) (F' : PH), i = k ∧ k ≤ n ∧ J k F' ∧ Ext F' u' ∧ F' B8 = none ∧ u' B8 = some (.cells cs 68) ∧ ∀ j o, F j = none → u j = some o → u' j = some o ∧ F' j = none, fun i _ => n - i.toNat,
    ⟨0, F, rfl, by omega, hJ, hF.trans (Ext.add h8 _), none_of_ext hF h8, PH.add_eq _ _ _, fun j o h1 h2 => ⟨Ext.add h8 _ _ _ h2, h1⟩⟩, ?_⟩
  rintro i u1 ⟨k, F', rfl, hk, hJk, hE, hB, hu8, hkeep⟩
  refine ⟨fun hlt => ?_, fun hge => ?_⟩
  · have hlt := of_decide_eq_true hlt
    have hp : ps[k]? = some (ps[k]'(by omega)) := List.getElem?_eq_getElem (by omega)
    rw [wrap_i64 (x := (k : Int) + 1) (by omega) (by omega)]
    refine ⟨B8, 0, rfl, by omega, _, by rw [PH.cell_eq hu8, Nat.zero_add, Nat.mul_one, Int.toNat_natCast]; exact hcs k _ hp, (hY.ok k F' u1 _ hp hJk hE).mono ?_⟩
    rintro v u2 ⟨rfl, F2, hJ2, hE2, hkeep2, hdom⟩
    have nn : ∀ j o, F' j = none → u1 j = some o → F2 j = none := fun j o h1 h2 => by
      cases h : F2 j with
      | none => rfl
      | some x =>
        rcases hdom j (by rw [h]; simp) with g | g
        · exact (g h1).elim
        · rw [g] at h2; cases h2
    refine ⟨_, rfl, fun h => by simp at h, fun _ => ⟨⟨k + 1, F2, by omega, by omega, hJ2, hE2, nn _ _ hB hu8, hkeep2 _ _ hB hu8, fun j o h1 h2 => ?_⟩, by show n - Int.toNat _ < n - Int.toNat _; omega⟩⟩
    obtain ⟨g1, g2⟩ := hkeep j o h1 h2
    exact ⟨hkeep2 _ _ g2 g1, nn _ _ g2 g1⟩
  · have hge := of_decide_eq_false hge
    have : k = n := by omega
    subst this
    exact hQ _ ⟨F', hJk, hE, hkeep⟩
theorem f105_spec {y : Value} (hy : notAgg y = true) {J : Nat → PH → Prop} {b : Nat} {k : Int} (hY : YOk y J b (offsK k)) {B0 : Nat} {u F : PH} (h0 : PH.cell u B0 0 = some (.pointer (some ⟨b, 0, none⟩))) (hk : PH.cell u b 0 = some (.int .i64 k)) (hJ : J 0 F) (hF : Ext F u) :
    Spec Tryd.prog 105 #[y, .pointer (some ⟨B0, 0, none⟩)] u fun _ u' => ∃ F', J (offsK k).length F' ∧ Ext F' u' ∧ ∀ j o, F j = none → u j = some o → u' j = some o ∧ F' j = none := by
  refine f105_of (hyield := hy) ?_
  unfold f105_V
  refine ⟨_, h0, b, 0, rfl, k, by rw [Nat.zero_add]; exact hk, fun h1 => ⟨_, h0, b, 0, rfl, fun B hB => ?_⟩, fun h1 => ⟨fun h3 => ⟨_, h0, b, 0, rfl, fun B hB => ?_⟩, fun h3 => ⟨fun h2 => ⟨u, Ext.refl _, _, h0, b, 0, rfl, _, h0, b, 0, rfl, _, h0, b, 0, rfl, _, h0, b, 0, rfl, fun B hB => ⟨Ext.add hB _, ?_⟩⟩, fun h2 => ⟨fun h7 => ⟨_, h0, b, 0, rfl, fun B hB => ?_⟩, fun h7 => ?_⟩⟩⟩⟩
  · have h1 : k = 1 := by simpa using h1
    have e : offsK k = [1] := by simp [offsK, h1]
    rw [e] at hY ⊢
    refine loopOwn (Q := fun _ u' => ∃ F', J 1 F' ∧ Ext F' u' ∧ ∀ j o, F j = none → u j = some o → u' j = some o ∧ F' j = none) hY (n := 1) rfl rfl (by omega) (fun i p hp => ?_) hB hJ hF fun u' h => h
    match i, hp with
    | 0, hp => cases hp; rfl
    | i + 1, hp => simp at hp
  · have h3 : k = 3 := by simpa using h3
    have e : offsK k = [1] := by simp [offsK, h3]
    rw [e] at hY ⊢
    refine loopOwn (Q := fun _ u' => ∃ F', J 1 F' ∧ Ext F' u' ∧ ∀ j o, F j = none → u j = some o → u' j = some o ∧ F' j = none) hY (n := 1) rfl rfl (by omega) (fun i p hp => ?_) hB hJ hF fun u' h => h
    match i, hp with
    | 0, hp => cases hp; rfl
    | i + 1, hp => simp at hp
  · have h2 : k = 2 := by simpa using h2
    have e : offsK k = [1, 2, 3, 4] := by simp [offsK, h2]
    rw [e] at hY ⊢
    refine loopOwn (Q := fun _ u' => ∃ F', J 4 F' ∧ Ext F' u' ∧ ∀ j o, F j = none → u j = some o → u' j = some o ∧ F' j = none) hY (n := 4) rfl rfl (by omega) (fun i p hp => ?_) hB hJ hF fun u' h => h
    match i, hp with
    | 0, hp | 1, hp | 2, hp | 3, hp => cases hp; rfl
    | i + 4, hp => simp at hp
  · have h7 : k = 7 := by simpa using h7
    have e : offsK k = [3] := by simp [offsK, h7]
    rw [e] at hY ⊢
    refine loopOwn (Q := fun _ u' => ∃ F', J 1 F' ∧ Ext F' u' ∧ ∀ j o, F j = none → u j = some o → u' j = some o ∧ F' j = none) hY (n := 1) rfl rfl (by omega) (fun i p hp => ?_) hB hJ hF fun u' h => h
    match i, hp with
    | 0, hp => cases hp; rfl
    | i + 1, hp => simp at hp
  · have h1 : ¬ k = 1 := by simpa using h1
    have h3 : ¬ k = 3 := by simpa using h3
    have h2 : ¬ k = 2 := by simpa using h2
    have h7 : ¬ k = 7 := by simpa using h7
    have e : offsK k = [] := by simp [offsK, h1, h3, h2, h7]
    rw [e]
    refine ⟨fun i u' => i = 0 ∧ u' = u, fun _ _ => 0, ⟨rfl, rfl⟩, ?_⟩
    rintro i u' ⟨rfl, rfl⟩
    exact ⟨fun h => by have := of_decide_eq_true h; omega, fun _ => ⟨F, hJ, hF, fun j o h1 h2 => ⟨h2, h1⟩⟩⟩
theorem e105 : entersB Tryd.prog 105 = true := by kernel_rfl
theorem f83_spec {op : Option Addr} (u : PH) : Spec Tryd.prog 83 #[.pointer op] u fun v u' => ∃ B, u B = none ∧ v = .func (.func 105) #[] #[.pointer (some ⟨B, 0, none⟩)] ∧ u' = PH.add u B (.cells #[.pointer op] 67) := by
  refine f83_of ?_
  unfold f83_V
  intro B hB
  exact ⟨B, hB, rfl, rfl⟩
/-- the numbers written, one by one -/
def outA (op : Op) (i : Nat) : Array Value := (((offsK op.kind).zip (numsL op)).take i).foldl (fun cs y => cs.setIfInBounds y.1 (.int .i64 y.2)) #[.int .i64 op.kind, .int .i64 0, .int .i64 0, .int .i64 0, .int .i64 0]
theorem outA_size (op : Op) (i : Nat) : (outA op i).size = 5 := by
  unfold outA
  generalize (((offsK op.kind).zip (numsL op)).take i) = l
  have : ∀ (l : List (Nat × Int)) (cs : Array Value), (l.foldl (fun cs y => cs.setIfInBounds y.1 (.int .i64 y.2)) cs).size = cs.size := by
    intro l
    induction l with
    | nil => intro cs; rfl
    | cons y r ih => intro cs; rw [List.foldl_cons, ih, Array.size_setIfInBounds]
  rw [this]; rfl
theorem outA_step {op : Op} {i p : Nat} {x : Int} (h1 : (offsK op.kind)[i]? = some p) (h2 : (numsL op)[i]? = some x) : outA op (i + 1) = (outA op i).setIfInBounds p (.int .i64 x) := by
  have : ((offsK op.kind).zip (numsL op))[i]? = some (p, x) := by rw [List.getElem?_zip_eq_some]; exact ⟨h1, h2⟩
  unfold outA
  rw [List.take_add_one, this, Option.toList_some, List.foldl_append]
  rfl
theorem outA_done (op : Op) (hk : knownB op.kind = true) : outA op (numsL op).length = (bareO op).cells.toArray := by
  obtain ⟨kind, key, val, cost, ttl⟩ := op
  rcases known_cases hk with h | h | h | h | h | h | h | h <;> simp only at h <;> subst h <;> rfl
end Go.Proofs.YtlmnfhhmgfnbpaaDoor.E
