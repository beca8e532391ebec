/- CONTRACTS: prog.Right; the lines of calls, joined. -/
import Derived.Test.YtlmnfhhmgfnbpaaDoorT7
namespace Go.Proofs.YtlmnfhhmgfnbpaaDoor.E
open Go Go.RowKit
theorem f57_spec {op : Op} (hk : knownB op.kind = true) {u : PH} : Spec Tryd.prog 57 #[op.v] u fun v u' => v = (bareO op).v ∧ Ext u u' := by
  obtain ⟨hlen, hle4, _⟩ := offs_nums op
  refine f57_of ?_
  unfold f57_V
  refine (f56_spec op.kind u).use ?_
  rintro v u0 ⟨rfl, rfl⟩
  refine ⟨_, rfl, fun h => (by rw [hk] at h; cases h), fun _ B4 h4 => (f83_spec _).use ?_⟩
  rintro v u6 ⟨B83, h83, rfl, rfl⟩
  refine ⟨_, rfl, rfl, fun B9 h9 B10 h10 B11 h11 => ⟨trivial, fun L O13 O14 O15 O16 hL hyd => ?_⟩⟩
  obtain ⟨n83_4, h83u⟩ := add_none h83
  obtain ⟨n9_83, h9a⟩ := add_none h9
  obtain ⟨n9_4, h9u⟩ := add_none h9a
  obtain ⟨n10_9, h10a⟩ := add_none h10
  obtain ⟨n10_83, h10b⟩ := add_none h10a
  obtain ⟨n10_4, h10u⟩ := add_none h10b
  obtain ⟨n11_10, h11a⟩ := add_none h11
  obtain ⟨n11_9, h11b⟩ := add_none h11a
  obtain ⟨n11_83, h11c⟩ := add_none h11b
  obtain ⟨n11_4, h11u⟩ := add_none h11c
  obtain ⟨nL_11, hLa⟩ := add_none hL
  obtain ⟨nL_10, hLb⟩ := add_none hLa
  obtain ⟨nL_9, hLc⟩ := add_none hLb
  obtain ⟨nL_83, hLd⟩ := add_none hLc
  obtain ⟨nL_4, hLu⟩ := add_none hLd
  obtain ⟨U0, hU0⟩ : ∃ U0, U0 = PH.add (PH.add (PH.add (PH.add (PH.add (PH.add u0 B4 (.cells #[.int .i64 op.kind, .int .i64 op.key, .int .i64 op.val, .int .i64 op.cost, .int .i64 op.ttl] 23)) B83 (.cells #[.pointer (some ⟨B4, 0, none⟩)] 67)) B9 (.cells #[.slice none 0 0] 48)) B10 (.cells #[.int .i64 op.kind, .int .i64 0, .int .i64 0, .int .i64 0, .int .i64 0] 23)) B11 (.cells #[.int .i64 0, .int .i64 0, .int .i64 0, .int .i64 0, .int .i64 0] 23)) L O13 := ⟨_, rfl⟩
  have uL : U0 L = some O13 := by rw [hU0, PH.add_eq]
  have u11 : U0 B11 = some (.cells #[.int .i64 0, .int .i64 0, .int .i64 0, .int .i64 0, .int .i64 0] 23) := by rw [hU0, PH.add_ne nL_11.symm, PH.add_eq]
  have u10 : U0 B10 = some (.cells #[.int .i64 op.kind, .int .i64 0, .int .i64 0, .int .i64 0, .int .i64 0] 23) := by rw [hU0, PH.add_ne nL_10.symm, PH.add_ne n11_10.symm, PH.add_eq]
  have u9 : U0 B9 = some (.cells #[.slice none 0 0] 48) := by rw [hU0, PH.add_ne nL_9.symm, PH.add_ne n11_9.symm, PH.add_ne n10_9.symm, PH.add_eq]
  have u83 : U0 B83 = some (.cells #[.pointer (some ⟨B4, 0, none⟩)] 67) := by rw [hU0, PH.add_ne nL_83.symm, PH.add_ne n11_83.symm, PH.add_ne n10_83.symm, PH.add_ne n9_83.symm, PH.add_eq]
  have u4 : U0 B4 = some (.cells op.cells.toArray 23) := by rw [hU0, PH.add_ne nL_4.symm, PH.add_ne n11_4.symm, PH.add_ne n10_4.symm, PH.add_ne n9_4.symm, PH.add_ne n83_4.symm, PH.add_eq]
  have uu : ∀ k o, u0 k = some o → U0 k = some o ∧ k ≠ L ∧ k ≠ B9 ∧ k ≠ B4 ∧ k ≠ B10 ∧ k ≠ B11 := fun k o hk' => by
    have ne : ∀ B, u0 B = none → k ≠ B := fun B hB e => by subst e; rw [hB] at hk'; cases hk'
    exact ⟨by rw [hU0, PH.add_ne (ne _ hLu), PH.add_ne (ne _ h11u), PH.add_ne (ne _ h10u), PH.add_ne (ne _ h9u), PH.add_ne (ne _ h83u), PH.add_ne (ne _ h4)]; exact hk', ne _ hLu, ne _ h9u, ne _ h4, ne _ h10u, ne _ h11u⟩
  rw [← hU0]
  clear hU0
  obtain ⟨F0, hF0⟩ : ∃ F0 : PH, F0 = fun k => if k = L then some O13 else if k = B9 then some (.cells #[.slice none 0 0] 48) else if k = B4 then some (.cells op.cells.toArray 23) else none := ⟨_, rfl⟩
  have fL : F0 L = some O13 := by rw [hF0]; simp
  have f9 : F0 B9 = some (.cells #[.slice none 0 0] 48) := by rw [hF0]; simp [nL_9.symm]
  have f4 : F0 B4 = some (.cells op.cells.toArray 23) := by rw [hF0]; simp [nL_4.symm, n9_4.symm]
  have fn : ∀ k, k ≠ L → k ≠ B9 → k ≠ B4 → F0 k = none := fun k h1 h2 h3 => by rw [hF0]; simp [h1, h2, h3]
  clear hF0
  have hF : Ext F0 U0 := fun k o hk' => by
    by_cases e1 : k = L
    · subst e1; rw [fL] at hk'; rw [uL]; exact hk'
    by_cases e2 : k = B9
    · subst e2; rw [f9] at hk'; rw [u9]; exact hk'
    by_cases e3 : k = B4
    · subst e3; rw [f4] at hk'; rw [u4]; exact hk'
    rw [fn k e1 e2 e3] at hk'; cases hk'
  refine ⟨105, _, rfl, e105, (f105_spec rfl (tell (op := op) nL_9 nL_4 n9_4 hyd) (by rw [PH.cell_eq u83]; rfl) (by rw [PH.cell_eq u4]; rfl) ⟨fL, f4, none, 0, f9, by simpa using Own.nil _ _⟩ hF).use ?_⟩
  rintro _ u34 ⟨F1, ⟨hL1, h41, a, c, h91, hO1⟩, hE1, keep1⟩
  obtain ⟨m, hm⟩ : ∃ m, m = (numsL op).length := ⟨_, rfl⟩
  rw [hlen, ← hm] at h91 hO1
  rw [List.take_of_length_le (by omega)] at hO1
  obtain ⟨v10, w10⟩ := keep1 _ _ (fn _ nL_10.symm n10_9 n10_4) u10
  obtain ⟨v11, w11⟩ := keep1 _ _ (fn _ nL_11.symm n11_9 n11_4) u11
  have vu : ∀ k o, u0 k = some o → u34 k = some o ∧ F1 k = none ∧ k ≠ L ∧ k ≠ B9 ∧ k ≠ B4 ∧ k ≠ B10 ∧ k ≠ B11 := fun k o hk' => by
    obtain ⟨g1, g2, g3, g4, g5, g6⟩ := uu k o hk'
    obtain ⟨q1, q2⟩ := keep1 _ _ (fn k g2 g3 g4) g1
    exact ⟨q1, q2, g2, g3, g4, g5, g6⟩
  refine ⟨hE1 _ _ hL1, (f83_spec _).use ?_⟩
  rintro v u36 ⟨B84, h84, rfl, rfl⟩
  refine ⟨_, rfl, rfl, trivial, fun L39 O40 O41 O42 O43 hL39 hyd2 => ?_⟩
  obtain ⟨n39_84, h39a⟩ := add_none hL39
  have ne84 : ∀ k o, k ≠ L → u34 k = some o → k ≠ B84 := fun k o h1 h2 e => by
    subst e; rw [PH.del_ne h1, h2] at h84; cases h84
  have ne39 : ∀ k o, k ≠ L → u34 k = some o → k ≠ L39 := fun k o h1 h2 e => by
    subst e; rw [PH.del_ne h1, h2] at h39a; cases h39a
  obtain ⟨V, hV⟩ : ∃ V, V = PH.add (PH.add (PH.del u34 L) B84 (.cells #[.pointer (some ⟨B10, 0, none⟩)] 67)) L39 O40 := ⟨_, rfl⟩
  have V1 : ∀ k o, k ≠ L → u34 k = some o → V k = some o := fun k o h1 h2 => by
    rw [hV, PH.add_ne (ne39 k o h1 h2), PH.add_ne (ne84 k o h1 h2), PH.del_ne h1]; exact h2
  have V39 : V L39 = some O40 := by rw [hV, PH.add_eq]
  have V84 : V B84 = some (.cells #[.pointer (some ⟨B10, 0, none⟩)] 67) := by rw [hV, PH.add_ne n39_84.symm, PH.add_eq]
  rw [← hV]
  clear hV
  have k9 := hE1 _ _ h91
  have n39_9 : L39 ≠ B9 := (ne39 _ _ nL_9.symm k9).symm
  have n39_10 : L39 ≠ B10 := (ne39 _ _ nL_10.symm v10).symm
  have hrow : ∀ y, a = some y → y.block ≠ L ∧ y.block ≠ B9 ∧ y.block ≠ B10 ∧ y.block ≠ L39 := fun y hy => by
    rcases hO1.row with ⟨h, _⟩ | ⟨b, cs, h1, h2, h3, _⟩
    · rw [h] at hy; cases hy
    · rw [h1] at hy; cases hy
      split at h2
      · cases h2
      · rename_i hn
        have e1 : b ≠ L := fun e => hn (.inl e)
        exact ⟨e1, fun e => hn (.inr (.inl e)), fun (e : b = B10) => (by rw [e, w10] at h3; cases h3), ne39 _ _ e1 (hE1 _ _ h3)⟩
  obtain ⟨F2, hF2⟩ : ∃ F2 : PH, F2 = fun k => if k = L39 then some O40 else if k = B10 then some (.cells (outA op 0) 23) else if k = L then none else F1 k := ⟨_, rfl⟩
  have g39 : F2 L39 = some O40 := by rw [hF2]; simp
  have g10 : F2 B10 = some (.cells (outA op 0) 23) := by rw [hF2]; simp [n39_10.symm]
  have gk : ∀ k, k ≠ L39 → k ≠ B10 → k ≠ L → F2 k = F1 k := fun k h1 h2 h3 => by rw [hF2]; simp [h1, h2, h3]
  have gn : ∀ k, k ≠ L39 → k ≠ B10 → F1 k = none → F2 k = none := fun k h1 h2 h3 => by
    rw [hF2]
    show (if k = L39 then some O40 else if k = B10 then some (Obj.cells (outA op 0) 23) else if k = L then none else F1 k) = none
    rw [if_neg h1, if_neg h2]
    split
    · rfl
    · exact h3
  have gx : ∀ k o, F2 k = some o → k = L39 ∨ k = B10 ∨ (k ≠ L ∧ F1 k = some o) := fun k o h => by
    by_cases h1 : k = L39
    · exact .inl h1
    by_cases h2 : k = B10
    · exact .inr (.inl h2)
    by_cases h3 : k = L
    · rw [hF2] at h
      have h : (if k = L39 then some O40 else if k = B10 then some (Obj.cells (outA op 0) 23) else if k = L then none else F1 k) = some o := h
      rw [if_neg h1, if_neg h2, if_pos h3] at h; cases h
    · exact .inr (.inr ⟨h3, by rw [← gk k h1 h2 h3]; exact h⟩)
  clear hF2
  have hF2' : Ext F2 V := fun k o h => by
    rcases gx k o h with rfl | rfl | ⟨h1, h2⟩
    · rw [g39] at h; rw [V39]; exact h
    · rw [g10] at h
      rw [V1 _ _ nL_10.symm v10]
      rw [← h]; rfl
    · exact V1 _ _ h1 (hE1 _ _ h2)
  have hS1 : Sl encI 1 F2 a m ((numsL op).drop 0) := by
    rw [List.drop_zero]
    have hS := hO1.sl encI_len
    refine ⟨hS.len, fun i x hx => ?_⟩
    obtain ⟨b, o, q1, q2⟩ := hS.get i x hx
    refine ⟨b, o, q1, fun j y hj => ?_⟩
    obtain ⟨e1, e2, e3, e4⟩ := hrow _ q1
    rw [PH.cell_of_eq (gk b e4 e3 e1)]; exact q2 j y hj
  refine ⟨105, _, rfl, e105, (f105_spec rfl (writ (op := op) n39_9 n39_10 n10_9.symm hyd2) (by rw [PH.cell_eq V84]; rfl) (by rw [PH.cell_eq (V1 _ _ nL_10.symm v10)]; rfl)
    ⟨g39, g10, a, m, c, by rw [gk _ n39_9.symm n10_9.symm nL_9.symm]; exact h91, hO1.le, hS1, fun y hy => ⟨(hrow y hy).2.2.2, (hrow y hy).2.1, (hrow y hy).2.2.1⟩⟩ hF2').use ?_⟩
  rintro _ u60 ⟨F3, ⟨hL3, h103, _⟩, hE3, keep3⟩
  have n39_11 : B11 ≠ L39 := ne39 _ _ nL_11.symm v11
  obtain ⟨x11, _⟩ := keep3 _ _ (gn _ n39_11 n11_10 w11) (V1 _ _ nL_11.symm v11)
  have x10 : PH.del u60 L39 B10 = some (.cells (bareO op).cells.toArray 23) := by
    rw [PH.del_ne n39_10.symm, hE3 _ _ h103, hlen, outA_done op hk]
  have y11 : PH.del u60 L39 B11 = some (.cells #[.int .i64 0, .int .i64 0, .int .i64 0, .int .i64 0, .int .i64 0] 23) := by rw [PH.del_ne n39_11]; exact x11
  have z11 : PH.write (PH.del u60 L39) B11 0 (bareO op).cells B11 = some (.cells (bareO op).cells.toArray 23) := by
    simp only [PH.write, if_true, y11]
    rfl
  refine ⟨hE3 _ _ hL3, _, _, _, _, _, PH.cells_of x10 rfl, ⟨_, _, 0, 0, y11, by simp, fun j _ => by omega⟩, _, _, _, _, _, PH.cells_of z11 rfl, rfl, fun k o hk' => ?_⟩
  obtain ⟨q1, q2, q3, q4, q5, q6, q7⟩ := vu k o hk'
  have e39 := ne39 _ _ q3 q1
  obtain ⟨p1, _⟩ := keep3 _ _ (gn _ e39 q6 q2) (V1 _ _ q3 q1)
  rw [PH.write_ne q7, PH.del_ne e39]; exact p1
theorem f29_spec : Right29 := fun op u => by
  refine f29_of ?_
  unfold f29_V
  refine ⟨u, Ext.refl _, (f56_spec op.kind u).use ?_⟩
  rintro v u' ⟨rfl, rfl⟩
  have yes : ∀ {v : Value} {u6 : PH}, knownB op.kind = true → v = (bareO op).v ∧ Ext u' u6 → ∃ n7 n8 n9 n10 n11 : Int, v = .agg #[.int .i64 n7, .int .i64 n8, .int .i64 n9, .int .i64 n10, .int .i64 n11] ∧ Ext u' u6 ∧
      (Value.bool (((n7 : Int) == op.kind) && (((n8 : Int) == op.key) && (((n9 : Int) == op.val) && (((n10 : Int) == op.cost) && ((n11 : Int) == op.ttl))))) = .bool (rightB op) ∧ Ext u' u6) := fun h ⟨h1, h2⟩ => by
    subst h1
    refine ⟨_, _, _, _, _, rfl, h2, ?_, h2⟩
    rw [rightB, h]; rfl
  have no : knownB op.kind = false → Value.bool false = .bool (rightB op) ∧ Ext u' u' := fun h => ⟨by rw [rightB, h]; rfl, Ext.refl _⟩
  refine ⟨_, rfl, Ext.refl _, ⟨Ext.refl _, ⟨fun h => (f57_spec (op := op) h).use fun v u6 hh => ?_, fun h => ⟨Ext.refl _, Ext.refl _, no h⟩⟩, Ext.refl _, fun h => (f57_spec (op := op) h).use fun v u6 hh => ?_, fun h => ⟨Ext.refl _, no h⟩⟩, Ext.refl _, Ext.refl _, fun h => (f57_spec (op := op) h).use fun v u6 hh => ?_, fun h => ⟨Ext.refl _, no h⟩⟩
  · obtain ⟨n7, n8, n9, n10, n11, g1, g2, g3⟩ := yes h hh
    exact ⟨n7, n8, n9, n10, n11, g1, g2, g2, g3⟩
  · exact yes h hh
  · exact yes h hh
end Go.Proofs.YtlmnfhhmgfnbpaaDoor.E
