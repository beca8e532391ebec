/- CONTRACTS: the law TraceNumbers. -/
import Derived.Test.YtlmnfhhmgfnbpaaDoorN2
import Derived.Test.YtlmnfhhmgfnbpaaDoorT9a
import Derived.Laws.RangeString
import Derived.Lib.RuneCount
namespace Go.Proofs.YtlmnfhhmgfnbpaaDoor.E
open Go Go.RowKit
theorem sem_range (s : ByteArray) (u : PH) : SemSpec Tryd.prog (Instr.range 9 (.string s)) u fun v u' => ∃ r, u r = none ∧ v = .pointer (some ⟨r, 0, none⟩) ∧ u' = PH.add u r (.stringIter s 0) := by
  intro w hw
  have hlt : ∀ b o, u b = some o → b < w.heap.size := fun b o h => by
    have := hw b o h
    rcases Nat.lt_or_ge b w.heap.size with h | h
    · exact h
    · rw [Array.getElem?_eq_none h] at this; cases this
  have hn : u w.heap.size = none := by
    cases h : u w.heap.size with
    | none => rfl
    | some o => have := hlt _ _ h; omega
  have hold : ∀ b, b < w.heap.size → (w.iter s 0).heap[b]? = w.heap[b]? := fun b hb => by
    show (w.heap.push _)[b]? = _
    rw [Array.getElem?_push, if_neg (by omega)]
  refine ⟨_, _, PH.add u w.heap.size (.stringIter s 0), run_range_string w 9 s hu9, fun b o hb => ?_, ⟨rfl, rfl, rfl, ?_, fun b h1 h2 => ⟨hold b h1, ?_⟩⟩, _, hn, rfl, rfl⟩
  · by_cases e : b = w.heap.size
    · subst e; rw [PH.add_eq] at hb; cases hb; exact World.iter_heap w s 0
    · rw [PH.add_ne e] at hb; rw [hold b (hlt _ _ hb)]; exact hw _ _ hb
  · show w.heap.size ≤ (w.heap.push _).size
    simp
  · rw [PH.add_ne (by omega)]; exact h2
theorem run_next_any {P : Program} {w : World} {r : Nat} {s : ByteArray} {pos : Nat} (ty : TypeId) (hr : w.heap[r]? = some (.stringIter s pos)) (h : pos < s.size) :
    (Instr.next (.pointer (some ⟨r, 0, none⟩)) true ty).run P w = .ok (.tuple #[.bool true, .int .i64 pos, .int .i32 ((Utf8.decode s pos).1 : Nat)]) { w with heap := w.heap.setIfInBounds r (.stringIter s (pos + (Utf8.decode s pos).2)) } := by
  simp [Instr.next, getObj, setObj, Sem.run_bind, Sem.run, hr, h, Result.andThen, goInt]
theorem run_next_over {P : Program} {w : World} {r : Nat} {s : ByteArray} {pos : Nat} (ty : TypeId) (hr : w.heap[r]? = some (.stringIter s pos)) (h : ¬ pos < s.size) :
    (Instr.next (.pointer (some ⟨r, 0, none⟩)) true ty).run P w = .ok (.tuple #[.bool false]) w := by
  simp [Instr.next, getObj, Sem.run_bind, Sem.run, hr, h, Result.andThen]
theorem sem_next {u : PH} {r : Nat} {s : ByteArray} {pos : Nat} (ty : TypeId) (hr : u r = some (.stringIter s pos)) : SemSpec Tryd.prog (Instr.next (.pointer (some ⟨r, 0, none⟩)) true ty) u fun v u' =>
    (¬ pos < s.size ∧ v = .tuple #[.bool false] ∧ u' = u) ∨ (pos < s.size ∧ v = .tuple #[.bool true, .int .i64 (pos : Nat), .int .i32 ((Utf8.decode s pos).1 : Nat)] ∧ u' = PH.add u r (.stringIter s (pos + (Utf8.decode s pos).2))) := by
  intro w hw
  have hwr := hw _ _ hr
  have hlt : r < w.heap.size := by
    rcases Nat.lt_or_ge r w.heap.size with h | h
    · exact h
    · rw [Array.getElem?_eq_none h] at hwr; cases hwr
  by_cases h : pos < s.size
  · refine ⟨_, _, PH.add u r (.stringIter s (pos + (Utf8.decode s pos).2)), run_next_any ty hwr h, fun b o hb => ?_, ⟨rfl, rfl, rfl, ?_, fun b h1 h2 => ?_⟩, .inr ⟨h, rfl, rfl⟩⟩
    · show (w.heap.setIfInBounds r _)[b]? = _
      by_cases e : b = r
      · subst e; rw [PH.add_eq] at hb; cases hb; rw [Array.getElem?_setIfInBounds_self_of_lt hlt]
      · rw [PH.add_ne e] at hb; rw [Array.getElem?_setIfInBounds_ne (Ne.symm e)]; exact hw _ _ hb
    · show w.heap.size ≤ (w.heap.setIfInBounds r _).size
      simp
    · have e : b ≠ r := fun e => by subst e; rw [hr] at h2; cases h2
      refine ⟨?_, by rw [PH.add_ne e]; exact h2⟩
      show (w.heap.setIfInBounds r _)[b]? = _
      rw [Array.getElem?_setIfInBounds_ne (Ne.symm e)]
  · exact ⟨_, w, u, run_next_over ty hwr h, hw, ⟨rfl, rfl, rfl, Nat.le_refl _, fun b _ h => ⟨rfl, h⟩⟩, .inl ⟨h, rfl, rfl⟩⟩
/-- the two errors' variables -/
structure Te (u : PH) : Prop where
  e2 : ∃ ev, PH.cell u 2 0 = some ev ∧ (ev = .nilIface ∨ ∃ te pe, ev = .iface te pe)
  e3 : ∃ ev, PH.cell u 3 0 = some ev ∧ (ev = .nilIface ∨ ∃ te pe, ev = .iface te pe)
theorem Te.ext {u u' : PH} (h : Te u) (he : Ext u u') : Te u' := by
  obtain ⟨⟨a, h1, h2⟩, ⟨b, h3, h4⟩⟩ := h
  exact ⟨⟨a, he.cell h1, h2⟩, ⟨b, he.cell h3, h4⟩⟩
theorem parse_ok_range {l : List UInt8} {x : Int} (h : Lib.parseIntB 64 l = .ok x) : I64 x := by
  unfold Lib.parseIntB at h
  split at h
  · cases h
  · rename_i c r
    simp only at h
    split at h
    · cases h
    · cases h
    · rename_i u hu
      split at h
      · cases h
      · split at h
        · cases h
        · cases h
          split <;> (constructor <;> omega)
theorem f40_spec {l : List UInt8} (hl : l.length ≤ 1000000) {u : PH} (E : Te u) : Spec Tryd.prog 40 #[.string (S l), .int .i64 10, .int .i64 64] u fun v u' => u' = u ∧
    ((∃ x, Lib.parseIntB 64 l = .ok x ∧ v = .tuple #[.int .i64 x, .nilIface]) ∨ ((∀ x, Lib.parseIntB 64 l ≠ .ok x) ∧ ∃ (m : Int) (N : Nat), v = .tuple #[.int .i64 m, .iface 140 (.pointer (some ⟨N, 0, none⟩))])) := fun w hw => by
  have hd : (S l).data.toList = l := by simp [S]
  have hsz := S_size l
  obtain ⟨e2, c2, h2⟩ := E.e2
  obtain ⟨e3, c3, h3⟩ := E.e3
  cases hp : Lib.parseIntB 64 l
  case ok x =>
    refine (Tryd.strconv_ParseInt_10_at64_ok (S l) (by omega) x (by rw [hd]; exact hp) w).mono ?_
    rintro e w' ⟨rfl, h⟩
    have hb : Below w.heap.size w w' := by
      rcases h with rfl | ⟨t, rfl⟩
      · exact Below.refl _ _
      · exact Lib.bytesWorld_below w _ t
    exact post_of_below hw hb ⟨rfl, .inl ⟨x, rfl, rfl⟩⟩
  case range =>
    refine (Tryd.strconv_ParseInt_10_at64_range (S l) (by omega) (by rw [hd]; exact hp) e3 w (cell_ok' c3 hw) h3).mono ?_
    rintro e w' ⟨N, rfl, _, _, hb⟩
    exact post_of_below hw hb ⟨rfl, .inr ⟨fun x h => (by cases h), _, N, rfl⟩⟩
  all_goals
    have h40 : Calls Tryd.prog 40 #[.string (S l), .int .i64 10, .int .i64 64] w fun e w' => ∃ N : Nat, e = .returned (.tuple #[.int .i64 0, .iface 140 (.pointer (some ⟨N, 0, none⟩))]) ∧ w.heap.size ≤ N ∧ w'.heap[N]? = some (.cells #[.string ⟨#[80, 97, 114, 115, 101, 73, 110, 116]⟩, .string (S l), e2] 162 (0, 0)) ∧ Below w.heap.size w w' :=
      Any.strconv_ParseInt_10_at64_syntax Tryd.laysC174 (S l) (by omega) (by rw [hd]; exact hp) e2 w (cell_ok' c2 hw) h2
    refine h40.mono ?_
    rintro e w' ⟨N, rfl, _, _, hb⟩
    exact post_of_below hw hb ⟨rfl, .inr ⟨fun x h => (by cases h), _, N, rfl⟩⟩
theorem f15_spec {l : List UInt8} (hl : l.length ≤ 1000000) {u : PH} (T : Tb u) (E : Te u) : Spec Tryd.prog 15 #[.string (S l)] u (QN l u) := by
  have hsz := S_size l
  refine f15_of ?_
  unfold f15_V
  refine (sem_range (S l) u).use ?_
  rintro v u2 ⟨r, hr, rfl, rfl⟩
  refine ⟨_, rfl, fun _ _ u' => ∃ pos : Nat, u' = PH.add u r (.stringIter (S l) pos), fun _ _ u' => (match u' r with
    | some (.stringIter _ pos) => l.length - pos
    | _ => 0), ⟨0, rfl⟩, ?_⟩
  rintro n6 b7 u8 ⟨pos, rfl⟩
  have hE : ∀ p : Nat, Ext u (PH.add u r (.stringIter (S l) p)) := fun p => Ext.add hr _
  have add2 : ∀ p q : Nat, PH.add (PH.add u r (.stringIter (S l) p)) r (.stringIter (S l) q) = PH.add u r (.stringIter (S l) q) := fun p q => by
    funext k
    by_cases e : k = r
    · subst e; rw [PH.add_eq, PH.add_eq]
    · rw [PH.add_ne e, PH.add_ne e, PH.add_ne e]
  refine (sem_next (pos := pos) 0 (PH.add_eq _ _ _)).use ?_
  rintro v u10 (⟨hge, rfl, rfl⟩ | ⟨hlt, rfl, rfl⟩)
  · left
    refine ⟨rfl, (f40_spec hl (E.ext (hE pos))).use ?_⟩
    rintro v u12 ⟨rfl, ⟨x, hx, rfl⟩ | ⟨hno, m, N, rfl⟩⟩
    · have hI := parse_ok_range hx
      refine ⟨x, .nilIface, rfl, rfl, (SemSpec.run (v := .bool false) (fun w => by kernel_rfl) _).use ?_⟩
      rintro v u17 ⟨rfl, rfl⟩
      refine ⟨_, rfl, fun h => (by cases h), fun _ => (f17_spec hI.1 hI.2 (T.ext (hE pos))).use ?_⟩
      rintro v u20 ⟨rfl, rfl⟩
      refine ⟨_, rfl, ?_⟩
      rw [str_eq]
      refine ⟨fun h => ?_, fun h => ?_⟩
      · have h : ¬ Lib.itoa x = l := by simpa using h
        rw [QN, numR_none fun ⟨y, hy, he⟩ => h (by
          have := parse_itoa hy
          rw [he, hx] at this
          cases this; exact he)]
        exact ⟨rfl, hE pos⟩
      · have h : Lib.itoa x = l := by simpa using h
        rw [QN, ← h, numR_itoa hI]
        exact ⟨rfl, by rw [h]; exact hE pos⟩
    · refine ⟨m, .iface 140 (.pointer (some ⟨N, 0, none⟩)), rfl, rfl, (SemSpec.run (v := .bool true) (fun w => by kernel_rfl) _).use ?_⟩
      rintro v u17 ⟨rfl, rfl⟩
      refine ⟨_, rfl, fun _ => ?_, fun h => (by cases h)⟩
      rw [QN, numR_none fun ⟨y, hy, he⟩ => hno y (by rw [← he]; exact parse_itoa hy)]
      exact ⟨rfl, hE pos⟩
  · right
    rw [add2]
    refine ⟨_, _, rfl, fun h => ?_, fun h => ⟨⟨_, rfl⟩, ?_⟩⟩
    · have hno : numR l = (0, false) := by
        refine numR_none ?_
        rintro ⟨y, hy, he⟩
        obtain ⟨b, hb⟩ : ∃ b, l[pos]? = some b := ⟨_, List.getElem?_eq_getElem (by omega)⟩
        obtain ⟨h1, h2⟩ := S_get hb
        have hb' : (Lib.itoa y)[pos]? = some b := by rw [he]; exact hb
        have hat := itoa_at hb'
        have hdec := decode_ascii (S l) pos h1 (by rw [h2]; omega)
        rw [hdec, h2] at h
        simp only [Bool.and_eq_true, Bool.or_eq_true, decide_eq_true_eq, bne_iff_ne, ne_eq] at h
        omega
      rw [QN, hno]
      exact ⟨rfl, hE _⟩
    · have hw := Lib.decode_width_pos (S l) pos hlt
      simp only [PH.add_eq]
      omega
theorem f4_spec {n : Int} (hn : I64 n) (s : ByteArray) {u : PH} (T : Tb u) (E : Te u) : Spec Tryd.prog 4 #[.int .i64 n, .string s] u fun v u' => v = .bool true ∧ Ext u u' := by
  obtain ⟨l, rfl⟩ : ∃ l, s = S l := ⟨_, S_toList s⟩
  have hsz := S_size l
  refine f4_of ?_
  unfold f4_V
  refine ⟨fun _ => (f14_spec T).use ?_, fun h => ?_⟩
  · rintro v u' ⟨rfl, h⟩
    exact ⟨_, rfl, rfl, h⟩
  have h := of_decide_eq_false h
  rw [hsz] at h
  refine (f15_spec (by omega) T E).use ?_
  rintro v u5 ⟨rfl, h5⟩
  refine ⟨_, _, rfl, (f16_spec (by omega) u5).use ?_⟩
  rintro v u9 ⟨rfl, h9⟩
  have g9 := h5.trans h9
  refine ⟨_, _, rfl, (f17_spec hn.1 hn.2 (T.ext g9)).use ?_⟩
  rintro v u' ⟨rfl, rfl⟩
  have hln := itoa_len hn
  refine ⟨_, rfl, (f15_spec (l := Lib.itoa n) (by omega) (T.ext g9) (E.ext g9)).use ?_⟩
  rintro v u16 ⟨rfl, h16⟩
  have g16 := g9.trans h16
  refine ⟨_, _, rfl, (f17_spec hn.1 hn.2 (T.ext g16)).use ?_⟩
  rintro v u' ⟨rfl, rfl⟩
  refine ⟨_, rfl, (f18_spec hn.1 hn.2).use ?_⟩
  rintro v u23 ⟨rfl, h23⟩
  have g23 := g16.trans h23
  refine ⟨_, rfl, fun _ => (f14_spec (T.ext g23)).use ?_, fun h => ?_⟩
  · rintro v u26 ⟨rfl, h26⟩
    exact ⟨_, rfl, rfl, g23.trans h26⟩
  · exfalso
    rw [numR_itoa hn] at h
    simp at h
end Go.Proofs.YtlmnfhhmgfnbpaaDoor.E
