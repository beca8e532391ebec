/- CONTRACTS: FormatUint at base 10; names. -/
import Derived.Test.YtlmnfhhmgfnbpaaDoorT1
namespace Go.Proofs.YtlmnfhhmgfnbpaaDoor.E
open Go Go.RowKit
abbrev encB : UInt8 → Value := fun b => Value.int .u8 (b.toNat : Int)
theorem f88_spec {u : PH} {b n c N : Nat} {cs : Array Value} {t : TypeId} (hb : u b = some (.cells cs t (0, 0))) (hz : ∀ j, j < n → cs[j]? = some (.int .u8 0)) (hN : N < 10 ^ n) (h64 : N < 18446744073709551616) (hn : n ≤ 24) :
    Spec Tryd.prog 88 #[.slice (some ⟨b, 0, none⟩) n c, .int .u64 N] u fun v u' => v = .tuple #[] ∧ ∃ dk v', Lib.FmtInv n N 0 v' dk ∧ u' = PH.add u b (.cells (Go.Sort.putCells encB 0 dk cs) t (0, 0)) := fun w hw => by
  have hwb := hw b _ hb
  have hH : Go.Sort.Holds encB w b 0 (Array.replicate n 0) := fun j hj => by
    rw [Array.size_replicate] at hj
    refine ⟨?_, ?_⟩
    · rw [Nat.zero_add]
      refine (cell_of_block hwb (hz j hj)).trans ?_
      rw [getElem!_pos _ j (by simpa using hj)]; simp
    · simp [World.frozen?, hwb]
  have := Tryd.internal_strconv_formatBase10 b 0 c N (Array.replicate n 0) w hH (by rw [Array.size_replicate]; exact hN) h64 (by rw [Array.size_replicate]; omega)
  rw [Array.size_replicate] at this
  refine this.mono ?_
  rintro e w' ⟨rfl, k, v', dk, rfl, hF⟩
  have hheap : ∀ i, ((Go.Sort.putRow encB w b 0 dk).drewN k).heap[i]? = if b = i then some (.cells (Go.Sort.putCells encB 0 dk cs) t (0, 0)) else w.heap[i]? := fun i => by
    show (w.heap.modify b (Go.Sort.onCells _))[i]? = _
    rw [Array.getElem?_modify]
    split
    · rename_i e; subst e; rw [hwb]; rfl
    · rfl
  refine ⟨_, PH.add u b (.cells (Go.Sort.putCells encB 0 dk cs) t (0, 0)), rfl, fun i o hi => ?_, ⟨rfl, rfl, rfl, ?_, fun i h1 h2 => ?_⟩, rfl, dk, v', hF, rfl⟩
  · rw [hheap]
    by_cases e : b = i
    · subst e; rw [PH.add_eq] at hi; cases hi; rw [if_pos rfl]
    · rw [PH.add_ne (fun h => e h.symm)] at hi; rw [if_neg e]; exact hw _ _ hi
  · show w.heap.size ≤ (w.heap.modify b _).size
    rw [Array.size_modify]; exact Nat.le_refl _
  · have e : b ≠ i := fun e => by subst e; rw [hb] at h2; cases h2
    rw [hheap, if_neg e, PH.add_ne (fun h => e h.symm)]; exact ⟨rfl, h2⟩
theorem ht131 : Tryd.prog.underlying 131 = some (.array (Tryd.prog.arrayLen 131) (Tryd.prog.elem 131)) := by kernel_rfl
theorem al131 : Tryd.prog.arrayLen 131 = 24 := by kernel_rfl
noncomputable def iE131 : TypeInfo := (Tryd.prog.info? (Tryd.prog.elem 131)).getD default
theorem hi131 : Tryd.prog.info? (Tryd.prog.elem 131) = some iE131 := by kernel_rfl
theorem sem_slice24 {B n : Nat} (hn : n ≤ 24) (u : PH) : SemSpec Tryd.prog (Instr.sliceAt 131 (.pointer (some ⟨B, 0, none⟩)) none (some (.int .i64 (n : Int))) none) u fun v u' => v = .slice (some ⟨B, 0, none⟩) n 24 ∧ u' = u :=
  SemSpec.run (fun w => by
    rw [run_sliceAt_array_h w 131 ⟨B, 0, none⟩ ht131 .i64 (n : Int) (by omega) (by rw [al131]; omega), run_sizeOf hi131]
    simp [slicedAt, al131, Addr.add]) u
theorem f62_spec {N : Nat} (hN : N < 18446744073709551616) {u : PH} (T : Tb u) : Spec Tryd.prog 62 #[.int .u64 N, .int .i64 10] u fun v u' => v = .string (S (Lib.decDigits N)) ∧ Ext u u' := by
  refine f62_of ?_
  unfold f62_V
  refine ⟨fun _ => ⟨fun hlt => ?_, fun hge => ?_⟩, fun h => by simp at h⟩
  · have hlt := of_decide_eq_true hlt
    rw [wrap_i64 (by omega) (by omega)]
    have h86 : Spec Tryd.prog 86 #[.int .i64 (N : Int)] u fun v u' => v = .string (S (Lib.decDigits N)) ∧ u' = u := fun w hw =>
      (Tryd.internal_strconv_small N (by omega) w).mono (by
        rintro e w' ⟨rfl, rfl⟩
        exact post_of_below hw (Below.refl _ _) ⟨rfl, rfl⟩)
    refine h86.use ?_
    rintro v u' ⟨rfl, rfl⟩
    exact ⟨_, rfl, rfl, Ext.refl _⟩
  · have hge := of_decide_eq_false hge
    have h87 : Spec Tryd.prog 87 #[.int .u64 (N : Int)] u fun v u' => v = .int .i64 (Lib.nDigits N : Nat) ∧ u' = u := fun w hw =>
      (Tryd.internal_strconv_numDigits N (by omega) hN w (T.tab hw)).mono (by
        rintro e w' ⟨rfl, rfl⟩
        exact post_of_below hw (Below.refl _ _) ⟨rfl, rfl⟩)
    refine h87.use ?_
    rintro v u5 ⟨rfl, rfl⟩
    have hle := nDigits_le hN
    refine ⟨_, rfl, fun B hB => (sem_slice24 (by omega) _).use ?_⟩
    rintro v u9 ⟨rfl, rfl⟩
    refine ⟨_, _, _, rfl, (f88_spec (PH.add_eq _ _ _) (fun j hj => ?_) (Lib.lt_pow_nDigits N) hN (by omega)).use ?_⟩
    · have : j < 24 := by omega
      have h24 : ∀ j, j < 24 → (#[Value.int .u8 0, .int .u8 0, .int .u8 0, .int .u8 0, .int .u8 0, .int .u8 0, .int .u8 0, .int .u8 0, .int .u8 0, .int .u8 0, .int .u8 0, .int .u8 0, .int .u8 0, .int .u8 0, .int .u8 0, .int .u8 0, .int .u8 0, .int .u8 0, .int .u8 0, .int .u8 0, .int .u8 0, .int .u8 0, .int .u8 0, .int .u8 0] : Array Value)[j]? = some (.int .u8 0) := fun j hj => by
        match j, hj with
        | 0, _ | 1, _ | 2, _ | 3, _ | 4, _ | 5, _ | 6, _ | 7, _ | 8, _ | 9, _ | 10, _ | 11, _ | 12, _ | 13, _ | 14, _ | 15, _ | 16, _ | 17, _ | 18, _ | 19, _ | 20, _ | 21, _ | 22, _ | 23, _ => rfl
        | j + 24, h => omega
      exact h24 j this
    rintro v u14 ⟨rfl, dk, v', hF, rfl⟩
    refine ⟨rfl, (sem_slice24 (by omega) _).use ?_⟩
    rintro v u16 ⟨rfl, rfl⟩
    refine ⟨_, _, _, rfl, (sem_str (l := Lib.decDigits N) (Lib.decDigits_length N) fun j x hj => ?_).use ?_⟩
    · obtain ⟨hjl, hjx⟩ := List.getElem?_eq_some_iff.1 hj
      have hjn : j < Lib.nDigits N := by rw [← Lib.decDigits_length]; exact hjl
      rw [PH.cell_eq (PH.add_eq _ _ _), Nat.zero_add, Go.Sort.putCells, Array.getElem?_mapIdx]
      have h24 : j < 24 := by omega
      rw [Array.getElem?_eq_getElem (by exact h24)]
      simp only [Option.map_some]
      rw [if_pos ⟨by omega, by rw [hF.size]; omega⟩, Nat.sub_zero, ← Lib.row_is_numeral hF j hjl, hjx]
    rintro v u21 ⟨rfl, rfl⟩
    refine ⟨_, rfl, rfl, fun k o hk => ?_⟩
    have hkB : k ≠ B := fun e => by subst e; rw [hB] at hk; cases hk
    rw [PH.add_ne hkB, PH.add_ne hkB]; exact hk
theorem f38_spec {N : Nat} (hN : N < 18446744073709551616) {u : PH} (T : Tb u) : Spec Tryd.prog 38 #[.int .u64 N, .int .i64 10] u fun v u' => v = .string (S (Lib.decDigits N)) ∧ Ext u u' := by
  refine f38_of ?_
  unfold f38_V
  refine (f62_spec hN T).use ?_
  rintro v u' ⟨rfl, h⟩
  exact ⟨_, rfl, rfl, h⟩
/-! names -/
def knownB (k : Int) : Bool := decide (k ≥ 0) && decide (k ≤ 7)
theorem f56_spec (k : Int) (u : PH) : Spec Tryd.prog 56 #[.int .i64 k] u fun v u' => v = .bool (knownB k) ∧ u' = u := by
  refine f56_of ?_
  unfold f56_V
  exact ⟨rfl, rfl⟩
theorem f61_spec (k : Int) (u : PH) : Spec Tryd.prog 61 #[.int .i64 k] u fun v u' => v = .bool (decide (k ≥ 1) && decide (k ≤ 6)) ∧ u' = u := by
  refine f61_of ?_
  unfold f61_V
  exact ⟨rfl, rfl⟩
def nameL (k : Int) : List UInt8 := if k = 0 then [110, 111, 110, 101] else if k = 1 then [103, 101, 116] else if k = 2 then [115, 101, 116] else if k = 3 then [100, 101, 108] else if k = 4 then [119, 97, 105, 116] else if k = 5 then [99, 108, 101, 97, 114] else if k = 6 then [99, 108, 111, 115, 101] else if k = 7 then [108, 105, 109, 105, 116] else []
theorem known_cases {k : Int} (h : knownB k = true) : k = 0 ∨ k = 1 ∨ k = 2 ∨ k = 3 ∨ k = 4 ∨ k = 5 ∨ k = 6 ∨ k = 7 := by
  simp only [knownB, Bool.and_eq_true, decide_eq_true_eq] at h
  omega
theorem f30_spec {k : Int} {u : PH} (T : Tb u) : Spec Tryd.prog 30 #[.int .i64 k] u fun v u' => v = .string (S (nameL k)) ∧ u' = u := by
  refine f30_of ?_
  unfold f30_V
  refine (f56_spec k u).use ?_
  rintro v u' ⟨rfl, rfl⟩
  refine ⟨_, rfl, fun h => ⟨?_, rfl⟩, fun h => ?_⟩
  · have : nameL k = [] := by
      have h : knownB k = false := by simpa using h
      simp only [knownB, Bool.and_eq_false_iff, decide_eq_false_iff_not] at h
      unfold nameL
      rw [if_neg (by omega), if_neg (by omega), if_neg (by omega), if_neg (by omega), if_neg (by omega), if_neg (by omega), if_neg (by omega), if_neg (by omega)]
    rw [this]
  · have h : knownB k = true := by simpa using h
    obtain ⟨t, fr, hn⟩ := T.nam
    rcases known_cases h with rfl | rfl | rfl | rfl | rfl | rfl | rfl | rfl <;> exact ⟨⟨by decide, by decide⟩, _, by rw [PH.cell_eq hn]; rfl, rfl, rfl⟩
def evL (k : Int) : List UInt8 := if k = 1 then [101, 118, 105, 99, 116] else if k = 2 then [101, 120, 112, 105, 114, 101] else if k = 3 then [100, 101, 108] else if k = 4 then [99, 108, 101, 97, 114] else if k = 5 then [99, 108, 111, 115, 101] else if k = 6 then [114, 101, 106, 101, 99, 116] else []
theorem ev_cases {k : Int} (h : (decide (k ≥ 1) && decide (k ≤ 6)) = true) : k = 1 ∨ k = 2 ∨ k = 3 ∨ k = 4 ∨ k = 5 ∨ k = 6 := by
  simp only [Bool.and_eq_true, decide_eq_true_eq] at h
  omega
theorem ev_none {k : Int} (h : (decide (k ≥ 1) && decide (k ≤ 6)) = false) : evL k = [] := by
  simp only [Bool.and_eq_false_iff, decide_eq_false_iff_not] at h
  unfold evL
  rw [if_neg (by omega), if_neg (by omega), if_neg (by omega), if_neg (by omega), if_neg (by omega), if_neg (by omega)]
theorem f37_spec (k : Int) (u : PH) : Spec Tryd.prog 37 #[.int .i64 k] u fun v u' => v = .string (S (evL k)) ∧ u' = u := by
  refine f37_of ?_
  unfold f37_V
  refine (f61_spec k u).use ?_
  rintro v u' ⟨rfl, rfl⟩
  refine ⟨_, rfl, fun h => ⟨?_, rfl⟩, fun h => ?_⟩
  · rw [ev_none (by rw [Bool.not_eq_true'] at h; exact h)]
  · have h : (decide (k ≥ 1) && decide (k ≤ 6)) = true := by simpa using h
    rcases ev_cases h with rfl | rfl | rfl | rfl | rfl | rfl
    · refine (SemSpec.run (v := .string (S (evL 1))) (fun w => by kernel_rfl) _).use ?_
      rintro v u' ⟨rfl, rfl⟩
      exact ⟨_, rfl, rfl, rfl⟩
    · refine (SemSpec.run (v := .string (S (evL 2))) (fun w => by kernel_rfl) _).use ?_
      rintro v u' ⟨rfl, rfl⟩
      exact ⟨_, rfl, rfl, rfl⟩
    · refine (SemSpec.run (v := .string (S (evL 3))) (fun w => by kernel_rfl) _).use ?_
      rintro v u' ⟨rfl, rfl⟩
      exact ⟨_, rfl, rfl, rfl⟩
    · refine (SemSpec.run (v := .string (S (evL 4))) (fun w => by kernel_rfl) _).use ?_
      rintro v u' ⟨rfl, rfl⟩
      exact ⟨_, rfl, rfl, rfl⟩
    · refine (SemSpec.run (v := .string (S (evL 5))) (fun w => by kernel_rfl) _).use ?_
      rintro v u' ⟨rfl, rfl⟩
      exact ⟨_, rfl, rfl, rfl⟩
    · refine (SemSpec.run (v := .string (S (evL 6))) (fun w => by kernel_rfl) _).use ?_
      rintro v u' ⟨rfl, rfl⟩
      exact ⟨_, rfl, rfl, rfl⟩
end Go.Proofs.YtlmnfhhmgfnbpaaDoor.E
