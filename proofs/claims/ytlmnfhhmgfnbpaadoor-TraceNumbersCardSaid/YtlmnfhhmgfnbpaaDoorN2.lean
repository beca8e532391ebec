/- CONTRACTS: numbers out of text, the document's. -/
import Derived.Test.YtlmnfhhmgfnbpaaDoorN1
import Derived.Test.YtlmnfhhmgfnbpaaDoorVC
namespace Go.Proofs.YtlmnfhhmgfnbpaaDoor.E
open Go Go.RowKit
theorem hu9 : Tryd.prog.underlying 9 = some .string := by kernel_rfl
theorem S_get {l : List UInt8} {j : Nat} {b : UInt8} (h : l[j]? = some b) : ∃ hj : j < (S l).size, (S l)[j]'hj = b := by
  obtain ⟨h1, h2⟩ := List.getElem?_eq_some_iff.1 h
  exact ⟨by rw [S_size]; exact h1, h2⟩
theorem sem_idx {l : List UInt8} {k : IntKind} {i : Int} {b : UInt8} (h0 : 0 ≤ i) (hb : l[i.toNat]? = some b) (u : PH) : SemSpec Tryd.prog (Instr.index 9 (.string (S l)) (.int k i)) u fun v u' => v = .int .u8 (b.toNat : Int) ∧ u' = u := by
  obtain ⟨h1, h2⟩ := S_get hb
  have hg : (S l)[i.toNat]? = some b := by rw [getElem?_pos (S l) i.toNat h1, h2]
  refine SemSpec.run (fun w => ?_) u
  unfold Instr.index
  simp [Sem.run_bind, asIntOf, underlying, hu9, h0, hg]
theorem S_toList (s : ByteArray) : s = S s.data.toList := by simp [S]
theorem wrap_u64e (x : Int) : IntKind.wrap .u64 x = x % 18446744073709551616 := by
  simp [IntKind.wrap, IntKind.bits, IntKind.signed]
theorem str_eq {a b : List UInt8} : (ByteArray.toList (S a) == ByteArray.toList (S b)) = decide (a = b) := by
  rw [ByteArray.toList_eq, ByteArray.toList_eq]
  by_cases h : a = b
  · subst h; simp
  · rw [decide_eq_false h]; simpa using h
abbrev QN (l : List UInt8) (u : PH) : Value → PH → Prop := fun v u' => v = .tuple #[.int .i64 (numR l).1, .bool (numR l).2] ∧ Ext u u'
/-- a number's text: its sign, its digits -/
theorem itoa_parts {y : Int} {l : List UInt8} (h : Lib.itoa y = l) : (l[0]? = some 45 ∧ y < 0 ∧ l.drop 1 = Lib.decDigits y.natAbs) ∨ (l[0]? ≠ some 45 ∧ 0 ≤ y ∧ l = Lib.decDigits y.toNat) := by
  subst h
  unfold Lib.itoa
  split
  · rename_i h; exact .inl ⟨rfl, h, rfl⟩
  · rename_i h
    refine .inr ⟨fun hh => ?_, by omega, rfl⟩
    have := dec_bytes _ _ (List.mem_of_getElem? hh)
    simp at this
theorem loopNum {l : List UInt8} {f : Nat} {c1 : Int} (hf : (f = 1 ∧ l[0]? = some 45 ∧ c1 = 1) ∨ (f = 0 ∧ l[0]? ≠ some 45 ∧ c1 = 0)) (hl : l.length ≤ 1000000) (u : PH) (x0 : Int) (hx0 : x0 = f) :
    ∃ (I4 : Int → Bool → Int → Int → PH → Prop) (M5 : Int → Bool → Int → Int → PH → Nat), I4 0 false 0 x0 u ∧ ∀ n6 : Int, ∀ b7 : Bool, ∀ n8 : Int, ∀ n9 : Int, ∀ u10 : PH, I4 n6 b7 n8 n9 u10 →
      ((decide ((n9 : Int) < (((S l).size : Int)))) = true → SemSpec Tryd.prog (Instr.index 9 (.string (S l)) (.int .i64 n9)) u10 (fun v11 u12 => ∃ n13 : Int, v11 = .int .u8 n13 ∧
        ((decide ((n13 : Int) < 48)) = true → QN l u (.tuple #[.int .i64 0, .bool false]) u12) ∧
        ((decide ((n13 : Int) < 48)) = false → SemSpec Tryd.prog (Instr.index 9 (.string (S l)) (.int .i64 n9)) u12 (fun v14 u15 => ∃ n16 : Int, v14 = .int .u8 n16 ∧
          (((decide ((n16 : Int) > 57)) || (decide ((n9 : Int) > 20))) = true → QN l u (.tuple #[.int .i64 0, .bool false]) u15) ∧
          (((decide ((n16 : Int) > 57)) || (decide ((n9 : Int) > 20))) = false → SemSpec Tryd.prog (Instr.index 9 (.string (S l)) (.int .i64 n9)) u15 (fun v17 u18 => ∃ n19 : Int, v17 = .int .u8 n19 ∧
            I4 n6 b7 (IntKind.wrap .u64 ((IntKind.wrap .u64 (10 * n8)) + (IntKind.wrap .u64 (IntKind.wrap .u8 (n19 - 48))))) (IntKind.wrap .i64 (n9 + 1)) u18 ∧ M5 n6 b7 (IntKind.wrap .u64 ((IntKind.wrap .u64 (10 * n8)) + (IntKind.wrap .u64 (IntKind.wrap .u8 (n19 - 48))))) (IntKind.wrap .i64 (n9 + 1)) u18 < M5 n6 b7 n8 n9 u10))))) ) ∧
      ((decide ((n9 : Int) < (((S l).size : Int)))) = false →
        (((c1 : Int) == 1) = true → Spec Tryd.prog 18 #[.int .i64 (IntKind.wrap .i64 (IntKind.wrap .u64 (0 - n8)))] u10 (fun v20 u21 => ∃ s22 : ByteArray, v20 = .string s22 ∧
          ((!(ByteArray.toList s22 == ByteArray.toList (S l))) = true → QN l u (.tuple #[.int .i64 0, .bool false]) u21) ∧
          ((!(ByteArray.toList s22 == ByteArray.toList (S l))) = false → QN l u (.tuple #[.int .i64 (IntKind.wrap .i64 (IntKind.wrap .u64 (0 - n8))), .bool true]) u21))) ∧
        (((c1 : Int) == 1) = false → Spec Tryd.prog 18 #[.int .i64 (IntKind.wrap .i64 n8)] u10 (fun v23 u24 => ∃ s25 : ByteArray, v23 = .string s25 ∧
          ((!(ByteArray.toList s25 == ByteArray.toList (S l))) = true → QN l u (.tuple #[.int .i64 0, .bool false]) u24) ∧
          ((!(ByteArray.toList s25 == ByteArray.toList (S l))) = false → QN l u (.tuple #[.int .i64 (IntKind.wrap .i64 n8), .bool true]) u24)))) := by
  subst hx0
  have hsz := S_size l
  have w64 : ∀ x : Int, I64 (IntKind.wrap .i64 x) := fun x => by
    simp only [I64, IntKind.wrap, IntKind.bits, IntKind.signed]; simp; omega
  -- no number's text
  have no : ∀ {i : Nat} {b : UInt8}, l[i]? = some b → f ≤ i → (b.toNat < 48 ∨ 57 < b.toNat ∨ 20 < i) → numR l = (0, false) := fun {i b} hb hi hbad => by
    refine numR_none fun ⟨y, hy, he⟩ => ?_
    have hlen := itoa_len hy
    have hil := (List.getElem?_eq_some_iff.1 hb).1
    rw [he] at hlen
    rw [← he] at hb
    rcases itoa_at hb with h | ⟨h, h0⟩
    · omega
    · subst h0
      rcases hf with ⟨h1, _, _⟩ | ⟨h1, h2, _⟩
      · omega
      · refine h2 ?_
        rw [← he, hb]
        congr 1
        exact UInt8.toNat_inj.1 h
  refine ⟨fun _ _ n8 n9 u' => ∃ k : Nat, n9 = ((f + k : Nat) : Int) ∧ f + k ≤ l.length ∧ n8 = ((val10 0 ((l.drop f).take k) % 18446744073709551616 : Nat) : Int) ∧ u' = u, fun _ _ _ n9 _ => l.length - n9.toNat, ⟨0, by omega, ?_, by simp [val10], rfl⟩, ?_⟩
  · rcases hf with ⟨h1, h2, _⟩ | ⟨h1, _⟩
    · have := (List.getElem?_eq_some_iff.1 h2).1; omega
    · omega
  rintro n6 b7 n8 n9 u1 ⟨k, rfl, hk, rfl, rfl⟩
  refine ⟨fun hlt => ?_, fun hge => ?_⟩
  · have hlt := of_decide_eq_true hlt
    rw [hsz] at hlt
    obtain ⟨b, hb⟩ : ∃ b, l[f + k]? = some b := ⟨_, List.getElem?_eq_getElem (by omega)⟩
    have hb' : l[(((f + k : Nat) : Int)).toNat]? = some b := hb
    have hidx : ∀ u, SemSpec Tryd.prog (Instr.index 9 (.string (S l)) (.int .i64 ((f + k : Nat) : Int))) u fun v u' => v = .int .u8 (b.toNat : Int) ∧ u' = u := fun u => sem_idx (by omega) hb' u
    refine (hidx _).use ?_
    rintro v u2 ⟨rfl, rfl⟩
    refine ⟨_, rfl, fun h => ?_, fun h => (hidx _).use ?_⟩
    · have h := of_decide_eq_true h
      rw [QN, no hb (by omega) (.inl (by omega))]
      exact ⟨rfl, Ext.refl _⟩
    have h := of_decide_eq_false h
    rintro v u3 ⟨rfl, rfl⟩
    refine ⟨_, rfl, fun h2 => ?_, fun h2 => (hidx _).use ?_⟩
    · simp only [Bool.or_eq_true, decide_eq_true_eq] at h2
      rw [QN, no hb (by omega) (.inr (by omega))]
      exact ⟨rfl, Ext.refl _⟩
    simp only [Bool.or_eq_false_iff, decide_eq_false_iff_not] at h2
    rintro v u4 ⟨rfl, rfl⟩
    have hdrop : (l.drop f)[k]? = some b := by rw [List.getElem?_drop]; exact hb
    refine ⟨_, rfl, ⟨k + 1, ?_, by omega, ?_, rfl⟩, ?_⟩
    · rw [wrap_i64 (by omega) (by omega)]; omega
    · rw [List.take_add_one, hdrop, Option.toList_some, val10_snoc, wrap_u8 (by omega) (by omega), wrap_u64e, wrap_u64e, wrap_u64e]
      omega
    · rw [wrap_i64 (by omega) (by omega)]
      show l.length - Int.toNat _ < l.length - Int.toNat _
      omega
  · have hge := of_decide_eq_false hge
    rw [hsz] at hge
    have hfk : f + k = l.length := by omega
    have htake : (l.drop f).take k = l.drop f := List.take_of_length_le (by rw [List.length_drop]; omega)
    rw [htake]
    have fin : ∀ {x : Int} {u5 : PH}, I64 x → Ext u1 u5 → (∀ y, I64 y → Lib.itoa y = l → y = x) → ((!(ByteArray.toList (S (Lib.itoa x)) == ByteArray.toList (S l))) = true → QN l u1 (.tuple #[.int .i64 0, .bool false]) u5) ∧ ((!(ByteArray.toList (S (Lib.itoa x)) == ByteArray.toList (S l))) = false → QN l u1 (.tuple #[.int .i64 x, .bool true]) u5) := fun {x u5} hx hE huniq => by
      rw [str_eq]
      refine ⟨fun h => ?_, fun h => ?_⟩
      · have h : ¬ Lib.itoa x = l := by simpa using h
        rw [QN, numR_none fun ⟨y, hy, he⟩ => h (by rw [← huniq y hy he]; exact he)]
        exact ⟨rfl, hE⟩
      · have h : Lib.itoa x = l := by simpa using h
        rw [QN, ← h, numR_itoa hx]
        exact ⟨rfl, hE⟩
    refine ⟨fun h1 => (f18_spec (w64 _).1 (w64 _).2).use ?_, fun h1 => (f18_spec (w64 _).1 (w64 _).2).use ?_⟩
    · have h1 : c1 = 1 := by simpa using h1
      rintro v u5 ⟨rfl, hE⟩
      refine ⟨_, rfl, fin (w64 _) hE fun y hy he => ?_⟩
      rcases hf with ⟨rfl, h45, _⟩ | ⟨_, _, h⟩
      · rcases itoa_parts he with ⟨_, h2, h3⟩ | ⟨h2, _⟩
        · rw [h3, val10_dec]
          simp only [IntKind.wrap, IntKind.bits, IntKind.signed]
          simp
          omega
        · exact (h2 h45).elim
      · omega
    · have h1 : ¬ c1 = 1 := by simpa using h1
      rintro v u5 ⟨rfl, hE⟩
      refine ⟨_, rfl, fin (w64 _) hE fun y hy he => ?_⟩
      rcases hf with ⟨_, _, h⟩ | ⟨rfl, h45, _⟩
      · omega
      · rcases itoa_parts he with ⟨h2, _⟩ | ⟨_, h2, h3⟩
        · exact (h45 h2).elim
        · rw [List.drop_zero, h3, val10_dec, wrap_i64 (by omega) (by omega)]
          omega
theorem f16_spec {l : List UInt8} (hl : l.length ≤ 1000000) (u : PH) : Spec Tryd.prog 16 #[.string (S l)] u (QN l u) := by
  have hsz := S_size l
  refine f16_of ?_
  unfold f16_V
  refine ⟨fun h => ?_, fun h => loopNum (.inr ⟨rfl, ?_, rfl⟩) hl u 0 rfl⟩
  · have h := of_decide_eq_true h
    rw [hsz] at h
    obtain ⟨b, hb⟩ : ∃ b, l[0]? = some b := ⟨_, List.getElem?_eq_getElem (by omega)⟩
    refine (sem_idx (i := 0) (by omega) hb u).use ?_
    rintro v u2 ⟨rfl, rfl⟩
    refine ⟨_, rfl, fun h => loopNum (.inl ⟨rfl, ?_, rfl⟩) hl _ 1 rfl, fun h => loopNum (.inr ⟨rfl, ?_, rfl⟩) hl _ 0 rfl⟩
    · have h : b.toNat = 45 := by
        have h : (b.toNat : Int) = 45 := by simpa using h
        omega
      rw [hb]; congr 1
      exact UInt8.toNat_inj.1 h
    · have h : ¬ (b.toNat : Int) = 45 := by simpa using h
      rw [hb]
      intro hh
      cases hh
      exact h rfl
  · have h := of_decide_eq_false h
    rw [hsz] at h
    rw [List.getElem?_eq_none (by omega)]; simp
end Go.Proofs.YtlmnfhhmgfnbpaaDoor.E
