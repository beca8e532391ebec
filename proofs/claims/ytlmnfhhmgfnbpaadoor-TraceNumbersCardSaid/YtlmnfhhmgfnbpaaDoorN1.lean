/- PLAIN LAWS: numbers as text and back. -/
import Derived.Test.YtlmnfhhmgfnbpaaDoorT3
import Derived.Lib.ParseIntB
namespace Go.Proofs.YtlmnfhhmgfnbpaaDoor.E
open Go
theorem dec_bytes : ∀ (m : Nat) (b : UInt8), b ∈ Lib.decDigits m → 48 ≤ b.toNat ∧ b.toNat ≤ 57 := by
  intro m
  induction m using Nat.strongRecOn with
  | _ m ih =>
    intro b hb
    have hu : ∀ d : Nat, d < 10 → 48 ≤ (UInt8.ofNat (48 + d)).toNat ∧ (UInt8.ofNat (48 + d)).toNat ≤ 57 := fun d hd => by simp; omega
    by_cases h : m < 10
    · rw [Lib.decDigits, dif_pos h] at hb
      simp only [List.mem_singleton] at hb
      subst hb; exact hu m h
    · rw [Lib.decDigits, dif_neg h] at hb
      simp only [List.mem_append, List.mem_singleton] at hb
      rcases hb with hb | rfl
      · exact ih (m / 10) (by omega) b hb
      · exact hu (m % 10) (by omega)
theorem dec_ne (m : Nat) : Lib.decDigits m ≠ [] := fun h => by
  have := Lib.decDigits_length m
  have := Lib.nDigits_pos m
  rw [h] at *
  simp at *
  omega
theorem dig_val (d : Nat) (hd : d < 10) : (UInt8.ofNat (48 + d)).toNat - 48 = d ∧ 48 ≤ (UInt8.ofNat (48 + d)).toNat ∧ (UInt8.ofNat (48 + d)).toNat ≤ 57 := by simp; omega
theorem parseM_dec {M : Nat} (hM : M ≤ 18446744073709551615) : ∀ (m : Nat) (r : List UInt8), m ≤ M → Lib.parseUintM M 0 (Lib.decDigits m ++ r) = Lib.parseUintM M m r := by
  intro m
  induction m using Nat.strongRecOn with
  | _ m ih =>
    intro r hm
    by_cases h : m < 10
    · obtain ⟨e1, e2, e3⟩ := dig_val m h
      rw [Lib.decDigits, dif_pos h, List.singleton_append, Lib.parseUintM, if_pos ⟨e2, e3⟩, if_neg (by omega), if_neg (by omega), e1]
      simp
    · obtain ⟨e1, e2, e3⟩ := dig_val (m % 10) (by omega)
      have e4 : m / 10 * 10 + m % 10 = m := by omega
      rw [Lib.decDigits, dif_neg h, List.append_assoc, List.singleton_append, ih (m / 10) (by omega) _ (by omega), Lib.parseUintM, if_pos ⟨e2, e3⟩, if_neg (by omega), if_neg (by omega), e1, e4]
theorem parseB_dec {m : Nat} (hm : m ≤ 18446744073709551615) : Lib.parseUintB 64 (Lib.decDigits m) = .ok m := by
  rw [Lib.parseUintB, if_neg (dec_ne m)]
  have := parseM_dec (M := 2 ^ 64 - 1) (by omega) m [] (by omega)
  rw [List.append_nil] at this
  rw [this]; rfl
theorem parse_itoa {x : Int} (h : I64 x) : Lib.parseIntB 64 (Lib.itoa x) = .ok x := by
  unfold Lib.itoa
  split
  · rename_i hx
    have e : Lib.parseUintB 64 (Lib.decDigits x.natAbs) = .ok x.natAbs := parseB_dec (by omega)
    simp only [Lib.parseIntB]
    rw [if_pos (.inr rfl), e]
    simp only []
    rw [if_neg (fun hh => hh.1 rfl), if_neg (by intro hh; have := hh.2; omega), if_pos (show UInt8.toNat 45 = 45 from rfl)]
    congr 1; omega
  · rename_i hx
    cases hd : Lib.decDigits x.toNat with
    | nil => exact (dec_ne _ hd).elim
    | cons c r =>
      have hc := dec_bytes x.toNat c (by rw [hd]; simp)
      have e : Lib.parseUintB 64 (c :: r) = .ok x.toNat := by rw [← hd]; exact parseB_dec (by omega)
      simp only [Lib.parseIntB]
      rw [if_neg (by omega), e]
      simp only []
      rw [if_neg (by intro hh; have := hh.2; omega), if_neg (by intro hh; have := hh.1; omega), if_neg (by omega)]
      congr 1; omega
theorem itoa_inj {x y : Int} (hx : I64 x) (hy : I64 y) (h : Lib.itoa x = Lib.itoa y) : x = y := by
  have h1 := parse_itoa hx
  rw [h, parse_itoa hy] at h1
  cases h1; rfl
/-- the bytes of a number's text -/
theorem itoa_at {x : Int} {i : Nat} {b : UInt8} (h : (Lib.itoa x)[i]? = some b) : (48 ≤ b.toNat ∧ b.toNat ≤ 57) ∨ (b.toNat = 45 ∧ i = 0) := by
  unfold Lib.itoa at h
  split at h
  · cases i with
    | zero => simp at h; subst h; exact .inr ⟨rfl, rfl⟩
    | succ i => rw [List.getElem?_cons_succ] at h; exact .inl (dec_bytes _ _ (List.mem_of_getElem? h))
  · exact .inl (dec_bytes _ _ (List.mem_of_getElem? h))
open Classical in
/-- of which number a text is one -/
noncomputable def numR (s : List UInt8) : Int × Bool := if h : ∃ x, I64 x ∧ Lib.itoa x = s then (Classical.choose h, true) else (0, false)
theorem numR_itoa {x : Int} (h : I64 x) : numR (Lib.itoa x) = (x, true) := by
  have he : ∃ y, I64 y ∧ Lib.itoa y = Lib.itoa x := ⟨x, h, rfl⟩
  unfold numR
  rw [dif_pos he]
  obtain ⟨h1, h2⟩ := Classical.choose_spec he
  rw [itoa_inj h1 h h2]
theorem numR_none {s : List UInt8} (h : ¬ ∃ x, I64 x ∧ Lib.itoa x = s) : numR s = (0, false) := by
  unfold numR
  rw [dif_neg h]
/-- what digits spell -/
def val10 (a : Nat) (l : List UInt8) : Nat := l.foldl (fun a b => 10 * a + (b.toNat - 48)) a
theorem val10_dec : ∀ m, val10 0 (Lib.decDigits m) = m := by
  intro m
  induction m using Nat.strongRecOn with
  | _ m ih =>
    by_cases h : m < 10
    · obtain ⟨e1, _, _⟩ := dig_val m h
      rw [Lib.decDigits, dif_pos h]
      simp only [val10, List.foldl_cons, List.foldl_nil, e1]; omega
    · obtain ⟨e1, _, _⟩ := dig_val (m % 10) (by omega)
      have := ih (m / 10) (by omega)
      rw [Lib.decDigits, dif_neg h, val10, List.foldl_append]
      simp only [List.foldl_cons, List.foldl_nil, e1]
      rw [val10] at this
      rw [this]; omega
theorem val10_snoc (a : Nat) (l : List UInt8) (b : UInt8) : val10 a (l ++ [b]) = 10 * val10 a l + (b.toNat - 48) := by simp [val10, List.foldl_append]
end Go.Proofs.YtlmnfhhmgfnbpaaDoor.E
