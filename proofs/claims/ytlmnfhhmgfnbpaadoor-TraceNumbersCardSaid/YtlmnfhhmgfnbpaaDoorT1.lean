/- CONTRACTS: whole numbers as text, the library's and the document's. -/
import Derived.Test.YtlmnfhhmgfnbpaaDoorL6
import Derived.Test.YtlmnfhhmgfnbpaaDoorVA
import Derived.Test.YtlmnfhhmgfnbpaaDoorShelf
namespace Go.Proofs.YtlmnfhhmgfnbpaaDoor.E
open Go Go.RowKit
abbrev S (l : List UInt8) : ByteArray := ⟨l.toArray⟩
theorem S_add (a b : List UInt8) : S a ++ S b = S (a ++ b) := by
  apply ByteArray.ext
  simp [S]
theorem S_size (a : List UInt8) : (S a).size = a.length := by simp [S, ByteArray.size]
theorem post_of_below {u : PH} {w w' : World} {v : Value} {Q : Value → PH → Prop} (hs : Sub u w) (hb : Below w.heap.size w w') (hq : Q v u) :
    ∃ v' u', Ending.returned v = .returned v' ∧ Sub u' w' ∧ Fr u w u' w' ∧ Q v' u' :=
  ⟨v, u, rfl, fun b o hbo => by
    have h1 := hs b o hbo
    have h2 : b < w.heap.size := by
      rcases Nat.lt_or_ge b w.heap.size with h | h
      · exact h
      · rw [Array.getElem?_eq_none h] at h1; cases h1
    rw [hb.block b h2]; exact h1, ⟨hb.os, hb.tape, hb.output, hb.size, fun b h1 h2 => ⟨hb.block b h1, h2⟩⟩, hq⟩
/-- what the program's package variables hold -/
structure Tb (u : PH) : Prop where
  pow : ∃ t fr, u 1 = some (.cells (Lib.pow10Tab.map fun z => Value.int .u64 z).toArray t fr)
  nam : ∃ t fr, u 0 = some (.cells #[.string (S [110, 111, 110, 101]), .string (S [103, 101, 116]), .string (S [115, 101, 116]), .string (S [100, 101, 108]), .string (S [119, 97, 105, 116]), .string (S [99, 108, 101, 97, 114]), .string (S [99, 108, 111, 115, 101]), .string (S [108, 105, 109, 105, 116])] t fr)
theorem Tb.ext {u u' : PH} (h : Tb u) (he : Ext u u') : Tb u' := by
  obtain ⟨⟨t, fr, h1⟩, ⟨t', fr', h2⟩⟩ := h
  exact ⟨⟨t, fr, he _ _ h1⟩, ⟨t', fr', he _ _ h2⟩⟩
theorem gn1 : Tryd.prog.globalNamed "internal/strconv.uint64pow10" = some 1 := by kernel_rfl
theorem Tb.tab {u : PH} {w : World} (h : Tb u) (hs : Sub u w) : Lib.TabIs Tryd.prog w "internal/strconv.uint64pow10" .u64 Lib.pow10Tab := by
  obtain ⟨t, fr, h1⟩ := h.pow
  have h2 := hs _ _ h1
  simp only [Lib.TabIs, World.var?, gn1, Option.bind_some, h2]
theorem below_gr (w : World) (k : Nat) (os : Array Obj) : Below w.heap.size w (Go.Sort.grow (w.drewN k) os) :=
  ⟨rfl, rfl, rfl, by simp [Go.Sort.grow], fun i hi => by
    show ((w.drewN k).heap ++ os)[i]? = _
    rw [Array.getElem?_append_left (by show i < w.heap.size; omega)]
    rfl⟩
theorem f41_spec {n : Int} (h0 : -9223372036854775808 ≤ n) (h1 : n ≤ 9223372036854775807) {u : PH} (T : Tb u) : Spec Tryd.prog 41 #[.int .i64 n] u fun v u' => v = .string (S (Lib.itoa n)) ∧ u' = u := fun w hw =>
  (Tryd.strconv_Itoa n h0 h1 w (T.tab hw)).mono (by
    rintro e w' ⟨rfl, k, os, rfl⟩
    exact post_of_below hw (below_gr w k os) ⟨rfl, rfl⟩)
theorem f17_spec {n : Int} (h0 : -9223372036854775808 ≤ n) (h1 : n ≤ 9223372036854775807) {u : PH} (T : Tb u) : Spec Tryd.prog 17 #[.int .i64 n] u fun v u' => v = .string (S (Lib.itoa n)) ∧ u' = u := by
  refine f17_of ?_
  unfold f17_V
  refine (f41_spec h0 h1 T).use ?_
  rintro v u' ⟨rfl, rfl⟩
  exact ⟨_, rfl, rfl, rfl⟩
theorem sem_str {u : PH} {b o n c : Nat} {l : List UInt8} (hl : l.length = n) (hc : ∀ (j : Nat) x, l[j]? = some x → PH.cell u b (o + j) = some (.int .u8 (x.toNat : Int))) :
    SemSpec Tryd.prog (convert 107 9 (.slice (some ⟨b, o, none⟩) n c)) u fun v u' => v = .string (S l) ∧ u' = u := by
  subst hl
  intro w hw
  refine ⟨_, w, u, run_convert_bytes_back w 107 9 5 ⟨b, o, none⟩ c l (by kernel_rfl) (by kernel_rfl) (by kernel_rfl) (fun j hj => ?_), hw, ⟨rfl, rfl, rfl, Nat.le_refl _, fun k _ h => ⟨rfl, h⟩⟩, rfl, rfl⟩
  rw [addr_add]
  exact cell_ok' (hc j _ (List.getElem?_eq_getElem hj)) hw
theorem nDigits_le {N : Nat} (h : N < 18446744073709551616) : Lib.nDigits N ≤ 20 := by
  rcases Nat.lt_or_ge N 10 with h1 | h1
  · rw [Lib.nDigits_small h1]; omega
  · have := (Lib.numDigits_eq N (by omega) h)
    have h2 := this.1
    have h3 := this.2
    split at h2 <;> omega
theorem wrap_u64 {x : Int} (h1 : 0 ≤ x) (h2 : x ≤ 18446744073709551615) : IntKind.wrap .u64 x = x := by
  simp only [IntKind.wrap, IntKind.bits, IntKind.signed]
  simp
  omega
theorem wrap_u8 {x : Int} (h1 : 0 ≤ x) (h2 : x ≤ 255) : IntKind.wrap .u8 x = x := by
  simp only [IntKind.wrap, IntKind.bits, IntKind.signed]
  simp
  omega
theorem byte_eq {m : Nat} (h : m < 208) : IntKind.wrap .u8 (IntKind.wrap .u64 (48 + (m : Int))) = ((UInt8.ofNat (48 + m)).toNat : Int) := by
  rw [wrap_u64 (by omega) (by omega), wrap_u8 (by omega) (by omega)]
  simp
  omega
theorem f39_spec {N : Nat} (hN : N < 18446744073709551616) {u : PH} : Spec Tryd.prog 39 #[.int .u64 N] u fun v u' => v = .string (S (Lib.decDigits N)) ∧ Ext u u' := by
  have hlen := Lib.decDigits_length N
  have hle := nDigits_le hN
  refine f39_of ?_
  unfold f39_V
  refine ⟨fun n s u' => ∃ (m : Nat) (l : List UInt8), n = m ∧ m ≤ N ∧ s = S l ∧ Lib.decDigits N = Lib.decDigits m ++ l ∧ Ext u u', fun n _ _ => n.toNat, ⟨N, [], rfl, Nat.le_refl _, rfl, by simp, Ext.refl _⟩, ?_⟩
  rintro n s u1 ⟨m, l, rfl, hm, rfl, hd, hE⟩
  have hl : l.length ≤ 20 := by
    have := congrArg List.length hd
    rw [List.length_append] at this
    omega
  refine ⟨fun hgt => ⟨by decide, fun B hB => ?_⟩, fun hle' B hB => ?_⟩
  · have hgt := of_decide_eq_true hgt
    have e1 : Int.tmod (m : Int) 10 = ((m % 10 : Nat) : Int) := by
      rw [Int.tmod_eq_emod_of_nonneg (by omega)]; omega
    have e2 : Int.tdiv (m : Int) 10 = ((m / 10 : Nat) : Int) := by
      rw [Int.tdiv_eq_ediv_of_nonneg (by omega)]; omega
    rw [e1, e2, byte_eq (by omega), wrap_u64 (x := ((m / 10 : Nat) : Int)) (by omega) (by omega)]
    refine (sem_str (l := [UInt8.ofNat (48 + m % 10)]) rfl fun j x hj => ?_).use ?_
    · cases j with
      | zero =>
        simp only [List.getElem?_cons_zero, Option.some.injEq] at hj
        subst hj
        rw [PH.cell_eq (PH.add_eq _ _ _)]; rfl
      | succ j => simp at hj
    rintro v u2 ⟨rfl, rfl⟩
    refine ⟨_, rfl, by rw [S_size, S_size]; simp; omega, by decide, ⟨m / 10, _, rfl, by omega, S_add _ _, ?_, hE.trans (Ext.add hB _)⟩, by show Int.toNat _ < Int.toNat _; omega⟩
    rw [hd]
    conv => lhs; rw [Lib.decDigits, dif_neg (by omega)]
    simp
  · have hle' := of_decide_eq_false hle'
    rw [byte_eq (by omega)]
    refine (sem_str (l := [UInt8.ofNat (48 + m)]) rfl fun j x hj => ?_).use ?_
    · cases j with
      | zero =>
        simp only [List.getElem?_cons_zero, Option.some.injEq] at hj
        subst hj
        rw [PH.cell_eq (PH.add_eq _ _ _)]; rfl
      | succ j => simp at hj
    rintro v u2 ⟨rfl, rfl⟩
    refine ⟨_, rfl, by rw [S_size, S_size]; simp; omega, ?_, hE.trans (Ext.add hB _)⟩
    rw [hd, S_add]
    conv => rhs; rw [Lib.decDigits, dif_pos (by omega)]
theorem f18_spec {n : Int} (h0 : -9223372036854775808 ≤ n) (h1 : n ≤ 9223372036854775807) {u : PH} : Spec Tryd.prog 18 #[.int .i64 n] u fun v u' => v = .string (S (Lib.itoa n)) ∧ Ext u u' := by
  refine f18_of ?_
  unfold f18_V
  refine ⟨fun hlt => ?_, fun hge => ?_⟩
  · have hlt := of_decide_eq_true hlt
    have e : IntKind.wrap .u64 (0 - IntKind.wrap .u64 n) = ((n.natAbs : Nat) : Int) := by
      simp only [IntKind.wrap, IntKind.bits, IntKind.signed]
      simp
      omega
    rw [e]
    refine (f39_spec (by omega)).use ?_
    rintro v u' ⟨rfl, hE⟩
    have hl := Lib.decDigits_length n.natAbs
    have := nDigits_le (N := n.natAbs) (by omega)
    refine ⟨_, rfl, ?_, ?_, hE⟩
    · rw [S_size]
      show 1 + (S (Lib.decDigits n.natAbs)).size ≤ _
      rw [S_size, hl]; omega
    · rw [show ByteArray.mk #[45] = S [45] from rfl, S_add, Lib.itoa, if_pos hlt]; rfl
  · have hge := of_decide_eq_false hge
    rw [wrap_u64 (by omega) (by omega), show n = ((n.toNat : Nat) : Int) by omega]
    refine (f39_spec (by omega)).use ?_
    rintro v u' ⟨rfl, hE⟩
    refine ⟨_, rfl, ?_, hE⟩
    rw [Lib.itoa, if_neg (by omega)]; simp only [Int.toNat_natCast]
end Go.Proofs.YtlmnfhhmgfnbpaaDoor.E
