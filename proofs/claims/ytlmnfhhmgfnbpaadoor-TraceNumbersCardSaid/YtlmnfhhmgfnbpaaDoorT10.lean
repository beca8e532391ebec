/- TraceTells: the row and its card. -/
import Derived.Test.YtlmnfhhmgfnbpaaDoorT9a
import Derived.Test.YtlmnfhhmgfnbpaaDoorK0
import Derived.Test.YtlmnfhhmgfnbpaaDoorTie
import Derived.Test.YtlmnfhhmgfnbpaaDoorCards
import Derived.LaidLaws
import Derived.Stop.LaidErr
import Derived.SevenTiedAt
import Derived.Handed
namespace Go.Proofs.YtlmnfhhmgfnbpaaDoor.E
open Go Go.ChangeShapes Go.WideShapes Go.ChangeAt Go.RowKit
theorem laidOut : laidOutB Tryd.prog = true := by kernel_rfl
theorem own : ownKnob Tryd.prog.godebug = none := by kernel_rfl
/-! package variables -/
noncomputable def strsData {H : Type} (zs : List (List UInt8)) : DataW H := .agg (zs.map fun z => .lit (.string z))
theorem cells_of_strs {H : Type} {enc : TypeId × Value → H} {P : Program} {w : World} {base : Nat} {sp : Nat → Bool} {held : Bool} {fuel : Nat} {t e : TypeId} {n : Nat} {cs : List Value} {zs : List (List UInt8)} {p : List MemPlace}
    (ht : P.underlying t = some (.array n e)) (he : P.underlying e = some .string) (hce : P.cellsOf e = 1) (hct : P.cellsOf t = n)
    (h : DataW.trod enc P w base sp held fuel t cs = some (strsData zs, p)) : cs = zs.map fun z => Value.string (S z) := by
  cases fuel with
  | zero => simp [DataW.trod] at h
  | succ fuel =>
    simp only [DataW.trod, ht, hce, hct, Nat.mul_one] at h
    split at h
    · rename_i hl
      obtain ⟨xs, hm, hx⟩ := Option.map_eq_some_iff.1 h
      have hxs : xs.map (·.1) = zs.map fun z => (DataW.lit (.string z) : DataW H) := by
        have := congrArg Prod.fst hx
        simpa [strsData] using this
      have hxl : xs.length = n := by simpa using Lib.mapM_length hm
      have hzl : zs.length = n := by
        have := congrArg List.length hxs
        simp at this
        omega
      apply List.ext_getElem?
      intro i
      by_cases hi : i < n
      · obtain ⟨b, hb, hf⟩ := Lib.mapM_at hm i i (by simp [hi])
        obtain ⟨z, hc, rfl, _⟩ := DataW.trod_string he hf
        have h1 : cs[i]? = some (.string z) := by
          have := congrArg (·[0]?) hc
          simpa [List.getElem?_take, List.getElem?_drop] using this
        have h2 : (xs.map (·.1))[i]? = some (DataW.lit (.string z.data.toList) : DataW H) := by simp [hb]
        rw [hxs] at h2
        simp only [List.getElem?_map, Option.map_eq_some_iff, DataW.lit.injEq, Lit.string.injEq] at h2
        obtain ⟨z', hz', rfl⟩ := h2
        rw [h1, List.getElem?_map, hz']
        simp [S]
      · rw [List.getElem?_eq_none (by omega), List.getElem?_eq_none (by simp; omega)]
    · cases h
theorem gn0 : Tryd.prog.globalNamed "cortado/prog.names" = some 0 := by kernel_rfl
theorem var_block {W : World} {name : String} {g : Nat} {cs : Array Value} (hg : Tryd.prog.globalNamed name = some g) (h : W.var? Tryd.prog name = some cs) : ∃ t fr, whole W g = some (.cells cs t fr) := by
  simp only [World.var?, hg, Option.bind_some] at h
  split at h
  · rename_i c t fr hb
    cases h
    exact ⟨t, fr, hb⟩
  · cases h
noncomputable def tG (g : Nat) : TypeId := ((Tryd.prog.globals[g]?).map (·.type)).getD 0
theorem names_of_laid {W : World} {rest : List (String × DataW Unit)} (h : laidMet Tryd.prog (("cortado/prog.names", Rows.laid_cortado_prog_names) :: rest) W) : W.var? Tryd.prog "cortado/prog.names" = some #[.string (S [110, 111, 110, 101]), .string (S [103, 101, 116]), .string (S [115, 101, 116]), .string (S [100, 101, 108]), .string (S [119, 97, 105, 116]), .string (S [99, 108, 101, 97, 114]), .string (S [99, 108, 111, 115, 101]), .string (S [108, 105, 109, 105, 116])] := by
  obtain ⟨ps, ⟨g', t', cs, fuel, p, q, hg', ht', hvar, hd, _, _⟩, _⟩ := h
  obtain rfl := Option.some.inj (gn0.symm.trans hg')
  have hty : (Tryd.prog.globals[0]?).map (·.type) = some (tG 0) := by kernel_rfl
  obtain rfl := Option.some.inj (hty.symm.trans ht')
  have := cells_of_strs (n := 8) (e := 9) (zs := [[110, 111, 110, 101], [103, 101, 116], [115, 101, 116], [100, 101, 108], [119, 97, 105, 116], [99, 108, 101, 97, 114], [99, 108, 111, 115, 101], [108, 105, 109, 105, 116]]) (by kernel_rfl) (by kernel_rfl) (by kernel_rfl) (by kernel_rfl) hd
  rw [hvar]
  congr 1
  apply Array.ext'
  rw [this]
  rfl
theorem pow_of_laid {W : World} {rest : List (String × DataW Unit)} (h : laidMet Tryd.prog (("internal/strconv.uint64pow10", Rows.laid_internal_strconv_uint64pow10) :: rest) W) : Lib.TabIs Tryd.prog W "internal/strconv.uint64pow10" .u64 Lib.pow10Tab :=
  Lib.tabIs_of_head (g := 1) (t := tG 1) (e := 29) (n := 20) (zs := Lib.pow10Tab) (rest := rest) gn1 (by kernel_rfl) (by kernel_rfl) (by kernel_rfl) (by kernel_rfl) (by kernel_rfl) h
theorem tb_of_laid {W : World} {a b : String × DataW Unit} {rest : List (String × DataW Unit)} (h : laidMet Tryd.prog (a :: b :: ("internal/strconv.uint64pow10", Rows.laid_internal_strconv_uint64pow10) :: ("cortado/prog.names", Rows.laid_cortado_prog_names) :: rest) W) : Tb (whole W) :=
  ⟨var_block gn1 (pow_of_laid h.tail.tail), var_block gn0 (names_of_laid h.tail.tail.tail)⟩
theorem flat25 : flat Tryd.prog 8 25 = some [.int .i64, .int .i64, .int .i64, .int .i64, .int .i64, .int .i64, .int .i64, .int .i64, .int .i64, .int .i64, .int .i64, .bool, .int .i64] := by kernel_rfl
theorem flat28 : flat Tryd.prog 8 28 = some [.int .i64, .int .i64, .int .i64, .slice] := by kernel_rfl
theorem flat31 : flat Tryd.prog 8 31 = some [.int .i64, .int .u64, .int .u64, .int .i64, .int .i64] := by kernel_rfl
theorem i64_of {n : Int} (h : (Lit.int .i64 n).wf = true) : I64 n := by
  simp only [Lit.wf, Bool.and_eq_true, decide_eq_true_eq] at h
  exact h
theorem u64_of {n : Int} (h : (Lit.int .u64 n).wf = true) : ∃ N : Nat, n = N ∧ N < 18446744073709551616 := by
  simp only [Lit.wf, Bool.and_eq_true, decide_eq_true_eq] at h
  have h0 : (0 : Int) ≤ n := h.1
  have h1 : n ≤ 18446744073709551615 := h.2
  exact ⟨n.toNat, by omega, by omega⟩
theorem call_of {vs : List Value} (h : fitsL [.int .i64, .int .i64, .int .i64, .int .i64, .int .i64, .int .i64, .int .i64, .int .i64, .int .i64, .int .i64, .int .i64, .bool, .int .i64] vs) : ∃ c : Call, vs = c.cells ∧ CallI c := by
  have hl := fitsL_len h
  match vs, hl with
  | [v0, v1, v2, v3, v4, v5, v6, v7, v8, v9, v10, v11, v12], _ =>
    simp only [fitsL] at h
    obtain ⟨⟨n0, rfl, w0⟩, ⟨n1, rfl, w1⟩, ⟨n2, rfl, w2⟩, ⟨n3, rfl, w3⟩, ⟨n4, rfl, w4⟩, ⟨n5, rfl, w5⟩, ⟨n6, rfl, w6⟩, ⟨n7, rfl, w7⟩, ⟨n8, rfl, w8⟩, ⟨n9, rfl, w9⟩, ⟨n10, rfl, w10⟩, ⟨b, rfl⟩, ⟨n12, rfl, w12⟩, _⟩ := h
    exact ⟨⟨n0, n1, ⟨n2, n3, n4, n5, n6⟩, n7, n8, n9, n10, b, n12⟩, rfl, ⟨i64_of w0, i64_of w1, ⟨i64_of w2, i64_of w3, i64_of w4, i64_of w5, i64_of w6⟩, i64_of w7, i64_of w8, i64_of w9, i64_of w10, i64_of w12⟩⟩
theorem turn_of {xs : List Value} (f1 : fitsL [.int .i64, .int .i64, .int .i64, .slice] xs) : ∃ (who stage tick : Int) (a : Option Addr) (n m : Nat), xs = [.int .i64 who, .int .i64 stage, .int .i64 tick, .slice a n m] ∧ I64 who ∧ I64 tick := by
  have hl := fitsL_len f1
  match xs, hl with
  | [x0, x1, x2, x3], _ =>
    simp only [fitsL] at f1
    obtain ⟨⟨n0, rfl, w0⟩, ⟨n1, rfl, w1⟩, ⟨n2, rfl, w2⟩, ⟨a, n, c, rfl⟩, _⟩ := f1
    exact ⟨n0, n1, n2, a, n, c, rfl, i64_of w0, i64_of w2⟩
theorem ev_of {xs : List Value} (f2 : fitsL [.int .i64, .int .u64, .int .u64, .int .i64, .int .i64] xs) : ∃ (k : Int) (N : Nat) (cf val id : Int), xs = [.int .i64 k, .int .u64 N, .int .u64 cf, .int .i64 val, .int .i64 id] ∧ N < 18446744073709551616 ∧ I64 val ∧ I64 id := by
  have hl := fitsL_len f2
  match xs, hl with
  | [x0, x1, x2, x3, x4], _ =>
    simp only [fitsL] at f2
    obtain ⟨⟨n0, rfl, w0⟩, ⟨n1, rfl, w1⟩, ⟨n2, rfl, w2⟩, ⟨n3, rfl, w3⟩, ⟨n4, rfl, w4⟩, _⟩ := f2
    obtain ⟨N, rfl, hN⟩ := u64_of w1
    exact ⟨n0, N, n2, n3, n4, rfl, hN, i64_of w3, i64_of w4⟩
end Go.Proofs.YtlmnfhhmgfnbpaaDoor.E
