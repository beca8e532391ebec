/- TraceNumbers: any number's text, and of which number any text is one. No conditions. -/
import Derived.Test.YtlmnfhhmgfnbpaaDoorT10
import Derived.Test.YtlmnfhhmgfnbpaaDoorN3
import Derived.ChangeMaps5
namespace Go.Proofs.YtlmnfhhmgfnbpaaDoor.E
open Go Go.ChangeShapes Go.WideShapes Go.ChangeAt Go.RowKit
theorem star168 : "*" ++ "errors.errorString" = "*errors.errorString" := by decide
theorem row168 (u : TypeId) (h : Tryd.prog.typeName? 3 u = some "*errors.errorString") : u = 168 :=
  typeName_ptr_named (nm := "errors.errorString") (by rw [star168]; kernel_rfl) (by kernel_rfl) (by decide) u (by rw [star168]; exact h)
theorem g2 : Tryd.prog.globalNamed "strconv.ErrSyntax" = some 2 := by kernel_rfl
theorem g3 : Tryd.prog.globalNamed "strconv.ErrRange" = some 3 := by kernel_rfl
theorem gt2 : (Tryd.prog.globals[2]?).map (·.type) = some 76 := by kernel_rfl
theorem gt3 : (Tryd.prog.globals[3]?).map (·.type) = some 76 := by kernel_rfl
theorem c170 : Tryd.prog.cellsOf 170 = 1 := by kernel_rfl
theorem c9 : Tryd.prog.cellsOf 9 = 1 := by kernel_rfl
theorem te_of_laid {W : World} {a b c d : String × DataW Unit} {rest : List (String × DataW Unit)} (h : laidMet Tryd.prog (a :: b :: c :: d :: ("strconv.ErrRange", Rows.laid_strconv_ErrRange) :: ("strconv.ErrSyntax", Rows.laid_strconv_ErrSyntax) :: rest) W) : Te (whole W) := by
  obtain ⟨a0, s0, hv0, -, -, -⟩ := laid_sentinel h.tail.tail.tail.tail g3 gt3 Tryd.underlying76 row168 Tryd.underlying168 Tryd.underlying170 rfl rfl Tryd.underlying9 c170 c9
  obtain ⟨a1, s1, hv1, -, -, -⟩ := laid_sentinel h.tail.tail.tail.tail.tail g2 gt2 Tryd.underlying76 row168 Tryd.underlying168 Tryd.underlying170 rfl rfl Tryd.underlying9 c170 c9
  obtain ⟨t2, fr2, h2⟩ := var_block g2 hv1
  obtain ⟨t3, fr3, h3⟩ := var_block g3 hv0
  exact ⟨⟨_, by rw [PH.cell_eq h2]; rfl, .inr ⟨_, _, rfl⟩⟩, ⟨_, by rw [PH.cell_eq h3]; rfl, .inr ⟨_, _, rfl⟩⟩⟩
end Go.Proofs.YtlmnfhhmgfnbpaaDoor.E
namespace Go.Proofs.YtlmnfhhmgfnbpaaDoor.traceNumbers
open Go Go.ChangeShapes Go.WideShapes Go.ChangeAt Go.RowKit Go.Proofs.YtlmnfhhmgfnbpaaDoor.E
open Go.ChangeMaps (open_string shut_string)
/-- so many blocks has the settled world -/
noncomputable def low : Nat := (World.holding Tryd.prog default ⟨#[], #[], []⟩).heap.size
/-- a world whose package variables are laid -/
noncomputable def laidWorld (os : Os) : World :=
  let w0 := World.holding Tryd.prog os ⟨#[.cells #[.string (S [105, 110, 118, 97, 108, 105, 100, 32, 115, 121, 110, 116, 97, 120])] 170, .cells #[.string (S [118, 97, 108, 117, 101, 32, 111, 117, 116, 32, 111, 102, 32, 114, 97, 110, 103, 101])] 170], #[], []⟩
  let put (g : Nat) (vs : Array Value) (w : World) : World := { w with heap := w.heap.modify g fun
    | .cells _ t frozen => .cells vs t frozen
    | o => o }
  put 0 #[.string (S [110, 111, 110, 101]), .string (S [103, 101, 116]), .string (S [115, 101, 116]), .string (S [100, 101, 108]), .string (S [119, 97, 105, 116]), .string (S [99, 108, 101, 97, 114]), .string (S [99, 108, 111, 115, 101]), .string (S [108, 105, 109, 105, 116])] <|
  put 1 (Lib.pow10Tab.map fun z => Value.int .u64 z).toArray <|
  put 2 #[.iface 168 (.pointer (some ⟨low, 0, none⟩))] <|
  put 3 #[.iface 168 (.pointer (some ⟨low + 1, 0, none⟩))] <|
  put 5 (([0, 1, 28, 2, 29, 14, 24, 3, 30, 22, 20, 15, 25, 17, 4, 8, 31, 27, 13, 23, 21, 19, 16, 7, 26, 12, 18, 6, 11, 5, 10, 9] : List Int).map fun z => Value.int .u8 z).toArray <|
  put 6 (([0, 1, 56, 2, 57, 49, 28, 3, 61, 58, 42, 50, 38, 29, 17, 4, 62, 47, 59, 36, 45, 43, 51, 22, 53, 39, 33, 30, 24, 18, 12, 5, 63, 55, 48, 27, 60, 41, 37, 16, 46, 35, 44, 21, 52, 32, 23, 11, 54, 26, 40, 15, 34, 20, 31, 10, 25, 14, 19, 9, 13, 8, 7, 6] : List Int).map fun z => Value.int .u8 z).toArray w0
theorem laidWorld_met (os : Os) (args : Array Value) : laidMet Tryd.prog Rows.traceNumbersRow.laid ((laidWorld os).forCall (fun _ _ => 0) ⟨#[], args, []⟩).memory :=
  laidMet_of_run' 8 (by kernel_rfl) (by kernel_rfl)
noncomputable def args0 : Array Value := #[.int .i64 0, .string ⟨#[]⟩]
set_option maxHeartbeats 2000000 in
set_option maxRecDepth 100000 in
theorem lifted (os : Os) (started : os.Started) (H : Type) (enc : TypeId × Value → H) :
    ReturnsInHanded {} Tryd.checked os 4 .any (fun w args => (Rows.traceNumbersSpec.pre enc Tryd.prog Tryd.f4 Rows.traceNumbersRow.domain false w args ∧ laidMet Tryd.prog Rows.traceNumbersRow.laid w) ∧ sizedMet enc Tryd.prog Tryd.f4 (OpenSpec.ofChange Rows.traceNumbersSpec) false w args) (Rows.traceNumbersSpec.post enc Tryd.prog Tryd.f4 false true false false) := by
  refine returnsInHanded_of_change_and (C := Tryd.checked) (X := fun w _ => laidMet Tryd.prog Rows.traceNumbersRow.laid w) (fun _ _ _ hh h => h.of_heap hh) own started (by kernel_rfl) Tryd.func4
    (ChangeSpec.witness_at (enc := enc) (C := Tryd.checked) (os := os) (X := fun w _ => laidMet Tryd.prog Rows.traceNumbersRow.laid w) false (laidWorld os) args0 8 rfl (by kernel_rfl) (by kernel_rfl) (by kernel_rfl) (by kernel_rfl) (by kernel_rfl) (laidWorld_met os _)) ?_
  intro W base args ds gs before hval0 hW _ _ hL0 _
  have hL : laidMet Tryd.prog Rows.traceNumbersRow.laid W := hL0
  have hval : ∀ (j : Nat) t v, Tryd.f4.params[j]? = some t → args[j]? = some v → Value.okWide Tryd.prog W .any base t v := hval0
  have hW' := hW
  obtain ⟨p, q, hA0, hV, rfl, hfz, hnd⟩ := hW
  have hA : DataW.TrodAll enc Tryd.prog W 0 (fun _ => true) true Tryd.f4.params.toList args.toList ds p := hA0
  rw [Tryd.params4] at hA hval
  obtain ⟨v0, vs0, d0, ds0, p0, q0, hargs, rfl, rfl, h0, r0⟩ := trodAll_cons hA
  obtain ⟨v1, vs1, d1, ds1, p1, q1, rfl, rfl, rfl, h1, r1⟩ := trodAll_cons r0
  obtain ⟨rfl, rfl, rfl⟩ := trodAll_nil r1
  obtain rfl : args = #[v0, v1] := by cases args; simp_all
  obtain ⟨rfl, rfl⟩ := trodVars_none hV
  obtain ⟨n, rfl, rfl, rfl, wn⟩ := open_int Tryd.underlying3 (hval 0 3 v0 rfl rfl) h0
  obtain ⟨s, rfl, rfl, rfl, hs⟩ := open_string Tryd.underlying9 (hval 1 9 v1 rfl rfl) h1
  clear hA0 hval0
  refine (below_of_spec (f4_spec (n := n) (i64_of wn) s (tb_of_laid hL) (te_of_laid hL))).mono fun e W' ⟨he, bel⟩ => ?_
  subst he
  exact ⟨_, rfl, _, _, _, [], _, [], hW', trodAll_mk1 (shut_bool Tryd.underlying4 _), (trodAll_cons_mk (shut_int Tryd.underlying3 wn) (trodAll_cons_mk (shut_string Tryd.underlying9 hs) trodAll_mk0)), rfl, bel.frame _, fun h => by cases h⟩
theorem over : Rows.traceNumbersRow.holds Tryd.pinned (OpenSpec.ofChange Rows.traceNumbersSpec) :=
  OpenClaim.holds_of_wide 4 Tryd.f4 rfl rfl rfl rfl rfl rfl rfl ⟨rfl, rfl, rfl, rfl, rfl⟩ rfl rfl rfl rfl rfl (by kernel_rfl) Tryd.func4 (by kernel_rfl)
    (of_decide_eq_true (by kernel_rfl)) (by unfold Func.isWrapper; first | (rw [if_pos (by decide +kernel)]; kernel_rfl) | (rw [if_neg (by decide +kernel)]; exact ⟨rfl, rfl⟩))
    (fun os started H enc _ => lifted os started H enc)
theorem card_holds : Rows.TraceNumbersCardSaid :=
  Claim7.holds_tied_plain_at .later [] [.data, .data, .data, .data, .sentinel, .sentinel] true (true, "974c5c0124016d7dbe8327be3fc332c5e9ee92867cf2e5f5bcaff0ad3316aeb8") true
    over (fun _ h => by cases h) (by kernel_rfl) (fun _ h => by cases h) traceNumbers_row_tie rfl ⟨rfl, rfl⟩ (by kernel_rfl) rfl
    (fun f fn hf hfn => by
      obtain rfl : f = 4 := Option.some.inj ((show Tryd.prog.funcNamed "cortado/cortadolaw45.TraceNumbers" = some 4 by kernel_rfl).symm.trans hf) |>.symm
      obtain rfl : fn = Tryd.f4 := (Option.some.inj (Tryd.func4.symm.trans hfn)).symm
      exact ⟨by kernel_rfl, fun j t ht => by
        rw [Tryd.params4] at ht
        match j, ht with
        | 0, ht => obtain rfl : t = 3 := by simpa using ht.symm
                   exact (show Tryd.prog.wantsStandIn 3 = false by kernel_rfl)
        | 1, ht => obtain rfl : t = 9 := by simpa using ht.symm
                   exact (show Tryd.prog.wantsStandIn 9 = false by kernel_rfl)
        | j + 2, ht => simp at ht⟩)
    (by kernel_rfl)
#print axioms card_holds
end Go.Proofs.YtlmnfhhmgfnbpaaDoor.traceNumbers
namespace Go.Proofs.YtlmnfhhmgfnbpaaDoor
theorem traceNumbers_holds : Rows.TraceNumbersCardSaid := traceNumbers.card_holds
end Go.Proofs.YtlmnfhhmgfnbpaaDoor
