/- CONTRACTS: the law TraceTells. -/
import Derived.Test.YtlmnfhhmgfnbpaaDoorT8
import Derived.Test.YtlmnfhhmgfnbpaaDoorVB
namespace Go.Proofs.YtlmnfhhmgfnbpaaDoor.E
open Go Go.RowKit
theorem itoa_dig (n : Nat) (h : n < 10) : Lib.itoa (n : Int) = [UInt8.ofNat (48 + n)] := by
  rw [Lib.itoa_nonneg, Lib.decDigits_one h]
def awC : Call := ⟨0, 3, ⟨2, 1, 5, 3, 0⟩, 4, 6, 7, 0, true, 0⟩
theorem aw_line : callL awC = [48, 46, 51, 32, 115, 101, 116, 32, 49, 32, 53, 32, 51, 32, 48, 32, 61, 32, 111, 107, 32, 48, 32, 91, 52, 32, 54, 32, 55, 93, 32, 64, 48] := by
  have i0 : Lib.itoa 0 = [48] := itoa_dig 0 (by omega)
  have i1 : Lib.itoa 1 = [49] := itoa_dig 1 (by omega)
  have i3 : Lib.itoa 3 = [51] := itoa_dig 3 (by omega)
  have i4 : Lib.itoa 4 = [52] := itoa_dig 4 (by omega)
  have i5 : Lib.itoa 5 = [53] := itoa_dig 5 (by omega)
  have i6 : Lib.itoa 6 = [54] := itoa_dig 6 (by omega)
  have i7 : Lib.itoa 7 = [55] := itoa_dig 7 (by omega)
  have h : rightB awC.op = true := by decide
  have hn : numsL awC.op = [1, 5, 3, 0] := by decide
  have hm : nameL awC.op.kind = [115, 101, 116] := by decide
  have ha : ansL awC.ok = [111, 107] := by decide
  rw [callL, if_pos h, wordsL, hn, hm, ha]
  simp only [List.map_cons, List.map_nil, awC, i0, i1, i3, i4, i5, i6, i7]
  rfl
theorem awC_ok : CallI awC := by
  constructor
  all_goals first
    | (constructor <;> (constructor <;> decide))
    | (constructor <;> decide)
theorem f14_spec {u : PH} (T : Tb u) : Spec Tryd.prog 14 #[] u fun v u' => v = .bool true ∧ Ext u u' := by
  refine f14_of ?_
  unfold f14_V
  refine (f8_spec f29_spec awC_ok T).use ?_
  rintro v u' ⟨rfl, hE⟩
  refine ⟨_, rfl, ?_, hE⟩
  rw [aw_line]
  simp
structure EvI (k cf val id : Int) (N : Nat) : Prop where
  N : N < 18446744073709551616
  val : I64 val
  id : I64 id
set_option maxHeartbeats 4000000 in
theorem f3_spec {c : Call} (hc : CallI c) {who stage tick : Int} {a : Option Addr} {n m : Nat} (h1 : I64 who) (h2 : I64 tick) {k cf val id : Int} {N : Nat} (hN : N < 18446744073709551616) (hv : I64 val) (hi : I64 id) {u : PH} (T : Tb u) :
    Spec Tryd.prog 3 #[c.v, .agg #[.int .i64 who, .int .i64 stage, .int .i64 tick, .slice a n m], .agg #[.int .i64 k, .int .u64 N, .int .u64 cf, .int .i64 val, .int .i64 id]] u fun v u' => v = .bool true ∧ Ext u u' := by
  have s8 : ∀ {x : PH}, Ext u x → Spec Tryd.prog 8 #[c.v] x fun v u' => v = .string (S (callL c)) ∧ Ext u u' := fun h => (f8_spec f29_spec hc (T.ext h)).use fun v u' hh => ⟨hh.1, h.trans hh.2⟩
  have s9 : ∀ {x : PH}, Ext u x → Spec Tryd.prog 9 #[c.v] x fun v u' => v = .string (S (callL c)) ∧ Ext u u' := fun h => (f9_spec hc).use fun v u' hh => ⟨hh.1, h.trans hh.2⟩
  have s10 : ∀ {x : PH}, Ext u x → Spec Tryd.prog 10 #[.int .i64 c.at_, .agg #[.int .i64 who, .int .i64 stage, .int .i64 tick, .slice a n m]] x fun v u' => v = .string (S (turnL c.at_ who stage tick)) ∧ Ext u u' := fun h => (f10_spec hc.at_ h1 h2 (T.ext h)).use fun v u' hh => ⟨hh.1, h.trans hh.2⟩
  have s11 : ∀ {x : PH}, Ext u x → Spec Tryd.prog 11 #[.int .i64 c.at_, .agg #[.int .i64 who, .int .i64 stage, .int .i64 tick, .slice a n m]] x fun v u' => v = .string (S (turnL c.at_ who stage tick)) ∧ Ext u u' := fun h => (f11_spec hc.at_ h1 h2).use fun v u' hh => ⟨hh.1, h.trans hh.2⟩
  have s12 : ∀ {x : PH}, Ext u x → Spec Tryd.prog 12 #[.agg #[.int .i64 k, .int .u64 N, .int .u64 cf, .int .i64 val, .int .i64 id]] x fun v u' => v = .string (S (eventL k N id val)) ∧ Ext u u' := fun h => (f12_spec hN hv hi (T.ext h)).use fun v u' hh => ⟨hh.1, h.trans hh.2⟩
  have s13 : ∀ {x : PH}, Ext u x → Spec Tryd.prog 13 #[.agg #[.int .i64 k, .int .u64 N, .int .u64 cf, .int .i64 val, .int .i64 id]] x fun v u' => v = .string (S (eventL k N id val)) ∧ Ext u u' := fun h => (f13_spec hN hv hi).use fun v u' hh => ⟨hh.1, h.trans hh.2⟩
  have s14 : ∀ {x : PH}, Ext u x → Spec Tryd.prog 14 #[] x fun v u' => v = .bool true ∧ Ext u u' := fun h => (f14_spec (T.ext h)).use fun v u' hh => ⟨hh.1, h.trans hh.2⟩
  have no : ∀ {s : ByteArray}, ¬ (ByteArray.toList s == ByteArray.toList s) = false := fun {s} h => by simp at h
  clear T
  refine f3_of ?_
  unfold f3_V
  refine ⟨u, Ext.refl _, ?_⟩
  have E0 : Ext u u := Ext.refl _
  repeat' first
    | assumption
    | exact ⟨rfl, by assumption⟩
    | exact fun h => (no h).elim
    | (refine (s8 (by assumption)).use ?_; rintro _ x ⟨rfl, hx⟩; refine ⟨_, rfl, ?_⟩)
    | (refine (s9 (by assumption)).use ?_; rintro _ x ⟨rfl, hx⟩; refine ⟨_, rfl, ?_⟩)
    | (refine (s10 (by assumption)).use ?_; rintro _ x ⟨rfl, hx⟩; refine ⟨_, rfl, ?_⟩)
    | (refine (s11 (by assumption)).use ?_; rintro _ x ⟨rfl, hx⟩; refine ⟨_, rfl, ?_⟩)
    | (refine (s12 (by assumption)).use ?_; rintro _ x ⟨rfl, hx⟩; refine ⟨_, rfl, ?_⟩)
    | (refine (s13 (by assumption)).use ?_; rintro _ x ⟨rfl, hx⟩; refine ⟨_, rfl, ?_⟩)
    | (refine (s14 (by assumption)).use ?_; rintro _ x ⟨rfl, hx⟩; refine ⟨_, rfl, ?_⟩)
    | refine fun _ => ?_
    | refine ⟨?_, ?_⟩
end Go.Proofs.YtlmnfhhmgfnbpaaDoor.E
