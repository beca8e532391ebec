/- Shared words: slices as lists, calls as structures. -/
import Derived.Test.YtlmnfhhmgfnbpaaDoorRows
import Derived.WalkKit
import Derived.WalkSpells
import Derived.Deep.QuietTactic
import Derived.BigQuiet
namespace Go.Proofs.YtlmnfhhmgfnbpaaDoor
open Go.RowKit
/-- A call that answers v and makes memory at most. -/
def Rets (w : World) (v : Value) : Ending → World → Prop := fun e w' => e = .returned v ∧ Below w.heap.size w w'
def CellsAt (w : World) (b o : Nat) (xs : List Value) : Prop := ∀ j y, xs[j]? = some y → w.cell? ⟨b, o + j, none⟩ = some y
theorem CellsAt.below {w w' : World} {n b o : Nat} {xs : List Value} (h : CellsAt w b o xs) (hb : Below n w w') (hn : b < n) : CellsAt w' b o xs :=
  fun j y hy => (hb.cell (p := ⟨b, o + j, none⟩) hn).trans (h j y hy)
/-- The slice v reads as l, each element of k cells, in blocks below n. -/
def Sl {α : Type} (enc : α → List Value) (k : Nat) (w : World) (n : Nat) (v : Value) (l : List α) : Prop :=
  ∃ a cap, v = .slice a l.length cap ∧ l.length ≤ 140737488351232 ∧ l.length ≤ cap ∧ cap ≤ maxLen ∧ ∀ i x, l[i]? = some x → ∃ b off, a = some ⟨b, off, none⟩ ∧ b < n ∧ CellsAt w b (off + i * k) (enc x)
theorem Sl.below {α : Type} {enc : α → List Value} {k : Nat} {w w' : World} {n m : Nat} {v : Value} {l : List α} (h : Sl enc k w n v l) (hb : Below m w w') (hn : n ≤ m) : Sl enc k w' n v l := by
  obtain ⟨a, cap, rfl, hl, hc, hm, H⟩ := h
  refine ⟨a, cap, rfl, hl, hc, hm, fun i x hx => ?_⟩
  obtain ⟨b, off, rfl, hb', hc'⟩ := H i x hx
  exact ⟨b, off, rfl, hb', hc'.below hb (by omega)⟩
theorem Sl.mono {α : Type} {enc : α → List Value} {k : Nat} {w : World} {n m : Nat} {v : Value} {l : List α} (h : Sl enc k w n v l) (hn : n ≤ m) : Sl enc k w m v l := by
  obtain ⟨a, cap, rfl, hl, hc, hm, H⟩ := h
  refine ⟨a, cap, rfl, hl, hc, hm, fun i x hx => ?_⟩
  obtain ⟨b, off, rfl, hb', hc'⟩ := H i x hx
  exact ⟨b, off, rfl, by omega, hc'⟩
structure Op where
  kind : Int
  key : Int
  val : Int
  cost : Int
  ttl : Int
 deriving DecidableEq
abbrev Op.cells (c : Op) : List Value := [.int .i64 c.kind, .int .i64 c.key, .int .i64 c.val, .int .i64 c.cost, .int .i64 c.ttl]
abbrev Op.v (c : Op) : Value := .agg #[.int .i64 c.kind, .int .i64 c.key, .int .i64 c.val, .int .i64 c.cost, .int .i64 c.ttl]
structure Call where
  client : Int
  id : Int
  op : Op
  beg : Int
  at_ : Int
  end_ : Int
  tick : Int
  ok : Bool
  got : Int
 deriving DecidableEq
abbrev Call.cells (c : Call) : List Value := [.int .i64 c.client, .int .i64 c.id, .int .i64 c.op.kind, .int .i64 c.op.key, .int .i64 c.op.val, .int .i64 c.op.cost, .int .i64 c.op.ttl, .int .i64 c.beg, .int .i64 c.at_, .int .i64 c.end_, .int .i64 c.tick, .bool c.ok, .int .i64 c.got]
abbrev Call.v (c : Call) : Value := .agg #[.int .i64 c.client, .int .i64 c.id, .int .i64 c.op.kind, .int .i64 c.op.key, .int .i64 c.op.val, .int .i64 c.op.cost, .int .i64 c.op.ttl, .int .i64 c.beg, .int .i64 c.at_, .int .i64 c.end_, .int .i64 c.tick, .bool c.ok, .int .i64 c.got]
theorem CellsAt.call {w : World} {b o : Nat} {c : Call} (h : CellsAt w b o c.cells) :
  w.cell? ⟨b, o, none⟩ = some (.int .i64 c.client) ∧ w.cell? ⟨b, o + 1, none⟩ = some (.int .i64 c.id) ∧ w.cell? ⟨b, o + 2, none⟩ = some (.int .i64 c.op.kind) ∧
  w.cell? ⟨b, o + 3, none⟩ = some (.int .i64 c.op.key) ∧ w.cell? ⟨b, o + 4, none⟩ = some (.int .i64 c.op.val) ∧ w.cell? ⟨b, o + 5, none⟩ = some (.int .i64 c.op.cost) ∧
  w.cell? ⟨b, o + 6, none⟩ = some (.int .i64 c.op.ttl) ∧ w.cell? ⟨b, o + 7, none⟩ = some (.int .i64 c.beg) ∧ w.cell? ⟨b, o + 8, none⟩ = some (.int .i64 c.at_) ∧
  w.cell? ⟨b, o + 9, none⟩ = some (.int .i64 c.end_) ∧ w.cell? ⟨b, o + 10, none⟩ = some (.int .i64 c.tick) ∧ w.cell? ⟨b, o + 11, none⟩ = some (.bool c.ok) ∧
  w.cell? ⟨b, o + 12, none⟩ = some (.int .i64 c.got) :=
  ⟨h 0 _ rfl, h 1 _ rfl, h 2 _ rfl, h 3 _ rfl, h 4 _ rfl, h 5 _ rfl, h 6 _ rfl, h 7 _ rfl, h 8 _ rfl, h 9 _ rfl, h 10 _ rfl, h 11 _ rfl, h 12 _ rfl⟩
theorem ret_eq {v v' : Value} (h : v = v') : Ending.returned v = Ending.returned v' := by rw [h]
/-- All old cells and marks read as before. -/
theorem bcell {n : Nat} {w w' : World} (hb : Below n w w') : (∀ b o, b < n → w'.cell? ⟨b, o, none⟩ = w.cell? ⟨b, o, none⟩) ∧ (∀ b o, b < n → w'.frozen? ⟨b, o, none⟩ = w.frozen? ⟨b, o, none⟩) :=
  ⟨fun b o h => hb.cell (p := ⟨b, o, none⟩) h, fun b o h => hb.frozen (p := ⟨b, o, none⟩) h⟩
end Go.Proofs.YtlmnfhhmgfnbpaaDoor
