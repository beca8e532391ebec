/- THE ENGINE, part 12: what is told of a loop's head. -/
import Derived.Test.YtlmnfhhmgfnbpaaDoorE10
namespace Go.Proofs.YtlmnfhhmgfnbpaaDoor.E
open Go
variable {P : Program} {g : Ghost} {ν : Nat → Nat} {st : St} {u : PH} {a : Act} {w : World}
/-- apSh as a function: what I is at these cells, and the cells as allSh has them -/
def apV {R : Type} : (l : List Sh) → ShFn R l → List Cell → Option (R × List Cell)
  | [], I, [] => some (I, [])
  | .int k :: r, I, .v (.int k' n) :: cs => if k' = k then (apV r (I n) cs).map fun x => (x.1, .v (.int k n) :: x.2) else none
  | .bool :: r, I, .lit b :: cs => (apV r (I b) cs).map fun x => (x.1, .v (.bool b) :: x.2)
  | .bool :: r, I, .v (.bool b) :: cs => (apV r (I b) cs).map fun x => (x.1, .v (.bool b) :: x.2)
  | .str :: r, I, .v (.string s) :: cs => (apV r (I s) cs).map fun x => (x.1, .v (.string s) :: x.2)
  | .ptr :: r, I, .ptr b o :: cs => (apV r (I (some ⟨b, o, none⟩)) cs).map fun x => (x.1, .v (.pointer (some ⟨b, o, none⟩)) :: x.2)
  | .ptr :: r, I, .v (.pointer p) :: cs => (apV r (I p) cs).map fun x => (x.1, .v (.pointer p) :: x.2)
  | .slice :: r, I, .v (.slice a n c) :: cs => (apV r (I a n c) cs).map fun x => (x.1, .v (.slice a n c) :: x.2)
  | .val :: r, I, .vv x :: cs => (apV r (I x.1) cs).map fun y => (y.1, .vv x :: y.2)
  | .val :: r, I, .fn f caps :: cs => if (caps.flatMap Atom.refs).isEmpty = true then (apV r (I (Cell.fn f caps).out) cs).map fun y => (y.1, .vv ⟨(Cell.fn f caps).out, rfl⟩ :: y.2) else none
  | _, _, _ => none
theorem apSh_ok {R : Type} : ∀ (l : List Sh) (I : ShFn R l) (cs : List Cell) (K : R → Prop), apSh l I cs K → ∃ x cs', apV l I cs = some (x, cs') ∧ K x := by
  intro l
  induction l with
  | nil =>
    intro I cs K h
    cases cs with
    | nil => exact ⟨I, [], rfl, h⟩
    | cons c cs => exact h.elim
  | cons s l ih =>
    intro I cs K h
    cases cs with
    | nil => cases s <;> exact h.elim
    | cons c cs =>
      have step : ∀ (I' : ShFn R l) (c' : Cell), apSh l I' cs K → ∃ x cs', (apV l I' cs).map (fun x => (x.1, c' :: x.2)) = some (x, cs') ∧ K x := by
        intro I' c' h'
        obtain ⟨x, cs', h1, h2⟩ := ih I' cs K h'
        exact ⟨x, c' :: cs', by rw [h1]; rfl, h2⟩
      cases s with
      | int k =>
        cases c with
        | v x =>
          cases x with
          | int k' n =>
            simp only [apSh] at h
            simp only [apV]
            split at h
            · rename_i e; rw [if_pos e]; exact step _ _ h
            · exact h.elim
          | _ => exact h.elim
        | _ => exact h.elim
      | bool =>
        cases c with
        | v x => cases x with
          | bool b => exact step _ _ h
          | _ => exact h.elim
        | lit b => exact step _ _ h
        | _ => exact h.elim
      | str =>
        cases c with
        | v x => cases x with
          | string b => exact step _ _ h
          | _ => exact h.elim
        | _ => exact h.elim
      | ptr =>
        cases c with
        | v x => cases x with
          | pointer b => exact step _ _ h
          | _ => exact h.elim
        | ptr b o => exact step _ _ h
        | _ => exact h.elim
      | slice =>
        cases c with
        | v x => cases x with
          | slice b n c => exact step _ _ h
          | _ => exact h.elim
        | _ => exact h.elim
      | val =>
        cases c with
        | vv x => exact step _ _ h
        | fn f caps =>
          simp only [apSh] at h
          simp only [apV]
          split at h
          · rename_i e; rw [if_pos e]; exact step _ _ h
          · exact h.elim
        | _ => exact h.elim
/-- the cells that are handed on: the same values, nothing of one's own among them -/
structure Same (cs cs' : List Cell) : Prop where
  vals : ∀ ν, cs'.map (Cell.toV ν) = cs.map (Cell.toV ν)
  refs : cs'.flatMap Cell.refs = []
  len : cs'.length = cs.length
theorem Same.cons {c c' : Cell} {cs cs' : List Cell} (h : Same cs cs') (hv : ∀ ν, c'.toV ν = c.toV ν) (hr : c'.refs = []) : Same (c :: cs) (c' :: cs') :=
  ⟨fun ν => by simp only [List.map_cons, hv, h.vals], by simp only [List.flatMap_cons, hr, h.refs, List.nil_append], by simp only [List.length_cons, h.len]⟩
theorem apV_ok {R R2 : Type} : ∀ (l : List Sh) (I : ShFn R l) (cs : List Cell) (x : R) (cs' : List Cell), apV l I cs = some (x, cs') →
    Same cs cs' ∧ apV l I cs' = some (x, cs') ∧ ∀ (I2 : ShFn R2 l), (∀ K : List Cell → R2 → Prop, allSh l I2 K → ∃ x2, apV l I2 cs = some (x2, cs') ∧ apV l I2 cs' = some (x2, cs') ∧ K cs' x2) := by
  intro l
  induction l with
  | nil =>
    intro I cs x cs' h
    cases cs with
    | nil => cases h; exact ⟨⟨fun _ => rfl, rfl, rfl⟩, rfl, fun I2 K hK => ⟨I2, rfl, rfl, hK⟩⟩
    | cons c cs => cases h
  | cons s l ih =>
    intro I cs x cs' h
    have step : ∀ (I' : ShFn R l) (c c' : Cell) (cs0 : List Cell), (apV l I' cs0).map (fun x => (x.1, c' :: x.2)) = some (x, cs') → (∀ ν, c'.toV ν = c.toV ν) → c'.refs = [] →
        ∃ cs1, cs' = c' :: cs1 ∧ Same (c :: cs0) (c' :: cs1) ∧ apV l I' cs1 = some (x, cs1) ∧ ∀ (I2 : ShFn R2 l), (∀ K : List Cell → R2 → Prop, allSh l I2 K → ∃ x2, apV l I2 cs0 = some (x2, cs1) ∧ apV l I2 cs1 = some (x2, cs1) ∧ K cs1 x2) := by
      intro I' c c' cs0 h1 h2 h3
      simp only [Option.map_eq_some_iff, Prod.mk.injEq] at h1
      obtain ⟨⟨x0, cs1⟩, h4, rfl, rfl⟩ := h1
      obtain ⟨k1, k2, k3⟩ := ih I' cs0 x0 cs1 h4
      exact ⟨cs1, rfl, k1.cons h2 h3, k2, k3⟩
    cases cs with
    | nil => cases s <;> cases h
    | cons c cs =>
      cases s with
      | int k =>
        cases c with
        | v y =>
          cases y with
          | int k' n =>
            simp only [apV] at h
            split at h
            · rename_i e; subst e
              obtain ⟨cs1, rfl, k1, k2, k3⟩ := step _ (.v (.int k' n)) _ _ h (fun _ => rfl) rfl
              refine ⟨k1, by simp only [apV, if_true, k2, Option.map_some], fun I2 K hK => ?_⟩
              obtain ⟨x2, q0, q1, q2⟩ := k3 (I2 n) _ (hK n)
              exact ⟨x2, by simp only [apV, if_true, q0, Option.map_some], by simp only [apV, if_true, q1, Option.map_some], q2⟩
            · cases h
          | _ => cases h
        | _ => cases h
      | bool =>
        cases c with
        | v y =>
          cases y with
          | bool b =>
            obtain ⟨cs1, rfl, k1, k2, k3⟩ := step _ (.v (.bool b)) _ _ h (fun _ => rfl) rfl
            refine ⟨k1, by simp only [apV, k2, Option.map_some], fun I2 K hK => ?_⟩
            obtain ⟨x2, q0, q1, q2⟩ := k3 (I2 b) _ (hK b)
            exact ⟨x2, by simp only [apV, q0, Option.map_some], by simp only [apV, q1, Option.map_some], q2⟩
          | _ => cases h
        | lit b =>
          obtain ⟨cs1, rfl, k1, k2, k3⟩ := step _ (.lit b) _ _ h (fun _ => rfl) rfl
          refine ⟨k1, by simp only [apV, k2, Option.map_some], fun I2 K hK => ?_⟩
          obtain ⟨x2, q0, q1, q2⟩ := k3 (I2 b) _ (hK b)
          exact ⟨x2, by simp only [apV, q0, Option.map_some], by simp only [apV, q1, Option.map_some], q2⟩
        | _ => cases h
      | str =>
        cases c with
        | v y =>
          cases y with
          | string b =>
            obtain ⟨cs1, rfl, k1, k2, k3⟩ := step _ (.v (.string b)) _ _ h (fun _ => rfl) rfl
            refine ⟨k1, by simp only [apV, k2, Option.map_some], fun I2 K hK => ?_⟩
            obtain ⟨x2, q0, q1, q2⟩ := k3 (I2 b) _ (hK b)
            exact ⟨x2, by simp only [apV, q0, Option.map_some], by simp only [apV, q1, Option.map_some], q2⟩
          | _ => cases h
        | _ => cases h
      | ptr =>
        cases c with
        | v y =>
          cases y with
          | pointer b =>
            obtain ⟨cs1, rfl, k1, k2, k3⟩ := step _ (.v (.pointer b)) _ _ h (fun _ => rfl) rfl
            refine ⟨k1, by simp only [apV, k2, Option.map_some], fun I2 K hK => ?_⟩
            obtain ⟨x2, q0, q1, q2⟩ := k3 (I2 b) _ (hK b)
            exact ⟨x2, by simp only [apV, q0, Option.map_some], by simp only [apV, q1, Option.map_some], q2⟩
          | _ => cases h
        | ptr b o =>
          obtain ⟨cs1, rfl, k1, k2, k3⟩ := step _ (.ptr b o) _ _ h (fun _ => rfl) rfl
          refine ⟨k1, by simp only [apV, k2, Option.map_some], fun I2 K hK => ?_⟩
          obtain ⟨x2, q0, q1, q2⟩ := k3 (I2 (some ⟨b, o, none⟩)) _ (hK (some ⟨b, o, none⟩))
          exact ⟨x2, by simp only [apV, q0, Option.map_some], by simp only [apV, q1, Option.map_some], q2⟩
        | _ => cases h
      | slice =>
        cases c with
        | v y =>
          cases y with
          | slice b n c =>
            obtain ⟨cs1, rfl, k1, k2, k3⟩ := step _ (.v (.slice b n c)) _ _ h (fun _ => rfl) rfl
            refine ⟨k1, by simp only [apV, k2, Option.map_some], fun I2 K hK => ?_⟩
            obtain ⟨x2, q0, q1, q2⟩ := k3 (I2 b n c) _ (hK b n c)
            exact ⟨x2, by simp only [apV, q0, Option.map_some], by simp only [apV, q1, Option.map_some], q2⟩
          | _ => cases h
        | _ => cases h
      | val =>
        cases c with
        | vv y =>
          obtain ⟨cs1, rfl, k1, k2, k3⟩ := step _ (.vv y) _ _ h (fun _ => rfl) rfl
          refine ⟨k1, by simp only [apV, k2, Option.map_some], fun I2 K hK => ?_⟩
          obtain ⟨x2, q0, q1, q2⟩ := k3 (I2 y.1) _ (hK y.1 y.2)
          exact ⟨x2, by simp only [apV, q0, Option.map_some], by simp only [apV, q1, Option.map_some], q2⟩
        | fn f caps =>
          simp only [apV] at h
          split at h
          · rename_i e
            have e' : caps.flatMap Atom.refs = [] := by simpa using e
            obtain ⟨cs1, rfl, k1, k2, k3⟩ := step _ (.fn f caps) _ _ h (fun ν => (Cell.out_eq ν (.fn f caps) e').symm) rfl
            refine ⟨k1, by simp only [apV, k2, Option.map_some], fun I2 K hK => ?_⟩
            obtain ⟨x2, q0, q1, q2⟩ := k3 (I2 (Cell.fn f caps).out) _ (hK _ rfl)
            exact ⟨x2, by simp only [apV, if_pos e, q0, Option.map_some], by simp only [apV, q1, Option.map_some], q2⟩
          · cases h
        | _ => cases h
end Go.Proofs.YtlmnfhhmgfnbpaaDoor.E
