/- WORDS FOR PROOFS OVER THE ENGINE: rows that are sorted in place. -/
import Derived.Test.YtlmnfhhmgfnbpaaL3
import Derived.Test.YtlmnfhhmgfnbpaaS1
namespace Go.Proofs.Ytlmnfhhmgfnbpaa.E
open Go
/-- but for block b all is as it was -/
def SameBut (u u' : PH) (b : Nat) : Prop := ∀ k, k ≠ b → u' k = u k
theorem SameBut.refl (u : PH) (b : Nat) : SameBut u u b := fun _ _ => rfl
theorem SameBut.trans {u v w : PH} {b : Nat} (h1 : SameBut u v b) (h2 : SameBut v w b) : SameBut u w b := fun k hk => by rw [h2 k hk, h1 k hk]
theorem SameBut.write {u v : PH} {b o : Nat} {xs : List Value} (h1 : SameBut u v b) : SameBut u (PH.write v b o xs) b := fun k hk => by rw [PH.write_ne hk, h1 k hk]
theorem setAll_get (vs : List Value) : ∀ (c : Array Value) (o p : Nat), (setAll c o vs)[p]? = if o ≤ p ∧ p < o + vs.length ∧ p < c.size then vs[p - o]? else c[p]? := by
  induction vs with
  | nil => intro c o p; simp only [setAll, List.length_nil]; rw [if_neg (by omega)]
  | cons v r ih =>
    intro c o p
    simp only [setAll, ih, Array.size_setIfInBounds, List.length_cons]
    by_cases h1 : p = o
    · subst h1
      rw [if_neg (by omega)]
      by_cases h2 : p < c.size
      · rw [if_pos (by omega), Array.getElem?_setIfInBounds_self_of_lt h2]; simp
      · rw [if_neg (by omega)]
        simp [Array.getElem?_setIfInBounds, h2]
    · rw [Array.getElem?_setIfInBounds_ne (Ne.symm h1)]
      by_cases h2 : o + 1 ≤ p ∧ p < o + 1 + r.length ∧ p < c.size
      · rw [if_pos h2, if_pos (by omega), show p - o = (p - (o + 1)) + 1 by omega, List.getElem?_cons_succ]
      · rw [if_neg h2, if_neg (by omega)]
theorem setAll_size (vs : List Value) : ∀ (c : Array Value) (o : Nat), (setAll c o vs).size = c.size := by
  induction vs with
  | nil => intro c o; rfl
  | cons v r ih => intro c o; simp only [setAll, ih, Array.size_setIfInBounds]
section
variable {β : Type} (enc : β → List Value) (k : Nat) (e : TypeId)
structure RowF (u : PH) (b c n : Nat) (f : Nat → β) : Prop where
  ex : ∃ cs, u b = some (.cells cs e (0, 0)) ∧ cs.size = c * k ∧ n ≤ c ∧ ∀ i, i < n → ∀ j y, (enc (f i))[j]? = some y → cs[i * k + j]? = some y
end
section
variable {β : Type} {enc : β → List Value} {k : Nat} {e : TypeId} {u u' : PH} {b c n : Nat} {f : Nat → β}
theorem RowF.cells (R : RowF enc k e u b c n f) {i : Nat} (hi : i < n) : PH.cells u b (0 + i * k) (enc (f i)) := fun j y hj => by
  obtain ⟨cs, h1, _, _, h2⟩ := R.ex
  rw [PH.cell_eq h1, Nat.zero_add]; exact h2 i hi j y hj
theorem RowF.free (R : RowF enc k e u b c n f) {i : Nat} (hi : i < n) : PH.free u b (0 + i * k) k := by
  obtain ⟨cs, h1, h2, h3, _⟩ := R.ex
  refine ⟨cs, e, 0, 0, h1, ?_, fun j _ => by omega⟩
  have : (i + 1) * k ≤ c * k := Nat.mul_le_mul_right k (by omega)
  rw [Nat.add_mul, Nat.one_mul] at this
  omega
theorem RowF.write (R : RowF enc k e u b c n f) {i : Nat} (hi : i < n) (hk : ∀ x, (enc x).length = k) (y : β) : RowF enc k e (PH.write u b (0 + i * k) (enc y)) b c n (Srt.upd f i y) := by
  obtain ⟨cs, h1, h2, h3, h4⟩ := R.ex
  refine ⟨setAll cs (0 + i * k) (enc y), ?_, by rw [setAll_size, h2], h3, fun p hp j z hz => ?_⟩
  · simp only [PH.write, h1, if_true]
  · have hkj : j < k := by
      rcases Nat.lt_or_ge j (enc (Srt.upd f i y p)).length with h | h
      · rwa [hk] at h
      · rw [List.getElem?_eq_none h] at hz; cases hz
    have hb1 : (p + 1) * k ≤ c * k := Nat.mul_le_mul_right k (by omega)
    rw [Nat.add_mul, Nat.one_mul] at hb1
    rw [setAll_get, hk, Nat.zero_add, h2]
    by_cases hpi : p = i
    · subst hpi
      rw [if_pos (by omega)]
      simp only [Srt.upd, if_true] at hz
      rw [show p * k + j - p * k = j by omega]; exact hz
    · have : ¬ (i * k ≤ p * k + j ∧ p * k + j < i * k + k ∧ p * k + j < c * k) := by
        rcases Nat.lt_or_gt_of_ne hpi with h | h
        · have : (p + 1) * k ≤ i * k := Nat.mul_le_mul_right k (by omega)
          rw [Nat.add_mul, Nat.one_mul] at this; omega
        · have : (i + 1) * k ≤ p * k := Nat.mul_le_mul_right k (by omega)
          rw [Nat.add_mul, Nat.one_mul] at this; omega
      rw [if_neg this]
      simp only [Srt.upd, if_neg hpi] at hz
      exact h4 p hp j z hz
theorem RowF.same (R : RowF enc k e u b c n f) (h : u' b = u b) : RowF enc k e u' b c n f := by
  obtain ⟨cs, h1, h2⟩ := R.ex
  exact ⟨cs, h.trans h1, h2⟩
theorem swp_upd (f : Nat → β) (i j : Nat) : Srt.upd (Srt.upd f i (f j)) j (f i) = Srt.swp f i j := by
  funext p; simp only [Srt.upd, Srt.swp]
  by_cases h1 : p = j
  · subst h1
    rw [if_pos rfl]
    by_cases h2 : p = i
    · rw [if_pos h2, h2]
    · rw [if_neg h2, if_pos rfl]
  · rw [if_neg h1, if_neg h1]
end
theorem CallV.mono {P : Program} {x : Value} {args : List Value} {u : PH} {Q Q' : Value → PH → Prop} (h : CallV P x args u Q) (hq : ∀ v u', Q v u' → Q' v u') : CallV P x args u Q' := by
  rcases h with ⟨f, caps, h1, h2, h3⟩ | ⟨l, h1, h2⟩
  · exact .inl ⟨f, caps, h1, h2, h3.mono hq⟩
  · refine .inr ⟨l, h1, fun w hw => ?_⟩
    obtain ⟨r, k1, k2, k3⟩ := h2 w hw
    exact ⟨r, k1, k2, k3.mono fun e w' ⟨v, u', a1, a2, a3, a4⟩ => ⟨v, u', a1, a2, a3, hq v u' a4⟩⟩
/-! calls with numbers -/
abbrev CT := Call × Nat
abbrev encT : CT → List Value := fun x => x.1.cells
theorem encT_len (x : CT) : (encT x).length = 13 := rfl
section
variable {e : TypeId} {u : PH} {b c n : Nat} {f : Nat → CT}
/-- a whole call is read -/
theorem RowF.call (R : RowF encT 13 e u b c n f) {i : Int} {p : Nat} (hi : i = p) (hp : p < n)
    {K : Nat → Nat → Int → Int → Int → Int → Int → Int → Int → Int → Int → Int → Int → Bool → Int → Prop}
    (hk : K b 0 (f p).1.client (f p).1.id (f p).1.op.kind (f p).1.op.key (f p).1.op.val (f p).1.op.cost (f p).1.op.ttl (f p).1.beg (f p).1.at_ (f p).1.end_ (f p).1.tick (f p).1.ok (f p).1.got) :
    ∃ b' o : Nat, (some ⟨b, 0, none⟩ : Option Addr) = some ⟨b', o, none⟩ ∧ (0 ≤ i ∧ i < (n : Int)) ∧ ∃ n1 n2 n3 n4 n5 n6 n7 n8 n9 n10 n11 : Int, ∃ b12 : Bool, ∃ n13 : Int,
      PH.cells u b' (o + i.toNat * 13) [.int .i64 n1, .int .i64 n2, .int .i64 n3, .int .i64 n4, .int .i64 n5, .int .i64 n6, .int .i64 n7, .int .i64 n8, .int .i64 n9, .int .i64 n10, .int .i64 n11, .bool b12, .int .i64 n13] ∧
      K b' o n1 n2 n3 n4 n5 n6 n7 n8 n9 n10 n11 b12 n13 := by
  subst hi
  exact ⟨b, 0, rfl, ⟨by omega, by omega⟩, _, _, _, _, _, _, _, _, _, _, _, _, _, R.cells hp, hk⟩
/-- a place to store to -/
theorem RowF.put (R : RowF encT 13 e u b c n f) {i : Int} {p : Nat} (hi : i = p) (hp : p < n) {K : Nat → Nat → Prop} (hk : K b 0) :
    ∃ b' o : Nat, (some ⟨b, 0, none⟩ : Option Addr) = some ⟨b', o, none⟩ ∧ (0 ≤ i ∧ i < (n : Int)) ∧ PH.free u b' (o + i.toNat * 13) 13 ∧ K b' o := by
  subst hi
  exact ⟨b, 0, rfl, ⟨by omega, by omega⟩, R.free hp, hk⟩
end
/-- a comparison by a key, whatever the row is -/
def CmpOk (u0 : PH) (b : Nat) (key : Call → Int) (cmp : Value) : Prop :=
  ∀ u1, SameBut u0 u1 b → ∀ x y : Call, CallV Try.prog cmp [x.v, y.v] u1 fun v u2 => ∃ r : Int, v = .int .i64 r ∧ (r < 0 ↔ key x < key y) ∧ u2 = u1
end Go.Proofs.Ytlmnfhhmgfnbpaa.E
