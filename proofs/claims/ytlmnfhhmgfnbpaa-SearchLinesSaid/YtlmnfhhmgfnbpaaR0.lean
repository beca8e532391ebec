/- TREES BY RANK, as plain lists: what put, drop, find and walk make of the row of a tree's keys. -/
namespace Go.Proofs.Ytlmnfhhmgfnbpaa.E
namespace Rk
inductive T (ν : Type) where
  | nil
  | node (k : Int) (v : ν) (l r : T ν)
variable {ν : Type}
def T.size : T ν → Nat
  | .nil => 0
  | .node _ _ l r => l.size + r.size + 1
def T.deep : T ν → Nat
  | .nil => 0
  | .node _ _ l r => max l.deep r.deep + 1
theorem T.deep_le : ∀ t : T ν, t.deep ≤ t.size
  | .nil => Nat.le_refl _
  | .node _ _ l r => by have := l.deep_le; have := r.deep_le; simp only [deep, size]; omega
def T.toL : T ν → List (Int × ν)
  | .nil => []
  | .node k v l r => l.toL ++ (k, v) :: r.toL
theorem T.toL_len : ∀ t : T ν, t.toL.length = t.size
  | .nil => rfl
  | .node k v l r => by simp only [toL, size, List.length_append, List.length_cons, l.toL_len, r.toL_len]; omega
def leftUp (k : Int) (v : ν) (l r : T ν) : T ν :=
  match l with
  | .nil => .node k v l r
  | .node lk lv ll lr => match lr with
    | .nil => .node lk lv ll (.node k v .nil r)
    | .node mk mv ml mr => if ll.deep < (T.node mk mv ml mr).deep then .node mk mv (.node lk lv ll ml) (.node k v mr r) else .node lk lv ll (.node k v (.node mk mv ml mr) r)
def rightUp (k : Int) (v : ν) (l r : T ν) : T ν :=
  match r with
  | .nil => .node k v l r
  | .node rk rv rl rr => match rl with
    | .nil => .node rk rv (.node k v l .nil) rr
    | .node mk mv ml mr => if rr.deep < (T.node mk mv ml mr).deep then .node mk mv (.node k v l ml) (.node rk rv mr rr) else .node rk rv (.node k v l (.node mk mv ml mr)) rr
def joined (k : Int) (v : ν) (l r : T ν) : T ν :=
  if r.deep + 1 < l.deep then leftUp k v l r else if l.deep + 1 < r.deep then rightUp k v l r else .node k v l r
theorem toL_leftUp (k : Int) (v : ν) (l r : T ν) : (leftUp k v l r).toL = l.toL ++ (k, v) :: r.toL := by
  unfold leftUp
  split
  · rfl
  · split
    · simp [T.toL]
    · split <;> simp [T.toL]
theorem toL_rightUp (k : Int) (v : ν) (l r : T ν) : (rightUp k v l r).toL = l.toL ++ (k, v) :: r.toL := by
  unfold rightUp
  split
  · rfl
  · split
    · simp [T.toL]
    · split <;> simp [T.toL]
theorem toL_joined (k : Int) (v : ν) (l r : T ν) : (joined k v l r).toL = l.toL ++ (k, v) :: r.toL := by
  unfold joined
  split
  · exact toL_leftUp k v l r
  · split
    · exact toL_rightUp k v l r
    · rfl
theorem size_joined (k : Int) (v : ν) (l r : T ν) : (joined k v l r).size = l.size + r.size + 1 := by
  rw [← T.toL_len, toL_joined, ← T.toL_len, ← T.toL_len]; simp; omega
def put (k : Int) (v : ν) : T ν → T ν
  | .nil => .node k v .nil .nil
  | .node x w l r => if k < x then joined x w (put k v l) r else if x < k then joined x w l (put k v r) else .node k v l r
def first (k : Int) (v : ν) (l r : T ν) : T ν × (Int × ν) :=
  match l with
  | .nil => (r, (k, v))
  | .node lk lv ll lr => (joined k v (first lk lv ll lr).1 r, (first lk lv ll lr).2)
def both (l r : T ν) : T ν :=
  match l, r with
  | .nil, r => r
  | l, .nil => l
  | l, .node k v a b => joined (first k v a b).2.1 (first k v a b).2.2 l (first k v a b).1
def drop (k : Int) : T ν → T ν
  | .nil => .nil
  | .node x w l r => if k < x then joined x w (drop k l) r else if x < k then joined x w l (drop k r) else both l r
theorem toL_first (k : Int) (v : ν) (l r : T ν) : (first k v l r).2 :: (first k v l r).1.toL = l.toL ++ (k, v) :: r.toL := by
  induction l generalizing k v r with
  | nil => rfl
  | node lk lv ll lr ih _ =>
    unfold first
    simp only [toL_joined, ← List.cons_append, ih]
    rfl
theorem toL_both (l r : T ν) : (both l r).toL = l.toL ++ r.toL := by
  unfold both
  split
  · rfl
  · simp [T.toL]
  · rw [toL_joined]; congr 1; exact toL_first ..
/-! rows -/
def insL (k : Int) (v : ν) : List (Int × ν) → List (Int × ν)
  | [] => [(k, v)]
  | x :: r => if k < x.1 then (k, v) :: x :: r else if x.1 < k then x :: insL k v r else (k, v) :: r
def delL (k : Int) : List (Int × ν) → List (Int × ν)
  | [] => []
  | x :: r => if k = x.1 then r else x :: delL k r
def getL (k : Int) : List (Int × ν) → Option ν
  | [] => none
  | x :: r => if k = x.1 then some x.2 else getL k r
abbrev Ord (l : List (Int × ν)) : Prop := l.Pairwise fun a b => a.1 < b.1
theorem insL_lt {k x : Int} {v w : ν} {a b : List (Int × ν)} (h : k < x) : insL k v (a ++ (x, w) :: b) = insL k v a ++ (x, w) :: b := by
  induction a with
  | nil => simp [insL, h]
  | cons y a ih =>
    simp only [List.cons_append, insL, ih]
    split
    · rfl
    · split <;> rfl
theorem insL_gt {k x : Int} {v w : ν} {a b : List (Int × ν)} (h : x < k) (ho : Ord (a ++ (x, w) :: b)) : insL k v (a ++ (x, w) :: b) = a ++ (x, w) :: insL k v b := by
  induction a with
  | nil => simp only [List.nil_append, insL]; rw [if_neg (by omega), if_pos h]
  | cons y a ih =>
    rw [List.cons_append] at ho; replace ho := List.pairwise_cons.1 ho
    have := ho.1 (x, w) (by simp)
    simp only [List.cons_append, insL]
    rw [if_neg (by omega), if_pos (by omega), ih ho.2]
theorem insL_eq {x : Int} {v w : ν} {a b : List (Int × ν)} (ho : Ord (a ++ (x, w) :: b)) : insL x v (a ++ (x, w) :: b) = a ++ (x, v) :: b := by
  induction a with
  | nil => simp only [List.nil_append, insL]; rw [if_neg (by omega), if_neg (by omega)]
  | cons y a ih =>
    rw [List.cons_append] at ho; replace ho := List.pairwise_cons.1 ho
    have := ho.1 (x, w) (by simp)
    simp only [List.cons_append, insL]
    rw [if_neg (by omega), if_pos (by omega), ih ho.2]
theorem delL_lt {k x : Int} {w : ν} {a b : List (Int × ν)} (h : k < x) (ho : Ord (a ++ (x, w) :: b)) : delL k (a ++ (x, w) :: b) = delL k a ++ (x, w) :: b := by
  have hb : delL k b = b := by
    have hb := (List.pairwise_cons.1 (List.pairwise_append.1 ho).2.1).1
    clear ho
    induction b with
    | nil => rfl
    | cons y b ih =>
      have := hb y (by simp)
      simp only [delL]; rw [if_neg (by simp at this; omega), ih fun z hz => hb z (by simp [hz])]
  induction a with
  | nil => simp only [List.nil_append, delL, hb]; rw [if_neg (by omega)]
  | cons y a ih =>
    rw [List.cons_append] at ho; replace ho := List.pairwise_cons.1 ho
    simp only [List.cons_append, delL, ih ho.2]
    split <;> rfl
theorem delL_gt {k x : Int} {w : ν} {a b : List (Int × ν)} (h : x < k) (ho : Ord (a ++ (x, w) :: b)) : delL k (a ++ (x, w) :: b) = a ++ (x, w) :: delL k b := by
  induction a with
  | nil => simp only [List.nil_append, delL]; rw [if_neg (by omega)]
  | cons y a ih =>
    rw [List.cons_append] at ho; replace ho := List.pairwise_cons.1 ho
    have := ho.1 (x, w) (by simp)
    simp only [List.cons_append, delL]
    rw [if_neg (by simp at this; omega), ih ho.2]
theorem delL_eq {x : Int} {w : ν} {a b : List (Int × ν)} (ho : Ord (a ++ (x, w) :: b)) : delL x (a ++ (x, w) :: b) = a ++ b := by
  induction a with
  | nil => simp [delL]
  | cons y a ih =>
    rw [List.cons_append] at ho; replace ho := List.pairwise_cons.1 ho
    have := ho.1 (x, w) (by simp)
    simp only [List.cons_append, delL]
    rw [if_neg (by simp at this; omega), ih ho.2]
theorem Ord.split {a b : List (Int × ν)} {x : Int × ν} (h : Ord (a ++ x :: b)) : Ord a ∧ Ord b ∧ (∀ y ∈ a, y.1 < x.1) ∧ ∀ y ∈ b, x.1 < y.1 := by
  have h := List.pairwise_append.1 h
  have h' := List.pairwise_cons.1 h.2.1
  exact ⟨h.1, h'.2, fun y hy => h.2.2 y hy x (by simp), h'.1⟩
theorem toL_put (k : Int) (v : ν) : ∀ t : T ν, Ord t.toL → (put k v t).toL = insL k v t.toL
  | .nil, _ => rfl
  | .node x w l r, ho => by
    obtain ⟨h1, h2, _, _⟩ := Ord.split (by simpa only [T.toL] using ho)
    simp only [put, T.toL]
    by_cases e1 : k < x
    · rw [if_pos e1, toL_joined, toL_put k v l h1, insL_lt e1]
    · rw [if_neg e1]
      by_cases e2 : x < k
      · rw [if_pos e2, toL_joined, toL_put k v r h2, insL_gt e2 ho]
      · have : k = x := by omega
        subst this
        rw [if_neg e2, insL_eq ho]; rfl
theorem toL_drop (k : Int) : ∀ t : T ν, Ord t.toL → (drop k t).toL = delL k t.toL
  | .nil, _ => rfl
  | .node x w l r, ho => by
    obtain ⟨h1, h2, _, _⟩ := Ord.split (by simpa only [T.toL] using ho)
    simp only [drop, T.toL]
    by_cases e1 : k < x
    · rw [if_pos e1, toL_joined, toL_drop k l h1, delL_lt e1 ho]
    · rw [if_neg e1]
      by_cases e2 : x < k
      · rw [if_pos e2, toL_joined, toL_drop k r h2, delL_gt e2 ho]
      · have : k = x := by omega
        subst this
        rw [if_neg e2, toL_both, delL_eq ho]
theorem mem_insL {k : Int} {v : ν} {l : List (Int × ν)} {y : Int × ν} (h : y ∈ insL k v l) : y = (k, v) ∨ y ∈ l := by
  induction l with
  | nil => simp [insL] at h; exact .inl h
  | cons x r ih =>
    simp only [insL] at h
    split at h
    · simpa using h
    · split at h
      · rcases List.mem_cons.1 h with h | h
        · exact .inr (by simp [h])
        · rcases ih h with h | h
          · exact .inl h
          · exact .inr (by simp [h])
      · rcases List.mem_cons.1 h with h | h
        · exact .inl h
        · exact .inr (by simp [h])
theorem mem_delL {k : Int} {l : List (Int × ν)} {y : Int × ν} (h : y ∈ delL k l) : y ∈ l := by
  induction l with
  | nil => simp [delL] at h
  | cons x r ih =>
    simp only [delL] at h
    split at h
    · simp [h]
    · rcases List.mem_cons.1 h with h | h
      · simp [h]
      · simp [ih h]
theorem ord_insL (k : Int) (v : ν) : ∀ l : List (Int × ν), Ord l → Ord (insL k v l)
  | [], _ => by simp [insL]
  | x :: r, h => by
    simp only [insL]
    have h' := List.pairwise_cons.1 h
    split
    · rename_i e
      refine List.pairwise_cons.2 ⟨fun y hy => ?_, h⟩
      rcases List.mem_cons.1 hy with rfl | hy
      · exact e
      · have := h'.1 y hy; simp only [] at e ⊢; omega
    · rename_i e
      split
      · rename_i e2
        refine List.pairwise_cons.2 ⟨fun y hy => ?_, ord_insL k v r h'.2⟩
        rcases mem_insL hy with rfl | hy
        · exact e2
        · exact h'.1 y hy
      · rename_i e2
        refine List.pairwise_cons.2 ⟨fun y hy => ?_, h'.2⟩
        have := h'.1 y hy; simp only []; omega
theorem ord_delL (k : Int) : ∀ l : List (Int × ν), Ord l → Ord (delL k l)
  | [], _ => by simp [delL]
  | x :: r, h => by
    simp only [delL]
    have h' := List.pairwise_cons.1 h
    split
    · exact h'.2
    · exact List.pairwise_cons.2 ⟨fun y hy => h'.1 y (mem_delL hy), ord_delL k r h'.2⟩
theorem getL_node {k x : Int} {w : ν} {a b : List (Int × ν)} (ho : Ord (a ++ (x, w) :: b)) :
    getL k (a ++ (x, w) :: b) = if k < x then getL k a else if x < k then getL k b else some w := by
  have app : ∀ (a c : List (Int × ν)), (∀ y ∈ a, y.1 ≠ k) → getL k (a ++ c) = getL k c := fun a c h => by
    induction a with
    | nil => rfl
    | cons y a ih =>
      simp only [List.cons_append, getL]
      rw [if_neg (by have := h y (by simp); omega), ih fun z hz => h z (by simp [hz])]
  have non : ∀ (b : List (Int × ν)), (∀ y ∈ b, y.1 ≠ k) → getL k b = none := fun b h => by
    have := app b [] h; simpa [getL] using this
  obtain ⟨h1, h2, h3, h4⟩ := Ord.split ho
  split
  · rename_i e
    clear ho h1 h3
    induction a with
    | nil =>
      simp only [List.nil_append, getL]
      rw [if_neg (by omega)]
      exact non b fun y hy => by have := h4 y hy; simp only [] at this; omega
    | cons y a ih => simp only [List.cons_append, getL, ih]
  · rename_i e
    rw [app a _ fun y hy => by have := h3 y hy; simp only [] at this; omega]
    simp only [getL]
    split
    · rename_i e2; rw [if_neg (by omega)]
    · rename_i e2; rw [if_pos (by omega)]
theorem getL_insL (k j : Int) (v : ν) : ∀ l : List (Int × ν), Ord l → getL j (insL k v l) = if j = k then some v else getL j l
  | [], _ => by simp [insL, getL]
  | x :: r, h => by
    have h' := List.pairwise_cons.1 h
    simp only [insL]
    split
    · simp only [getL]
    · split
      · rename_i e1 e2
        simp only [getL, getL_insL k j v r h'.2]
        by_cases e3 : j = x.1
        · rw [if_pos e3, if_neg (by omega), if_pos e3]
        · rw [if_neg e3, if_neg e3]
      · rename_i e1 e2
        simp only [getL]
        by_cases e3 : j = k
        · rw [if_pos e3, if_pos e3]
        · rw [if_neg e3, if_neg e3, if_neg (by omega)]
theorem getL_none {j : Int} : ∀ {l : List (Int × ν)}, (∀ y ∈ l, y.1 ≠ j) → getL j l = none
  | [], _ => rfl
  | x :: r, h => by
    simp only [getL]
    rw [if_neg (by have := h x (by simp); omega), getL_none fun z hz => h z (by simp [hz])]
theorem getL_delL (k j : Int) : ∀ l : List (Int × ν), Ord l → getL j (delL k l) = if j = k then none else getL j l
  | [], _ => by simp [delL, getL]
  | x :: r, h => by
    have h' := List.pairwise_cons.1 h
    simp only [delL]
    split
    · rename_i e
      by_cases e3 : j = k
      · rw [if_pos e3]; exact getL_none fun y hy => by have := h'.1 y hy; omega
      · rw [if_neg e3]; simp only [getL]; rw [if_neg (by omega)]
    · rename_i e
      simp only [getL, getL_delL k j r h'.2]
      by_cases e3 : j = x.1
      · rw [if_pos e3, if_neg (by omega), if_pos e3]
      · rw [if_neg e3, if_neg e3]
/-- how many keys are ahead -/
def rnk (k : Int) (l : List (Int × ν)) : Nat := l.countP fun y => decide (y.1 < k)
theorem rnk_le (k : Int) (l : List (Int × ν)) : rnk k l ≤ l.length := List.countP_le_length
theorem rnk_node {k x : Int} {w : ν} {a b : List (Int × ν)} (ho : Ord (a ++ (x, w) :: b)) :
    rnk k (a ++ (x, w) :: b) = if k < x then rnk k a else if x < k then a.length + 1 + rnk k b else a.length := by
  obtain ⟨h1, h2, h3, h4⟩ := Ord.split ho
  have all : ∀ l : List (Int × ν), (∀ y ∈ l, y.1 < k) → rnk k l = l.length := fun l h => by
    rw [rnk, List.countP_eq_length]
    intro y hy; simpa using h y hy
  have non : ∀ l : List (Int × ν), (∀ y ∈ l, ¬ y.1 < k) → rnk k l = 0 := fun l h => by
    rw [rnk, List.countP_eq_zero]
    intro y hy; simpa using h y hy
  have e : rnk k (a ++ (x, w) :: b) = rnk k a + ((if x < k then 1 else 0) + rnk k b) := by
    simp only [rnk, List.countP_append, List.countP_cons, decide_eq_true_eq]; omega
  rw [e]
  by_cases q1 : k < x
  · rw [if_pos q1, if_neg (by omega), non b fun y hy => by have := h4 y hy; simp only [] at this; omega]; omega
  · rw [if_neg q1]
    by_cases q2 : x < k
    · rw [if_pos q2, if_pos q2, all a fun y hy => by have := h3 y hy; simp only [] at this; omega]; omega
    · rw [if_neg q2, if_neg q2, all a fun y hy => by have := h3 y hy; simp only [] at this; omega, non b fun y hy => by have := h4 y hy; simp only [] at this; omega]; omega
end Rk
end Go.Proofs.Ytlmnfhhmgfnbpaa.E
