/- STABLE ORDER of a list, by a key: what it is, that it is one, and that both ways of sorting give it. -/
import Derived.Test.YtlmnfhhmgfnbpaaS0
namespace Go.Proofs.Ytlmnfhhmgfnbpaa.E
namespace Srt
variable {α : Type} {key : α → Int}
abbrev keyT (key : α → Int) : α × Nat → Int := fun x => key x.1
abbrev tagT : α × Nat → Nat := fun x => x.2
def Stable (key : α → Int) (src out : List α) : Prop :=
  ∃ T : List (α × Nat), T.map (·.1) = out ∧ T.Pairwise (Bef (keyT key) tagT) ∧ T.Perm src.zipIdx
theorem Stable.uniq {src o1 o2 : List α} (h1 : Stable key src o1) (h2 : Stable key src o2) : o1 = o2 := by
  obtain ⟨T1, rfl, p1, q1⟩ := h1
  obtain ⟨T2, rfl, p2, q2⟩ := h2
  have := (q1.trans q2.symm).eq_of_pairwise (le := Bef (keyT key) tagT) (fun a b _ _ h1 h2 => by unfold Bef at h1 h2; omega) p1 p2
  rw [this]
theorem Stable.len {src out : List α} (h : Stable key src out) : out.length = src.length := by
  obtain ⟨T, rfl, _, q⟩ := h
  rw [List.length_map, q.length_eq, List.length_zipIdx]
theorem Stable.nil : Stable key [] [] := ⟨[], rfl, List.Pairwise.nil, List.Perm.refl _⟩
/-- one more, behind all that are not greater -/
theorem Stable.ins {src out : List α} (h : Stable key src out) (x : α) {n : Nat} (hn : n ≤ out.length)
    (hi : ∀ p y, n ≤ p → out[p]? = some y → key x < key y) (hd : n = 0 ∨ ∃ y, out[n - 1]? = some y ∧ ¬ key x < key y) : Stable key (src ++ [x]) (out.take n ++ [x] ++ out.drop n) := by
  obtain ⟨T, rfl, p, q⟩ := h
  have htag : ∀ y ∈ T, y.2 < src.length := fun y hy => by
    have := List.mem_zipIdx (x := y.1) (i := y.2) (q.mem_iff.1 hy)
    omega
  have hlo : ∀ y ∈ T.take n, Bef (keyT key) tagT y (x, src.length) := fun y hy => by
    rcases hd with hd | ⟨z, hz, hk⟩
    · rw [hd] at hy; simp at hy
    · rw [List.getElem?_map, Option.map_eq_some_iff] at hz
      obtain ⟨z', hz', rfl⟩ := hz
      have hn0 : 0 < n := by
        rcases Nat.eq_zero_or_pos n with h | h
        · subst h; simp at hy
        · exact h
      obtain ⟨i, hi0⟩ := List.getElem?_of_mem hy
      rw [List.getElem?_take] at hi0
      split at hi0
      case isFalse => cases hi0
      rename_i hi1
      have hi2 := hi0
      have hk1 : key y.1 ≤ key z'.1 := by
        by_cases e : i = n - 1
        · rw [e, hz'] at hi2; cases hi2; exact Int.le_refl _
        · have hl1 := (List.getElem?_eq_some_iff.1 hi2).1
          have hl2 := (List.getElem?_eq_some_iff.1 hz').1
          have := List.pairwise_iff_getElem.1 p i (n - 1) hl1 hl2 (by omega)
          rw [(List.getElem?_eq_some_iff.1 hi2).2, (List.getElem?_eq_some_iff.1 hz').2] at this
          exact this.1
      have := htag y (List.mem_of_mem_take hy)
      refine ⟨by show key y.1 ≤ key x; omega, fun _ => this⟩
  have hhi : ∀ y ∈ T.drop n, Bef (keyT key) tagT (x, src.length) y := fun y hy => by
    obtain ⟨i, hi'⟩ := List.getElem?_of_mem hy
    rw [List.getElem?_drop] at hi'
    have := hi (n + i) y.1 (by omega) (by rw [List.getElem?_map, hi']; rfl)
    exact ⟨by show key x ≤ key y.1; omega, fun e => by have e' : key x = key y.1 := e; omega⟩
  refine ⟨T.take n ++ [(x, src.length)] ++ T.drop n, by simp, ?_, ?_⟩
  · have hp : (T.take n ++ T.drop n).Pairwise (Bef (keyT key) tagT) := by rw [List.take_append_drop]; exact p
    rw [List.pairwise_append] at hp
    rw [List.append_assoc, List.pairwise_append]
    refine ⟨hp.1, ?_, fun a ha b hb => ?_⟩
    · rw [List.singleton_append, List.pairwise_cons]; exact ⟨hhi, hp.2.1⟩
    · rw [List.singleton_append, List.mem_cons] at hb
      rcases hb with rfl | hb
      · exact hlo a ha
      · exact hp.2.2 a ha b hb
  · rw [List.zipIdx_append]
    have e1 : [x].zipIdx src.length = [(x, src.length)] := rfl
    have e2 : (T.take n ++ [(x, src.length)] ++ T.drop n).Perm ((T.take n ++ T.drop n) ++ [(x, src.length)]) := by
      rw [List.append_assoc, List.append_assoc]
      exact (List.Perm.refl _).append List.perm_append_comm
    refine e2.trans ?_
    rw [List.take_append_drop]
    simpa [e1] using q.append (List.Perm.refl [(x, src.length)])
theorem perm_of_rearr {β : Type} {n : Nat} {f g : Nat → β} (h : Rearr 0 n f g) : ((List.range n).map g).Perm ((List.range n).map f) := by
  obtain ⟨s, t, a1, a2, a3, a4, a5, a6⟩ := h
  have e : (List.range n).map g = ((List.range n).map s).map f := by
    rw [List.map_map]; exact List.map_congr_left fun i _ => a6 i
  rw [e]
  refine List.Perm.map f ((List.perm_ext_iff_of_nodup ?_ List.nodup_range).2 fun i => ?_)
  · rw [List.Nodup, List.pairwise_map]
    exact List.nodup_range.imp fun {x y} h e => h (by rw [← a1 x, e, a1])
  · simp only [List.mem_map, List.mem_range]
    constructor
    · rintro ⟨k, hk, rfl⟩; exact (a3 k (by omega) hk).2
    · intro hi; exact ⟨t i, (a4 i (by omega) hi).2, a2 i⟩
/-- what is sorted in place is the stable order -/
theorem Stable.of_place {src : List α} {f f' : Nat → α × Nat} (hf : ∀ i x, src[i]? = some x → f i = (x, i)) (hs : Sorted (keyT key) tagT f' 0 src.length) (hr : Rearr 0 src.length f f') :
    Stable key src ((List.range src.length).map fun i => (f' i).1) := by
  refine ⟨(List.range src.length).map f', by rw [List.map_map]; rfl, ?_, (perm_of_rearr hr).trans (List.Perm.of_eq ?_)⟩
  · rw [List.pairwise_map]
    exact List.pairwise_lt_range.imp_of_mem fun h1 h2 h => hs _ _ (by omega) h (by simpa using h2)
  · apply List.ext_getElem?
    intro i
    rw [List.getElem?_map, List.getElem?_zipIdx]
    by_cases hi : i < src.length
    · rw [List.getElem?_range hi, List.getElem?_eq_getElem hi]
      simp [hf i _ (List.getElem?_eq_getElem hi)]
    · rw [List.getElem?_eq_none (by simpa using hi), List.getElem?_eq_none (by omega)]; rfl
end Srt
end Go.Proofs.Ytlmnfhhmgfnbpaa.E
