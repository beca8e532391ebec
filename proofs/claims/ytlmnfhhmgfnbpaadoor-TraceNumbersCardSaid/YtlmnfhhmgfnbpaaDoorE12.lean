/- THE ENGINE, part 13: a loop's head, and code. -/
import Derived.Test.YtlmnfhhmgfnbpaaDoorE11
namespace Go.Proofs.YtlmnfhhmgfnbpaaDoor.E
open Go
variable {P : Program} {g : Ghost} {ν : Nat → Nat} {st : St} {u : PH} {a : Act} {w : World}
theorem slotCells_ok {st : St} : ∀ {l : List (Nat × Sh)} {cs : List Cell}, slotCells st l = some cs → cs.length = l.length ∧ ∀ (j i : Nat) (s : Sh) (c : Cell), l[j]? = some (i, s) → cs[j]? = some c → look st.slots i = some (.ok (.p (.c c))) := by
  intro l
  induction l with
  | nil => intro cs h; cases h; exact ⟨rfl, fun j i s c h => by simp at h⟩
  | cons p l ih =>
    obtain ⟨i, s⟩ := p
    intro cs h
    simp only [slotCells] at h
    split at h
    · rename_i c cs' h1 h2
      cases h
      obtain ⟨e1, e2⟩ := ih h2
      refine ⟨by simp [e1], fun j i' s' c' hj hc => ?_⟩
      cases j with
      | zero => simp at hj hc; obtain ⟨rfl, rfl⟩ := hj; subst hc; exact h1
      | succ j => exact e2 j i' s' c' (by simpa using hj) (by simpa using hc)
    · cases h
theorem look_putSlots : ∀ (l : List (Nat × Sh)) (cs : List Cell) (r : List (Nat × Entry)) {i : Nat} {e : Entry}, look (putSlots l cs r) i = some e →
    (∃ (j : Nat) (s : Sh) (c : Cell), l[j]? = some (i, s) ∧ cs[j]? = some c ∧ e = .ok (.p (.c c))) ∨ look r i = some e := by
  intro l
  induction l with
  | nil => intro cs r i e h; exact .inr h
  | cons p l ih =>
    obtain ⟨k, s⟩ := p
    intro cs r i e h
    cases cs with
    | nil => exact .inr h
    | cons c cs =>
      simp only [putSlots, look] at h
      split at h
      · rename_i hk; subst hk; cases h; exact .inl ⟨0, s, c, rfl, rfl, rfl⟩
      · rcases ih cs r h with ⟨j, s', c', h1, h2, h3⟩ | h'
        · exact .inl ⟨j + 1, s', c', by simpa using h1, by simpa using h2, h3⟩
        · exact .inr h'
theorem lookG_putSlots : ∀ (l : List (Nat × Sh)) (cs : List Cell) (r : List (Nat × Entry)) {i s : Nat} {x : Bool × SV}, lookG (putSlots l cs r) i s = some x → lookG r i s = some x := by
  intro l
  induction l with
  | nil => intro cs r i s x h; exact h
  | cons p l ih =>
    obtain ⟨k, s'⟩ := p
    intro cs r i s x h
    cases cs with
    | nil => exact h
    | cons c cs =>
      simp only [putSlots, lookG] at h
      split at h
      · cases h
      · split at h
        · cases h
        · exact ih cs r h
theorem hasN_ok : ∀ {l : List Nat} {x : Nat}, hasN l x = true ↔ x ∈ l := by
  intro l
  induction l with
  | nil => intro x; simp [hasN]
  | cons y l ih => intro x; simp only [hasN, Bool.or_eq_true, beq_iff_eq, ih, List.mem_cons]; exact ⟨fun h => h.imp Eq.symm id, fun h => h.imp Eq.symm id⟩
theorem look_filter (wr : List Nat) : ∀ (l : List (Nat × Entry)) {i : Nat} {e : Entry}, look (l.filter fun x => !hasN wr x.1) i = some e → i ∉ wr ∧ look l i = some e := by
  intro l
  induction l with
  | nil => intro i e h; cases h
  | cons p l ih =>
    obtain ⟨k, e0⟩ := p
    intro i e h
    simp only [List.filter_cons] at h
    by_cases hk : hasN wr k = true
    · rw [if_neg (by simp [hk])] at h
      obtain ⟨h1, h2⟩ := ih h
      refine ⟨h1, ?_⟩
      simp only [look]
      rw [if_neg (fun e => h1 (by rw [← e]; exact hasN_ok.1 hk))]
      exact h2
    · rw [if_pos (by simpa using hk)] at h
      simp only [look] at h ⊢
      split at h
      · rename_i hki; subst hki
        rw [if_pos rfl]
        exact ⟨fun hm => hk (hasN_ok.2 hm), h⟩
      · rename_i hki
        rw [if_neg hki]; exact ih h
theorem lookG_shut (l : List (Nat × Entry)) (i s : Nat) : lookG (l.map fun x => (x.1, x.2.shut)) i s = none := by
  induction l with
  | nil => rfl
  | cons p l ih =>
    obtain ⟨k, e⟩ := p
    simp only [List.map_cons, lookG]
    split
    · cases e <;> rfl
    · split
      · rfl
      · exact ih
theorem look_putOwns : ∀ (l : List (Nat × List Sh)) (own : List (Nat × OB)) (cs : List Cell) (k : Nat) {ob : OB}, look (putOwns own l cs) k = some ob →
    (∃ ob0, look own k = some ob0 ∧ ob.ty = ob0.ty) ∧ (k ∉ l.map (·.1) → look own k = some ob) := by
  intro l
  induction l with
  | nil => intro own cs k ob h; exact ⟨⟨ob, h, rfl⟩, fun _ => h⟩
  | cons p l ih =>
    obtain ⟨j, sh⟩ := p
    intro own cs k ob h
    simp only [putOwns] at h
    split at h
    · rename_i ob0 h0
      simp only [look] at h
      split at h
      · rename_i e; subst e; cases h
        exact ⟨⟨ob0, h0, rfl⟩, fun hn => absurd (by simp) hn⟩
      · obtain ⟨g1, g2⟩ := ih own _ k h
        exact ⟨g1, fun hn => g2 fun hm => hn (by simp only [List.map_cons, List.mem_cons]; exact .inr hm)⟩
    · obtain ⟨g1, g2⟩ := ih own _ k h
      exact ⟨g1, fun hn => g2 fun hm => hn (by simp only [List.map_cons, List.mem_cons]; exact .inr hm)⟩
/-- what the written blocks hold at the head: as the state has it -/
theorem putOwns_vals {stx : St} : ∀ (l : List (Nat × List Sh)) (own : List (Nat × OB)) (csx cs : List Cell), ownCells stx l = some csx → Same csx cs → ∀ (k : Nat) {ob : OB}, look (putOwns own l cs) k = some ob → k ∈ l.map (·.1) →
    ∃ obx, look stx.own k = some obx ∧ (∀ ν, ob.cells.map (Cell.toV ν) = obx.cells.map (Cell.toV ν)) ∧ ob.cells.flatMap Cell.refs = [] := by
  intro l
  induction l with
  | nil => intro own csx cs _ _ k ob _ hm; cases hm
  | cons p l ih =>
    obtain ⟨j, sh⟩ := p
    intro own csx cs h hs k ob hk hm
    simp only [ownCells] at h
    split at h
    · rename_i obx cs2 h1 h2
      split at h
      · rename_i hlen
        cases h
        have hsplit : Same obx.cells (cs.take sh.length) ∧ Same cs2 (cs.drop sh.length) := by
          have hv := hs.vals
          have hl := hs.len
          have hr := hs.refs
          simp only [List.length_append] at hl
          refine ⟨⟨fun ν => ?_, ?_, by rw [List.length_take]; omega⟩, ⟨fun ν => ?_, ?_, by rw [List.length_drop]; omega⟩⟩
          · have := congrArg (List.take sh.length) (hv ν)
            rw [List.map_append, List.take_append_of_le_length (by simp [hlen])] at this
            rw [List.map_take, this]; exact List.take_of_length_le (by simp [hlen])
          · rw [List.flatMap_eq_nil_iff] at hr ⊢
            exact fun x hx => hr x (List.mem_of_mem_take hx)
          · have := congrArg (List.drop sh.length) (hv ν)
            rw [List.map_append, List.drop_append_of_le_length (by simp [hlen])] at this
            rw [List.map_drop, this]
            have e : List.drop sh.length (List.map (Cell.toV ν) obx.cells) = [] := List.drop_of_length_le (by simp [hlen])
            rw [e, List.nil_append]
          · rw [List.flatMap_eq_nil_iff] at hr ⊢
            exact fun x hx => hr x (List.mem_of_mem_drop hx)
        simp only [putOwns] at hk
        by_cases hj : j = k
        · subst hj
          cases h0 : look own j with
          | some ob0 =>
            rw [h0] at hk
            simp only [look, if_true] at hk
            cases hk
            exact ⟨obx, h1, hsplit.1.vals, hsplit.1.refs⟩
          | none =>
            rw [h0] at hk
            obtain ⟨⟨ob1, h3, _⟩, _⟩ := look_putOwns l own _ j hk
            rw [h0] at h3; cases h3
        · have hm' : k ∈ l.map (·.1) := by
            simp only [List.map_cons, List.mem_cons] at hm
            rcases hm with h' | h'
            · exact absurd h'.symm hj
            · exact h'
          split at hk
          · simp only [look, if_neg hj] at hk
            exact ih own cs2 _ h2 hsplit.2 k hk hm'
          · exact ih own cs2 _ h2 hsplit.2 k hk hm'
      · cases h
    · cases h
/-- THE HEAD: whatever state the machine is in, whose slots and blocks are the entry's but for what may have been written, is the head's state at the cells that it has there. -/
theorem head_inv {h : Hint} {wr : List Nat} {st1 stx : St} {ν1 νx : Nat → Nat} {u1 ux : PH} {a1 ax : Act} {w1 wx : World} (h1 : Inv g ν1 st1 u1 a1 w1) {mx : Nat} {rx : Nat → Option Obj} (hx : Inv { g with m := mx, ref := rx } νx stx ux ax wx)
    (hL : Later ν1 st1 νx stx) (hkept : Kept wr a1 ax) (hheap : ∀ k ob, look st1.own k = some ob → k ∉ h.owns.map (·.1) → wx.heap[νx k]? = w1.heap[ν1 k]?)
    (hfit : ∀ k ob, look st1.own k = some ob → ∃ obx, look stx.own k = some obx ∧ obx.ty = ob.ty) {csx cs : List Cell} (hc : h.cells stx = some csx) (hs : Same csx cs) :
    Inv { g with m := st1.next, ref := fun k => wx.heap[νx k]? } νx (h.head wr st1 cs) ux ax wx := by
  unfold Hint.cells at hc
  split at hc
  case h_2 => cases hc
  rename_i csl cso hsl hso
  cases hc
  obtain ⟨hl1, hl2⟩ := slotCells_ok hsl
  have hss : Same csl (cs.take h.slots.length) ∧ Same cso (cs.drop h.slots.length) := by
    have hv := hs.vals
    have hl := hs.len
    have hr := hs.refs
    simp only [List.length_append] at hl
    refine ⟨⟨fun ν => ?_, ?_, by rw [List.length_take]; omega⟩, ⟨fun ν => ?_, ?_, by rw [List.length_drop]; omega⟩⟩
    · have := congrArg (List.take h.slots.length) (hv ν)
      rw [List.map_append, List.take_append_of_le_length (by simp [hl1])] at this
      rw [List.map_take, this]; exact List.take_of_length_le (by simp [hl1])
    · rw [List.flatMap_eq_nil_iff] at hr ⊢
      exact fun x hx => hr x (List.mem_of_mem_take hx)
    · have := congrArg (List.drop h.slots.length) (hv ν)
      rw [List.map_append, List.drop_append_of_le_length (by simp [hl1])] at this
      rw [List.map_drop, this]
      have e : List.drop h.slots.length (List.map (Cell.toV ν) csl) = [] := List.drop_of_length_le (by simp [hl1])
      rw [e, List.nil_append]
    · rw [List.flatMap_eq_nil_iff] at hr ⊢
      exact fun x hx => hr x (List.mem_of_mem_drop hx)
  have hown : ∀ k ob, look (h.head wr st1 cs).own k = some ob → ∃ ob1 obx, look st1.own k = some ob1 ∧ look stx.own k = some obx ∧ wx.heap[νx k]? = some (obj νx ob) ∧ refsLt st1.next (ob.cells.flatMap Cell.refs) := by
    intro k ob hk
    simp only [Hint.head] at hk
    obtain ⟨⟨ob1, h2, h3⟩, h4⟩ := look_putOwns h.owns st1.own _ k hk
    obtain ⟨obx, h5, h6⟩ := hfit k ob1 h2
    obtain ⟨x1, x2, x3, x4, x5⟩ := hx.own k obx h5
    obtain ⟨y1, y2, y3, y4, y5⟩ := h1.own k ob1 h2
    refine ⟨ob1, obx, h2, h5, ?_⟩
    by_cases hm : k ∈ h.owns.map (·.1)
    · obtain ⟨obx', g1, g2, g3⟩ := putOwns_vals h.owns st1.own cso _ hso hss.2 k hk hm
      rw [h5] at g1; cases g1
      refine ⟨?_, by rw [g3]; exact refsLt_nil _⟩
      rw [x2]
      simp only [obj, g2, h6, h3]
    · have := h4 hm
      have e : ob1 = ob := by rw [h2] at this; exact Option.some.inj this
      subst e
      refine ⟨?_, y5⟩
      rw [hheap k ob1 h2 hm, y2]
      unfold obj
      rw [cells_congr hL.nu _ y5]
  refine ⟨hx.sub, hx.fr, ?_, ?_, ?_, ?_, ?_, ?_, hx.defers, Nat.le_refl _⟩
  · intro i e hi
    simp only [Hint.head] at hi
    rcases look_putSlots h.slots cs _ hi with ⟨j, s, c, g1, g2, rfl⟩ | hi
    · have hj : j < h.slots.length := (List.getElem?_eq_some_iff.1 g1).1
      have g2' : (cs.take h.slots.length)[j]? = some c := by rw [List.getElem?_take, if_pos hj]; exact g2
      have hj' : j < csl.length := by omega
      have hcx : csl[j]? = some csl[j] := List.getElem?_eq_getElem hj'
      have hsx := hl2 j i s _ g1 hcx
      have hval : c.toV νx = csl[j].toV νx := by
        have := congrArg (fun l : List Value => l[j]?) (hss.1.vals νx)
        simp only [List.getElem?_map, g2', hcx, Option.map_some, Option.some.injEq] at this
        exact this
      have hcr : c.refs = [] := (List.flatMap_eq_nil_iff.1 hss.1.refs) c (List.mem_of_getElem? g2')
      have hsl' := hx.slots i _ hsx
      exact ⟨refsOne (refsLt_of_nil hcr), by rw [hsl'.2]; simp only [SV.toV, Part.toV, hval]⟩
    · have hm := look_map (fun _ (e : Entry) => e.shut) (st1.slots.filter fun x => !hasN wr x.1) i
      rw [hm] at hi
      simp only [Option.map_eq_some_iff] at hi
      obtain ⟨e0, h0, rfl⟩ := hi
      obtain ⟨hn, h2⟩ := look_filter wr st1.slots h0
      have h3 := h1.slots i e0 h2
      cases e0 with
      | ok x => exact ⟨h3.1, by rw [hkept i hn, SV.toV_congr hL.nu x h3.1]; exact h3.2⟩
      | grd s b x => trivial
      | any => trivial
  · intro i s b x hi
    simp only [Hint.head] at hi
    have := lookG_putSlots h.slots cs _ hi
    rw [lookG_shut] at this; cases this
  · intro k ob hk
    obtain ⟨ob1, obx, h2, h5, h6, h7⟩ := hown k ob hk
    obtain ⟨x1, x2, x3, x4, x5⟩ := hx.own k obx h5
    exact ⟨(h1.own k ob1 h2).1, h6, x3, x4, h7⟩
  · intro k k' o1 o2 q1 q2 e
    obtain ⟨_, obx, _, h5, _⟩ := hown k o1 q1
    obtain ⟨_, obx', _, h5', _⟩ := hown k' o2 q2
    exact hx.inj k k' obx obx' h5 h5' e
  · intro k ob _ _ _
    rfl
  · show ax.tmps.size = st1.n
    rw [hx.size, hL.n]
end Go.Proofs.YtlmnfhhmgfnbpaaDoor.E
