/- WORDS FOR PROOFS OVER THE ENGINE: 'append'. -/
import Derived.Test.YtlmnfhhmgfnbpaaDoorL0
namespace Go.Proofs.YtlmnfhhmgfnbpaaDoor.E
open Go
variable {P : Program}
/-- behind an append: what was known and is not in the block of a is known still -/
def Stays (u u' : PH) (a : Option Addr) : Prop := ∀ b o, u b = some o → (∀ x, a = some x → b ≠ x.block) → u' b = some o
theorem Stays.of_ext {u u' : PH} (h : Ext u u') (a : Option Addr) : Stays u u' a := fun b o hb _ => h b o hb
theorem Sl.stays {α : Type} {enc : α → List Value} {k n : Nat} {u u' : PH} {a x : Option Addr} {l : List α} (h : Sl enc k u x n l) (hk : Stays u u' a) (hx : ∀ y z, x = some y → a = some z → y.block ≠ z.block) (hp : 0 < k) (he : ∀ x, (enc x).length = k) : Sl enc k u' x n l :=
  ⟨h.len, fun i y hy => by
    obtain ⟨b, o, h1, h2⟩ := h.get i y hy
    refine ⟨b, o, h1, fun j v hj => ?_⟩
    obtain ⟨c, t, fr, g1, g2⟩ := PH.cell_some (h2 j v hj)
    rw [PH.cell_eq (hk b _ g1 fun z hz => hx _ z h1 hz)]
    exact g2⟩
section
variable {α : Type} {enc : α → List Value} {u0 u : PH} {a a2 : Option Addr} {n c m c2 : Nat} {l l2 : List α}
theorem Sl.flat {k : Nat} (h : Sl enc k u a n l) (he : ∀ x, (enc x).length = k) {b o : Nat} (ha : a = some ⟨b, o, none⟩) : ∀ j v, (l.flatMap enc)[j]? = some v → PH.cell u b (o + j) = some v := by
  obtain ⟨hl, hg⟩ := h
  clear hl
  induction l generalizing a o with
  | nil => intro j v hj; simp at hj
  | cons x r ih =>
    intro j v hj
    rw [List.flatMap_cons, List.getElem?_append] at hj
    split at hj
    · obtain ⟨b', o', h1, h2⟩ := hg 0 x rfl
      rw [ha] at h1; cases h1
      have := h2 j v hj
      simpa using this
    · rename_i hjk
      rw [he x] at hj hjk
      have := ih (a := some ⟨b, o + k, none⟩) (o := o + k) rfl (fun i y hy => by
        obtain ⟨b', o', h1, h2⟩ := hg (i + 1) y hy
        rw [ha] at h1; cases h1
        exact ⟨b, o + k, rfl, by rw [Nat.add_mul, Nat.one_mul] at h2; rw [show o + k + i * k = o + (i * k + k) by omega]; exact h2⟩) (j - k) v hj
      rw [show o + k + (j - k) = o + j by omega] at this
      exact this
theorem sub_cell {w : World} (hw : Sub u w) {b o : Nat} {v : Value} (h : PH.cell u b o = some v) : w.cell? ⟨b, o, none⟩ = some v := by
  obtain ⟨c, t, fr, h1, h2⟩ := PH.cell_some h
  simp [World.cell?, hw b _ h1, h2]
/-- nothing appended -/
theorem append_none {t ty e : TypeId} {i : TypeInfo} (ht : P.underlying t = some (.slice e)) (hi : P.info? e = some i) (hn : n ≤ c) (ha : c2 = c2) (w : World) :
    (Builtin.append_ #[t, t] ty #[.slice a n c, .slice a2 0 c2]).run P w = .ok (.slice a n c) w := by
  cases a2 with
  | none => cases a <;> simp [Builtin.append_, run_underlying ht, sizeOf, typeInfo, hi, Builtin.lenOf, Builtin.firstCells, hn, storeCells]
  | some a2 => cases a <;> simp [Builtin.append_, run_underlying ht, sizeOf, typeInfo, hi, Builtin.lenOf, Builtin.firstCells, hn, storeCells, loadCells, loadCellsFrom]
theorem Fr.grown {w w' : World} {u' : PH} (ho : w'.os = w.os) (ht : w'.tape = w.tape) (hp : w'.output = w.output) (hs : w.heap.size ≤ w'.heap.size) (hk : ∀ b, b < w.heap.size → u b = none → w'.heap[b]? = w.heap[b]? ∧ u' b = none) : Fr u w u' w' := ⟨ho, ht, hp, hs, hk⟩
theorem sem_append {t ty e : TypeId} {i : TypeInfo} {z : Value} {size bytes : Nat} (ht : P.underlying t = some (.slice e)) (hi : P.info? e = some i) (hz : i.zero = some z) (hsize : i.size = size) (hby : i.bytes = bytes) (hzs : z.cells.size = size) (hsz : 0 < size)
    (hk : ∀ x, (enc x).length = size) (h1 : ∀ x, ∀ v ∈ enc x, v.oneCell' = true) (h : Own enc size e u0 u a n c l) (hx : Sl enc size u a2 m l2)
    (h63 : n + m ≤ maxLen) (hbytes : (n + m) * bytes ≤ 140737488355328) (he : Ext u0 u) :
    SemSpec P (Builtin.append_ #[t, t] ty #[.slice a n c, .slice a2 m c2]) u fun v u' => ∃ a' c', v = .slice a' (n + m) c' ∧ Own enc size e u0 u' a' (n + m) c' (l ++ l2) ∧ Ext u0 u' ∧ Stays u u' a := by
  intro w hw
  have hlen := h.len
  have hm := hx.len
  by_cases h0 : m = 0
  · subst h0
    have hl2 : l2 = [] := List.eq_nil_of_length_eq_zero hm
    subst hl2
    refine ⟨_, w, u, append_none ht hi h.le rfl w, hw, ⟨rfl, rfl, rfl, Nat.le_refl _, fun b _ hb => ⟨rfl, hb⟩⟩, a, c, rfl, by simpa using h, he, Stays.of_ext (Ext.refl u) a⟩
  obtain ⟨x0, hx0⟩ : ∃ x0, l2[0]? = some x0 := by
    cases l2 with
    | nil => simp at hm; omega
    | cons x r => exact ⟨x, rfl⟩
  obtain ⟨b2, o2, rfl, _⟩ := hx.get 0 x0 hx0
  have hnl : (l2.flatMap enc).length = m * size := by rw [flat_len hk, hm]
  have hol : (l.flatMap enc).length = n * size := by rw [flat_len hk, hlen]
  have hnews : ∀ j v, (l2.flatMap enc)[j]? = some v → w.cell? ((⟨b2, o2, none⟩ : Addr).add j) = some v := fun j v hj => by
    rw [addr_add]; exact sub_cell hw (hx.flat hk rfl j v hj)
  have h1' : ∀ v ∈ l2.flatMap enc, v.oneCell' = true := fun v hv => by
    obtain ⟨x, _, hx⟩ := List.mem_flatMap.1 hv
    exact h1 x v hx
  have grown : ∀ v' w', (Builtin.append_ #[t, t] ty #[.slice a n c, .slice (some ⟨b2, o2, none⟩) m c2]).run P w = .ok v' w' → w'.ownsRow w.heap.size e size v' (n + m) (l.flatMap enc ++ l2.flatMap enc) → w.grownBy w' none →
      ∃ v w' u', (Builtin.append_ #[t, t] ty #[.slice a n c, .slice (some ⟨b2, o2, none⟩) m c2]).run P w = .ok v w' ∧ Sub u' w' ∧ Fr u w u' w' ∧ ∃ a' c', v = .slice a' (n + m) c' ∧ Own enc size e u0 u' a' (n + m) c' (l ++ l2) ∧ Ext u0 u' ∧ Stays u u' a := by
    intro v' w' hr ho hg
    rcases ho.2 with ⟨_, h'⟩ | ⟨g, cap, cur, rfl, hbg, hg', hnc, hcm, hcs, htake⟩
    · omega
    · have hnone : u g = none := hw.none hbg
      refine ⟨_, w', PH.add u g (.cells cur e (0, 0)), hr, fun b o hb => ?_, ⟨hg.os, hg.tape, hg.output, hg.size, fun b hb hn => ⟨hg.block b hb (by simp), by rw [PH.add_ne (by omega)]; exact hn⟩⟩, some ⟨g, 0, none⟩, cap, rfl, ⟨by simp [hlen, hm], hnc, hcm, .inr ⟨g, cur, rfl, ?_, PH.add_eq _ _ _, hcs, by rw [htake, List.flatMap_append]⟩⟩, he.trans (Ext.add hnone _), Stays.of_ext (Ext.add hnone _) a⟩
      · by_cases e' : b = g
        · subst e'; rw [PH.add_eq] at hb; cases hb; exact hg'
        · rw [PH.add_ne e'] at hb
          rw [hg.block b (hw.lt hb) (by simp)]; exact hw b o hb
      · cases hu : u0 g with
        | none => rfl
        | some o => rw [he g o hu] at hnone; cases hnone
  rcases h.row with ⟨rfl, rfl⟩ | ⟨g, cs, rfl, hg0, hg, hcs, htake⟩
  · have hn0 : n = 0 := by have := h.le; omega
    subst hn0
    have hl : l = [] := List.eq_nil_of_length_eq_zero hlen
    subst hl
    obtain ⟨v', w', hr, ho, hgr, _⟩ := run_append_own (P := P) w w.heap.size t ty e i z size bytes ht hi hz hsize hby hzs hsz (.slice none 0 0) 0 [] (World.ownsRow_nil w _ e size) ⟨b2, o2, none⟩ m c2 (l2.flatMap enc) hnl hnews h1' h63 hbytes (Nat.le_refl _)
    exact grown v' w' hr (by simpa using ho) hgr
  · by_cases hroom : n + m ≤ c
    · subst hsize
      have hfit : n * i.size + (l2.flatMap enc).length ≤ cs.size := by rw [hnl, hcs, ← Nat.add_mul]; exact Nat.mul_le_mul_right _ hroom
      have hr := run_append_room (P := P) w t ty e i ht hi g n c cs (hw g _ hg) ⟨b2, o2, none⟩ m c2 (l2.flatMap enc) hnl hnews h1' hroom hfit
      refine ⟨_, _, PH.add u g (.cells (cs.toList.take (n * i.size) ++ l2.flatMap enc ++ cs.toList.drop (n * i.size + (l2.flatMap enc).length)).toArray e (0, 0)), hr, fun b o hb => ?_, ⟨rfl, rfl, rfl, by simp, fun b hb hn => ?_⟩, some ⟨g, 0, none⟩, c, rfl, ⟨by simp [hlen, hm], hroom, h.max, .inr ⟨g, _, rfl, hg0, PH.add_eq _ _ _, ?_, ?_⟩⟩, fun b o hb => ?_, fun b o hb hne => ?_⟩
      · by_cases e' : b = g
        · subst e'; rw [PH.add_eq] at hb; cases hb; exact setRow_heap w b cs _ e _ (hw b _ hg)
        · rw [PH.add_ne e'] at hb
          rw [setRow_other w g b _ e']; exact hw b o hb
      · have e' : b ≠ g := fun e' => by subst e'; rw [hg] at hn; cases hn
        exact ⟨setRow_other w g b _ e', by rw [PH.add_ne e']; exact hn⟩
      · simp only [List.size_toArray, List.length_append, List.length_take, List.length_drop, Array.length_toList]
        omega
      · rw [htake, List.take_append_of_le_length (by rw [List.length_append, hol, hnl, ← Nat.add_mul]; exact Nat.le_refl _), List.take_of_length_le (by rw [List.length_append, hol, hnl, ← Nat.add_mul]; exact Nat.le_refl _), List.flatMap_append]
      · have e' : b ≠ g := fun e' => by subst e'; rw [hg0] at hb; cases hb
        rw [PH.add_ne e']; exact he b o hb
      · rw [PH.add_ne (hne _ rfl)]; exact hb
    · obtain ⟨v', w', hr, ho, hgr⟩ := run_append_arg_grows (P := P) w t ty e i z size bytes ht hi hz hsize hby hzs hsz ⟨g, 0, none⟩ n c (l.flatMap enc) hol (fun j v hj => by
        rw [addr_add]
        exact sub_cell hw ((h.sl hk).flat hk rfl j v hj)) ⟨b2, o2, none⟩ m c2 (l2.flatMap enc) hnl hnews (by omega) h63 hbytes
      exact grown v' w' hr ho hgr
end
end Go.Proofs.YtlmnfhhmgfnbpaaDoor.E
