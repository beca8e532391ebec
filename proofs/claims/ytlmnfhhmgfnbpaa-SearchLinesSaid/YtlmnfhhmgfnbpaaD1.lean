/- CONTRACTS: the trees of lossy. -/
import Derived.Test.YtlmnfhhmgfnbpaaL5
import Derived.Test.YtlmnfhhmgfnbpaaC3
import Derived.Test.YtlmnfhhmgfnbpaaR0
import Derived.Test.YtlmnfhhmgfnbpaaVC
namespace Go.Proofs.Ytlmnfhhmgfnbpaa.E
open Go
structure Thing where
  val : Int
  end_ : Int

/-! trees by rank: RkA -/
namespace RkA
abbrev nodeC (k : Int) (v : Thing) (pl pr : Option Addr) (n d : Int) : Array Value := #[.int .i64 k, .int .i64 v.val, .int .i64 v.end_, .pointer pl, .pointer pr, .int .i64 n, .int .i64 d]
def TreeAt (u : PH) : Rk.T Thing → Option Addr → Prop
  | .nil, p => p = none
  | .node k v l r, p => ∃ (b : Nat) (pl pr : Option Addr), p = some ⟨b, 0, none⟩ ∧ u b = some (.cells (nodeC k v pl pr ((l.size + r.size + 1 : Nat) : Int) ((max l.deep r.deep + 1 : Nat) : Int)) 121) ∧ TreeAt u l pl ∧ TreeAt u r pr
theorem TreeAt.ext {u u' : PH} (he : Ext u u') : ∀ {t : Rk.T Thing} {p : Option Addr}, TreeAt u t p → TreeAt u' t p
  | .nil, _, h => h
  | .node _ _ _ _, _, ⟨b, pl, pr, h1, h2, h3, h4⟩ => ⟨b, pl, pr, h1, he _ _ h2, h3.ext he, h4.ext he⟩
/-- a node, by its key and thing -/
def NodeAt (u : PH) (p : Option Addr) (k : Int) (v : Thing) : Prop := ∃ (b : Nat) (pl pr : Option Addr) (n d : Int), p = some ⟨b, 0, none⟩ ∧ u b = some (.cells (nodeC k v pl pr n d) 121)
section
variable {u : PH} {pl pr : Option Addr} {l r : Rk.T Thing}
theorem size_spec (h : TreeAt u l pl) : Spec Try.prog 120 #[.pointer pl] u fun v u' => v = .int .i64 (l.size : Nat) ∧ u' = u := by
  refine f120_of ?_
  unfold f120_V
  cases l with
  | nil =>
    have h : pl = none := h
    subst h
    exact ⟨fun _ => ⟨rfl, rfl⟩, fun h => by simp at h⟩
  | node k v a b =>
    obtain ⟨b, ql, qr, rfl, hb, _, _⟩ := h
    exact ⟨fun h => by simp at h, fun _ => ⟨b, 0, rfl, _, by rw [PH.cell_eq hb]; rfl, rfl, rfl⟩⟩
theorem deep_spec (h : TreeAt u l pl) : Spec Try.prog 121 #[.pointer pl] u fun v u' => v = .int .i64 (l.deep : Nat) ∧ u' = u := by
  refine f121_of ?_
  unfold f121_V
  cases l with
  | nil =>
    have h : pl = none := h
    subst h
    exact ⟨fun _ => ⟨rfl, rfl⟩, fun h => by simp at h⟩
  | node k v a b =>
    obtain ⟨b, ql, qr, rfl, hb, _, _⟩ := h
    exact ⟨fun h => by simp at h, fun _ => ⟨b, 0, rfl, _, by rw [PH.cell_eq hb]; rfl, rfl, rfl⟩⟩
theorem made_spec (k : Int) (v : Thing) (hl : TreeAt u l pl) (hr : TreeAt u r pr) (hs : l.size + r.size ≤ 1000000) : Spec Try.prog 108 #[.int .i64 k, .agg #[.int .i64 v.val, .int .i64 v.end_], .pointer pl, .pointer pr] u fun x u' => ∃ p, x = .pointer p ∧ TreeAt u' (.node k v l r) p ∧ Ext u u' := by
  have h1 := l.deep_le
  have h2 := r.deep_le
  refine f108_of ?_
  unfold f108_V
  refine ⟨u, Ext.refl u, (size_spec hl).use ?_⟩
  rintro v u1 ⟨rfl, rfl⟩
  refine ⟨_, rfl, Ext.refl _, (size_spec hr).use ?_⟩
  rintro v u1 ⟨rfl, rfl⟩
  refine ⟨_, rfl, Ext.refl _, (deep_spec hl).use ?_⟩
  rintro v u1 ⟨rfl, rfl⟩
  refine ⟨_, rfl, Ext.refl _, (deep_spec hr).use ?_⟩
  rintro v u1 ⟨rfl, rfl⟩
  refine ⟨_, rfl, Ext.refl _, (sem_max _ _ _).use ?_⟩
  rintro v u1 ⟨rfl, rfl⟩
  refine ⟨_, rfl, Ext.refl _, Ext.refl _, fun B hB => ⟨_, rfl, ⟨B, pl, pr, rfl, ?_, hl.ext (Ext.add hB _), hr.ext (Ext.add hB _)⟩, Ext.add hB _⟩⟩
  rw [wrap_i64 (x := ((l.size : Nat) : Int) + ((r.size : Nat) : Int)) (by omega) (by omega), wrap_i64 (by omega) (by omega), wrap_i64 (by omega) (by omega), PH.add_eq]
  have e1 : ((l.size : Nat) : Int) + ((r.size : Nat) : Int) + 1 = ((l.size + r.size + 1 : Nat) : Int) := by omega
  have e2 : max ((l.deep : Nat) : Int) ((r.deep : Nat) : Int) + 1 = ((max l.deep r.deep + 1 : Nat) : Int) := by omega
  rw [e1, e2]
theorem leftUp_spec (k : Int) (v : Thing) (hl : TreeAt u l pl) (hr : TreeAt u r pr) (hs : l.size + r.size ≤ 1000000) (hd : r.deep + 1 < l.deep) : Spec Try.prog 122 #[.int .i64 k, .agg #[.int .i64 v.val, .int .i64 v.end_], .pointer pl, .pointer pr] u fun x u' => ∃ p, x = .pointer p ∧ TreeAt u' (Rk.leftUp k v l r) p ∧ Ext u u' := by
  refine f122_of ?_
  unfold f122_V
  cases l with
  | nil => simp [Rk.T.deep] at hd
  | node lk lv ll lr =>
    obtain ⟨b, qll, qlr, rfl, hb, hll, hlr⟩ := hl
    simp only [Rk.T.size] at hs
    refine ⟨b, 0, rfl, qlr, by rw [PH.cell_eq hb]; rfl, b, 0, rfl, qll, by rw [PH.cell_eq hb]; rfl, (deep_spec hll).use ?_⟩
    rintro x u1 ⟨rfl, rfl⟩
    refine ⟨_, rfl, (deep_spec hlr).use ?_⟩
    rintro x u1 ⟨rfl, rfl⟩
    refine ⟨_, rfl, fun hlt => ?_, fun hge => ?_⟩
    · have hlt := of_decide_eq_true hlt
      cases lr with
      | nil => simp [Rk.T.deep] at hlt; omega
      | node mk mv ml mr =>
        obtain ⟨c, qml, qmr, rfl, hc, hml, hmr⟩ := hlr
        simp only [Rk.T.size] at hs
        refine ⟨_, Ext.refl _, c, 0, rfl, mk, by rw [PH.cell_eq hc]; rfl, c, 0, rfl, _, _, PH.cells_of hc rfl, b, 0, rfl, lk, by rw [PH.cell_eq hb]; rfl, b, 0, rfl, _, _, PH.cells_of hb rfl, b, 0, rfl, qll, by rw [PH.cell_eq hb]; rfl, c, 0, rfl, qml, by rw [PH.cell_eq hc]; rfl, c, 0, rfl, qmr, by rw [PH.cell_eq hc]; rfl, (made_spec lk lv hll hml (by omega)).use ?_⟩
        rintro x u2 ⟨p1, rfl, ht1, e1⟩
        refine ⟨_, rfl, e1, (made_spec k v (hmr.ext e1) (hr.ext e1) (by omega)).use ?_⟩
        rintro x u3 ⟨p2, rfl, ht2, e2⟩
        refine ⟨_, rfl, e1.trans e2, (made_spec mk mv (ht1.ext e2) ht2 (by simp only [Rk.T.size]; omega)).use ?_⟩
        rintro x u4 ⟨p3, rfl, ht3, e3⟩
        refine ⟨_, rfl, (e1.trans e2).trans e3, _, rfl, ?_, (e1.trans e2).trans e3⟩
        rw [Rk.leftUp]; rw [if_pos (by omega)]; exact ht3
    · have hge := of_decide_eq_false hge
      refine ⟨_, Ext.refl _, b, 0, rfl, lk, by rw [PH.cell_eq hb]; rfl, b, 0, rfl, _, _, PH.cells_of hb rfl, b, 0, rfl, qll, by rw [PH.cell_eq hb]; rfl, b, 0, rfl, qlr, by rw [PH.cell_eq hb]; rfl, (made_spec k v hlr hr (by omega)).use ?_⟩
      rintro x u2 ⟨p1, rfl, ht1, e1⟩
      refine ⟨_, rfl, e1, (made_spec lk lv (hll.ext e1) ht1 (by simp only [Rk.T.size]; omega)).use ?_⟩
      rintro x u3 ⟨p2, rfl, ht2, e2⟩
      refine ⟨_, rfl, e1.trans e2, _, rfl, ?_, e1.trans e2⟩
      cases lr with
      | nil => exact ht2
      | node mk mv ml mr => rw [Rk.leftUp]; rw [if_neg (by omega)]; exact ht2
theorem rightUp_spec (k : Int) (v : Thing) (hl : TreeAt u l pl) (hr : TreeAt u r pr) (hs : l.size + r.size ≤ 1000000) (hd : l.deep + 1 < r.deep) : Spec Try.prog 123 #[.int .i64 k, .agg #[.int .i64 v.val, .int .i64 v.end_], .pointer pl, .pointer pr] u fun x u' => ∃ p, x = .pointer p ∧ TreeAt u' (Rk.rightUp k v l r) p ∧ Ext u u' := by
  refine f123_of ?_
  unfold f123_V
  cases r with
  | nil => simp [Rk.T.deep] at hd
  | node rk rv rl rr =>
    obtain ⟨b, qrl, qrr, rfl, hb, hrl, hrr⟩ := hr
    simp only [Rk.T.size] at hs
    refine ⟨b, 0, rfl, qrl, by rw [PH.cell_eq hb]; rfl, b, 0, rfl, qrr, by rw [PH.cell_eq hb]; rfl, (deep_spec hrr).use ?_⟩
    rintro x u1 ⟨rfl, rfl⟩
    refine ⟨_, rfl, (deep_spec hrl).use ?_⟩
    rintro x u1 ⟨rfl, rfl⟩
    refine ⟨_, rfl, fun hlt => ?_, fun hge => ?_⟩
    · have hlt := of_decide_eq_true hlt
      cases rl with
      | nil => simp [Rk.T.deep] at hlt; omega
      | node mk mv ml mr =>
        obtain ⟨c, qml, qmr, rfl, hc, hml, hmr⟩ := hrl
        simp only [Rk.T.size] at hs
        refine ⟨_, Ext.refl _, c, 0, rfl, mk, by rw [PH.cell_eq hc]; rfl, c, 0, rfl, _, _, PH.cells_of hc rfl, c, 0, rfl, qml, by rw [PH.cell_eq hc]; rfl, b, 0, rfl, rk, by rw [PH.cell_eq hb]; rfl, b, 0, rfl, _, _, PH.cells_of hb rfl, c, 0, rfl, qmr, by rw [PH.cell_eq hc]; rfl, b, 0, rfl, qrr, by rw [PH.cell_eq hb]; rfl, (made_spec k v hl hml (by omega)).use ?_⟩
        rintro x u2 ⟨p1, rfl, ht1, e1⟩
        refine ⟨_, rfl, e1, (made_spec rk rv (hmr.ext e1) (hrr.ext e1) (by omega)).use ?_⟩
        rintro x u3 ⟨p2, rfl, ht2, e2⟩
        refine ⟨_, rfl, e1.trans e2, (made_spec mk mv (ht1.ext e2) ht2 (by simp only [Rk.T.size]; omega)).use ?_⟩
        rintro x u4 ⟨p3, rfl, ht3, e3⟩
        refine ⟨_, rfl, (e1.trans e2).trans e3, _, rfl, ?_, (e1.trans e2).trans e3⟩
        rw [Rk.rightUp]; rw [if_pos (by omega)]; exact ht3
    · have hge := of_decide_eq_false hge
      refine ⟨_, Ext.refl _, b, 0, rfl, rk, by rw [PH.cell_eq hb]; rfl, b, 0, rfl, _, _, PH.cells_of hb rfl, b, 0, rfl, qrl, by rw [PH.cell_eq hb]; rfl, b, 0, rfl, qrr, by rw [PH.cell_eq hb]; rfl, (made_spec k v hl hrl (by omega)).use ?_⟩
      rintro x u2 ⟨p1, rfl, ht1, e1⟩
      refine ⟨_, rfl, e1, (made_spec rk rv ht1 (hrr.ext e1) (by simp only [Rk.T.size]; omega)).use ?_⟩
      rintro x u3 ⟨p2, rfl, ht2, e2⟩
      refine ⟨_, rfl, e1.trans e2, _, rfl, ?_, e1.trans e2⟩
      cases rl with
      | nil => exact ht2
      | node mk mv ml mr => rw [Rk.rightUp]; rw [if_neg (by omega)]; exact ht2
theorem joined_spec (k : Int) (v : Thing) (hl : TreeAt u l pl) (hr : TreeAt u r pr) (hs : l.size + r.size ≤ 1000000) : Spec Try.prog 109 #[.int .i64 k, .agg #[.int .i64 v.val, .int .i64 v.end_], .pointer pl, .pointer pr] u fun x u' => ∃ p, x = .pointer p ∧ TreeAt u' (Rk.joined k v l r) p ∧ Ext u u' := by
  have h1 := l.deep_le
  have h2 := r.deep_le
  refine f109_of ?_
  unfold f109_V
  refine (deep_spec hl).use ?_
  rintro x u1 ⟨rfl, rfl⟩
  refine ⟨_, rfl, (deep_spec hr).use ?_⟩
  rintro x u1 ⟨rfl, rfl⟩
  refine ⟨_, rfl, ?_⟩
  rw [wrap_i64 (by omega) (by omega)]
  refine ⟨fun ha => ?_, fun ha => ⟨fun hb => ?_, fun hb => ?_⟩⟩
  · have ha := of_decide_eq_true ha
    refine (leftUp_spec k v hl hr hs (by omega)).use ?_
    rintro x u2 ⟨p, rfl, ht, he⟩
    exact ⟨_, rfl, _, rfl, by rw [Rk.joined, if_pos (by omega)]; exact ht, he⟩
  · have ha := of_decide_eq_false ha
    have hb := of_decide_eq_true hb
    refine (rightUp_spec k v hl hr hs (by omega)).use ?_
    rintro x u2 ⟨p, rfl, ht, he⟩
    exact ⟨_, rfl, _, rfl, by rw [Rk.joined, if_neg (by omega), if_pos (by omega)]; exact ht, he⟩
  · have ha := of_decide_eq_false ha
    have hb := of_decide_eq_false hb
    refine (made_spec k v hl hr hs).use ?_
    rintro x u2 ⟨p, rfl, ht, he⟩
    exact ⟨_, rfl, _, rfl, by rw [Rk.joined, if_neg (by omega), if_neg (by omega)]; exact ht, he⟩
end
/-- a tree with its order -/
def At (u : PH) (t : Option Addr) (tr : Rk.T Thing) : Prop := ∃ (b : Nat) (root : Option Addr), t = some ⟨b, 0, none⟩ ∧ u b = some (.cells #[.func (.func 58) #[] #[], .pointer root] 103) ∧ TreeAt u tr root
theorem At.ext {u u' : PH} {t : Option Addr} {tr : Rk.T Thing} (he : Ext u u') (h : At u t tr) : At u' t tr := by
  obtain ⟨b, root, h1, h2, h3⟩ := h
  exact ⟨b, root, h1, he _ _ h2, h3.ext he⟩
theorem size_put (k : Int) (v : Thing) : ∀ t : Rk.T Thing, (Rk.put k v t).size ≤ t.size + 1
  | .nil => by simp [Rk.put, Rk.T.size]
  | .node x w l r => by
    have h1 := size_put k v l
    have h2 := size_put k v r
    simp only [Rk.put]
    split
    · rw [Rk.size_joined]; simp only [Rk.T.size]; omega
    · split
      · rw [Rk.size_joined]; simp only [Rk.T.size]; omega
      · simp only [Rk.T.size]; omega
theorem size_drop (k : Int) : ∀ t : Rk.T Thing, (Rk.drop k t).size ≤ t.size
  | .nil => by simp [Rk.drop]
  | .node x w l r => by
    have h1 := size_drop k l
    have h2 := size_drop k r
    simp only [Rk.drop]
    split
    · rw [Rk.size_joined]; simp only [Rk.T.size]; omega
    · split
      · rw [Rk.size_joined]; simp only [Rk.T.size]; omega
      · have := congrArg List.length (Rk.toL_both l r)
        simp only [Rk.T.toL_len, List.length_append] at this
        simp only [Rk.T.size]; omega
theorem entersCmp : entersB Try.prog 58 = true := by kernel_rfl
section
variable {u : PH} {t : Option Addr} {b : Nat} {root0 : Option Addr}
theorem put_spec (k : Int) (v : Thing) (hT : t = some ⟨b, 0, none⟩) : ∀ {tr : Rk.T Thing} {u : PH} {p : Option Addr}, u b = some (.cells #[.func (.func 58) #[] #[], .pointer root0] 103) → TreeAt u tr p → tr.size ≤ 900000 →
    Spec Try.prog 90 #[.pointer t, .pointer p, .int .i64 k, .agg #[.int .i64 v.val, .int .i64 v.end_]] u fun x u' => ∃ q, x = .pointer q ∧ TreeAt u' (Rk.put k v tr) q ∧ Ext u u' := by
  subst hT
  intro tr
  induction tr with
  | nil =>
    intro u p hb h hs
    have h : p = none := h
    subst h
    refine f90_of ?_
    unfold f90_V
    refine ⟨fun _ => ?_, fun h => by simp at h⟩
    refine (made_spec (l := .nil) (r := .nil) k v rfl rfl (by simp [Rk.T.size])).use ?_
    rintro x u1 ⟨q, rfl, h1, h2⟩
    exact ⟨_, rfl, _, rfl, h1, h2⟩
  | node x w l r ihl ihr =>
    intro u p hb h hs
    obtain ⟨c, ql, qr, rfl, hc, hl, hr⟩ := h
    simp only [Rk.T.size] at hs
    have s1 := size_put k v l
    have s2 := size_put k v r
    refine f90_of ?_
    unfold f90_V
    refine ⟨fun h => by simp at h, fun _ => ⟨b, 0, rfl, _, rfl, by rw [PH.cell_eq hb]; rfl, c, 0, rfl, x, by rw [PH.cell_eq hc]; rfl, .inl ⟨58, #[], rfl, entersCmp, (f58_spec k x u).use ?_⟩⟩⟩
    rintro z u1 ⟨n, rfl, hn, hn0, rfl⟩
    refine ⟨_, rfl, fun hlt => ?_, fun hge => ⟨fun hgt => ?_, fun heq => ?_⟩⟩
    · have hlt := hn.1 (of_decide_eq_true hlt)
      refine ⟨_, Ext.refl _, c, 0, rfl, x, by rw [PH.cell_eq hc]; rfl, c, 0, rfl, _, _, PH.cells_of hc rfl, c, 0, rfl, ql, by rw [PH.cell_eq hc]; rfl, c, 0, rfl, qr, by rw [PH.cell_eq hc]; rfl, (ihl hb hl (by omega)).use ?_⟩
      rintro z u2 ⟨p1, rfl, ht1, e1⟩
      refine ⟨_, rfl, e1, (joined_spec x w ht1 (hr.ext e1) (by omega)).use ?_⟩
      rintro z u3 ⟨p2, rfl, ht2, e2⟩
      refine ⟨_, rfl, e1.trans e2, _, rfl, ?_, e1.trans e2⟩
      rw [Rk.put, if_pos hlt]; exact ht2
    · have hn2 : ¬ n < 0 := of_decide_eq_false hge
      have hgt' : n > 0 := of_decide_eq_true hgt
      have h1 : ¬ k < x := fun h => hn2 (hn.2 h)
      have h2 : x < k := by have : ¬ k = x := fun h => by have := hn0.2 h; omega
                            omega
      refine ⟨_, Ext.refl _, c, 0, rfl, x, by rw [PH.cell_eq hc]; rfl, c, 0, rfl, _, _, PH.cells_of hc rfl, c, 0, rfl, ql, by rw [PH.cell_eq hc]; rfl, c, 0, rfl, qr, by rw [PH.cell_eq hc]; rfl, (ihr hb hr (by omega)).use ?_⟩
      rintro z u2 ⟨p1, rfl, ht1, e1⟩
      refine ⟨_, rfl, e1, (joined_spec x w (hl.ext e1) ht1 (by omega)).use ?_⟩
      rintro z u3 ⟨p2, rfl, ht2, e2⟩
      refine ⟨_, rfl, e1.trans e2, _, rfl, ?_, e1.trans e2⟩
      rw [Rk.put, if_neg h1, if_pos h2]; exact ht2
    · have hn2 : ¬ n < 0 := of_decide_eq_false hge
      have hn3 : ¬ n > 0 := of_decide_eq_false heq
      have h1 : k = x := hn0.1 (by omega)
      refine ⟨c, 0, rfl, ql, by rw [PH.cell_eq hc]; rfl, c, 0, rfl, qr, by rw [PH.cell_eq hc]; rfl, (made_spec k v hl hr (by omega)).use ?_⟩
      rintro z u2 ⟨p1, rfl, ht1, e1⟩
      refine ⟨_, rfl, _, rfl, ?_, e1⟩
      rw [Rk.put, if_neg (by omega), if_neg (by omega)]; exact ht1
theorem first_spec : ∀ {l r : Rk.T Thing} {k : Int} {v : Thing} {u : PH} {p : Option Addr}, TreeAt u (.node k v l r) p → l.size + r.size ≤ 900000 →
    Spec Try.prog 124 #[.pointer p] u fun x u' => ∃ q s, x = .tuple #[.pointer q, .pointer s] ∧ TreeAt u' (Rk.first k v l r).1 q ∧ NodeAt u' s (Rk.first k v l r).2.1 (Rk.first k v l r).2.2 ∧ Ext u u' := by
  intro l
  induction l with
  | nil =>
    intro r k v u p h hs
    obtain ⟨c, ql, qr, rfl, hc, hl, hr⟩ := h
    have hl : ql = none := hl
    subst hl
    refine f124_of ?_
    unfold f124_V
    refine ⟨c, 0, rfl, none, by rw [PH.cell_eq hc]; rfl, fun _ => ⟨c, 0, rfl, qr, by rw [PH.cell_eq hc]; rfl, _, _, rfl, hr, ⟨c, _, _, _, _, rfl, hc⟩, Ext.refl _⟩, fun h => by simp at h⟩
  | node lk lv ll lr ihl _ =>
    intro r k v u p h hs
    obtain ⟨c, ql, qr, rfl, hc, hl, hr⟩ := h
    have hl' := hl
    obtain ⟨d, _, _, rfl, _, _, _⟩ := hl'
    simp only [Rk.T.size] at hs
    refine f124_of ?_
    unfold f124_V
    refine ⟨c, 0, rfl, _, by rw [PH.cell_eq hc]; rfl, fun h => by simp at h, fun _ => ⟨c, 0, rfl, _, by rw [PH.cell_eq hc]; rfl, (ihl hl (by omega)).use ?_⟩⟩
    rintro z u1 ⟨q, s, rfl, ht, hn, e1⟩
    have hc1 := e1 _ _ hc
    have hsz : (Rk.first lk lv ll lr).1.size + 1 = ll.size + lr.size + 1 := by
      have := congrArg List.length (Rk.toL_first lk lv ll lr)
      simp only [Rk.T.toL_len, List.length_append, List.length_cons] at this
      omega
    refine ⟨_, _, rfl, c, 0, rfl, k, by rw [PH.cell_eq hc1]; rfl, c, 0, rfl, _, _, PH.cells_of hc1 rfl, c, 0, rfl, qr, by rw [PH.cell_eq hc1]; rfl, (joined_spec k v ht (hr.ext e1) (by omega)).use ?_⟩
    rintro z u2 ⟨p1, rfl, ht1, e2⟩
    obtain ⟨sb, s1, s2, s3, s4, hs1, hs2⟩ := hn
    exact ⟨_, rfl, _, _, rfl, ht1, ⟨sb, s1, s2, s3, s4, hs1, e2 _ _ hs2⟩, e1.trans e2⟩
theorem both_spec {l r : Rk.T Thing} {pl pr : Option Addr} (hl : TreeAt u l pl) (hr : TreeAt u r pr) (hs : l.size + r.size ≤ 900000) :
    Spec Try.prog 110 #[.pointer pl, .pointer pr] u fun x u' => ∃ q, x = .pointer q ∧ TreeAt u' (Rk.both l r) q ∧ Ext u u' := by
  refine f110_of ?_
  unfold f110_V
  cases l with
  | nil =>
    have hl : pl = none := hl
    subst hl
    exact ⟨fun _ => ⟨_, rfl, by simpa [Rk.both] using hr, Ext.refl _⟩, fun h => by simp at h⟩
  | node lk lv ll lr =>
    have hl' := hl
    obtain ⟨c, _, _, rfl, _, _, _⟩ := hl'
    refine ⟨fun h => by simp at h, fun _ => ?_⟩
    cases r with
    | nil =>
      have hr : pr = none := hr
      subst hr
      exact ⟨fun _ => ⟨_, rfl, by simpa [Rk.both] using hl, Ext.refl _⟩, fun h => by simp at h⟩
    | node rk rv rl rr =>
      have hr' := hr
      obtain ⟨d, _, _, rfl, _, _, _⟩ := hr'
      simp only [Rk.T.size] at hs
      refine ⟨fun h => by simp at h, fun _ => (first_spec hr (by omega)).use ?_⟩
      rintro z u1 ⟨q, s, rfl, ht, hn, e1⟩
      have hsz : (Rk.first rk rv rl rr).1.size + 1 = rl.size + rr.size + 1 := by
        have := congrArg List.length (Rk.toL_first rk rv rl rr)
        simp only [Rk.T.toL_len, List.length_append, List.length_cons] at this
        omega
      obtain ⟨sb, s1, s2, s3, s4, rfl, hs2⟩ := hn
      refine ⟨_, _, rfl, sb, 0, rfl, _, by rw [PH.cell_eq hs2]; rfl, sb, 0, rfl, _, _, PH.cells_of hs2 rfl, (joined_spec _ _ (hl.ext e1) ht (by simp only [Rk.T.size]; omega)).use ?_⟩
      rintro z u2 ⟨p1, rfl, ht1, e2⟩
      exact ⟨_, rfl, _, rfl, ht1, e1.trans e2⟩
theorem drop_spec (k : Int) (hT : t = some ⟨b, 0, none⟩) : ∀ {tr : Rk.T Thing} {u : PH} {p : Option Addr}, u b = some (.cells #[.func (.func 58) #[] #[], .pointer root0] 103) → TreeAt u tr p → tr.size ≤ 900000 →
    Spec Try.prog 91 #[.pointer t, .pointer p, .int .i64 k] u fun x u' => ∃ q, x = .pointer q ∧ TreeAt u' (Rk.drop k tr) q ∧ Ext u u' := by
  subst hT
  intro tr
  induction tr with
  | nil =>
    intro u p hb h hs
    have h : p = none := h
    subst h
    refine f91_of ?_
    unfold f91_V
    exact ⟨fun _ => ⟨_, rfl, rfl, Ext.refl _⟩, fun h => by simp at h⟩
  | node x w l r ihl ihr =>
    intro u p hb h hs
    obtain ⟨c, ql, qr, rfl, hc, hl, hr⟩ := h
    simp only [Rk.T.size] at hs
    have s1 := size_drop k l
    have s2 := size_drop k r
    refine f91_of ?_
    unfold f91_V
    refine ⟨fun h => by simp at h, fun _ => ⟨b, 0, rfl, _, rfl, by rw [PH.cell_eq hb]; rfl, c, 0, rfl, x, by rw [PH.cell_eq hc]; rfl, .inl ⟨58, #[], rfl, entersCmp, (f58_spec k x u).use ?_⟩⟩⟩
    rintro z u1 ⟨n, rfl, hn, hn0, rfl⟩
    refine ⟨_, rfl, fun hlt => ?_, fun hge => ⟨fun hgt => ?_, fun heq => ?_⟩⟩
    · have hlt := hn.1 (of_decide_eq_true hlt)
      refine ⟨_, Ext.refl _, c, 0, rfl, x, by rw [PH.cell_eq hc]; rfl, c, 0, rfl, _, _, PH.cells_of hc rfl, c, 0, rfl, ql, by rw [PH.cell_eq hc]; rfl, c, 0, rfl, qr, by rw [PH.cell_eq hc]; rfl, (ihl hb hl (by omega)).use ?_⟩
      rintro z u2 ⟨p1, rfl, ht1, e1⟩
      refine ⟨_, rfl, e1, (joined_spec x w ht1 (hr.ext e1) (by omega)).use ?_⟩
      rintro z u3 ⟨p2, rfl, ht2, e2⟩
      refine ⟨_, rfl, e1.trans e2, _, rfl, ?_, e1.trans e2⟩
      rw [Rk.drop, if_pos hlt]; exact ht2
    · have hn2 : ¬ n < 0 := of_decide_eq_false hge
      have hgt' : n > 0 := of_decide_eq_true hgt
      have h1 : ¬ k < x := fun h => hn2 (hn.2 h)
      have h2 : x < k := by have : ¬ k = x := fun h => by have := hn0.2 h; omega
                            omega
      refine ⟨_, Ext.refl _, c, 0, rfl, x, by rw [PH.cell_eq hc]; rfl, c, 0, rfl, _, _, PH.cells_of hc rfl, c, 0, rfl, ql, by rw [PH.cell_eq hc]; rfl, c, 0, rfl, qr, by rw [PH.cell_eq hc]; rfl, (ihr hb hr (by omega)).use ?_⟩
      rintro z u2 ⟨p1, rfl, ht1, e1⟩
      refine ⟨_, rfl, e1, (joined_spec x w (hl.ext e1) ht1 (by omega)).use ?_⟩
      rintro z u3 ⟨p2, rfl, ht2, e2⟩
      refine ⟨_, rfl, e1.trans e2, _, rfl, ?_, e1.trans e2⟩
      rw [Rk.drop, if_neg h1, if_pos h2]; exact ht2
    · have hn2 : ¬ n < 0 := of_decide_eq_false hge
      have hn3 : ¬ n > 0 := of_decide_eq_false heq
      have h1 : k = x := hn0.1 (by omega)
      refine ⟨c, 0, rfl, ql, by rw [PH.cell_eq hc]; rfl, c, 0, rfl, qr, by rw [PH.cell_eq hc]; rfl, (both_spec hl hr (by omega)).use ?_⟩
      rintro z u2 ⟨p1, rfl, ht1, e1⟩
      refine ⟨_, rfl, _, rfl, ?_, e1⟩
      rw [Rk.drop, if_neg (by omega), if_neg (by omega)]; exact ht1
end
section
variable {u : PH} {t : Option Addr} {tr : Rk.T Thing}
theorem Put_spec (k : Int) (v : Thing) (h : At u t tr) (hs : tr.size ≤ 900000) : Spec Try.prog 75 #[.pointer t, .int .i64 k, .agg #[.int .i64 v.val, .int .i64 v.end_]] u fun x u' => ∃ q, x = .pointer q ∧ At u' q (Rk.put k v tr) ∧ Ext u u' := by
  obtain ⟨b, root, rfl, hb, ht⟩ := h
  refine f75_of ?_
  unfold f75_V
  refine ⟨fun h => by simp at h, fun _ => ⟨_, Ext.refl _, b, 0, rfl, _, rfl, by rw [PH.cell_eq hb]; rfl, b, 0, rfl, root, by rw [PH.cell_eq hb]; rfl, (put_spec k v rfl hb ht hs).use ?_⟩⟩
  rintro z u1 ⟨q, rfl, h1, e1⟩
  exact ⟨_, rfl, e1, e1, fun B hB => ⟨_, rfl, ⟨B, q, rfl, PH.add_eq _ _ _, h1.ext (Ext.add hB _)⟩, e1.trans (Ext.add hB _)⟩⟩
theorem Drop_spec (k : Int) (h : At u t tr) (hs : tr.size ≤ 900000) : Spec Try.prog 76 #[.pointer t, .int .i64 k] u fun x u' => ∃ q, x = .pointer q ∧ At u' q (Rk.drop k tr) ∧ Ext u u' := by
  obtain ⟨b, root, rfl, hb, ht⟩ := h
  refine f76_of ?_
  unfold f76_V
  refine ⟨fun h => by simp at h, fun _ => ⟨_, Ext.refl _, b, 0, rfl, _, rfl, by rw [PH.cell_eq hb]; rfl, b, 0, rfl, root, by rw [PH.cell_eq hb]; rfl, (drop_spec k rfl hb ht hs).use ?_⟩⟩
  rintro z u1 ⟨q, rfl, h1, e1⟩
  exact ⟨_, rfl, e1, e1, fun B hB => ⟨_, rfl, ⟨B, q, rfl, PH.add_eq _ _ _, h1.ext (Ext.add hB _)⟩, e1.trans (Ext.add hB _)⟩⟩
theorem New_spec (u : PH) : Spec Try.prog 77 #[.func (.func 58) #[] #[]] u fun x u' => ∃ q, x = .pointer q ∧ At u' q .nil ∧ Ext u u' := by
  refine f77_of (horder := rfl) ?_
  unfold f77_V
  refine (SemSpec.run (v := .bool false) (fun w => by kernel_rfl) u).use ?_
  rintro v u' ⟨rfl, rfl⟩
  exact ⟨_, rfl, fun h => by simp at h, fun _ B hB => ⟨_, rfl, ⟨B, none, rfl, PH.add_eq _ _ _, rfl⟩, Ext.add hB _⟩⟩
/-- what is found -/
def Found (u : PH) (k : Int) (p : Option Addr) : Option Thing → Prop
  | none => p = none
  | some v => NodeAt u p k v
def nodeN (u : PH) : Option Addr → Nat
  | none => 0
  | some a => match PH.cell u a.block 5 with
    | some (.int _ n) => n.toNat
    | _ => 0
theorem nodeN_eq {s : Rk.T Thing} {p : Option Addr} (h : TreeAt u s p) : nodeN u p = s.size := by
  cases s with
  | nil => have h : p = none := h; subst h; rfl
  | node x w l r =>
    obtain ⟨c, ql, qr, rfl, hc, _, _⟩ := h
    simp only [nodeN, PH.cell_eq hc, Rk.T.size]
    rfl
theorem find_spec (k : Int) (h : At u t tr) (ho : Rk.Ord tr.toL) (hs : tr.size ≤ 1000000) : Spec Try.prog 119 #[.pointer t, .int .i64 k] u fun x u' => u' = u ∧ ∃ p, x = .tuple #[.pointer p, .int .i64 (Rk.rnk k tr.toL : Nat)] ∧ Found u k p (Rk.getL k tr.toL) := by
  obtain ⟨b, root, rfl, hb, ht⟩ := h
  refine f119_of ?_
  unfold f119_V
  refine ⟨fun h => by simp at h, fun _ => ⟨b, 0, rfl, root, by rw [PH.cell_eq hb]; rfl, ?_⟩⟩
  refine ⟨fun _ _ n p u' => u' = u ∧ ∃ (s : Rk.T Thing) (m : Nat), n = m ∧ TreeAt u s p ∧ Rk.Ord s.toL ∧ s.size + m ≤ tr.size ∧ m + Rk.rnk k s.toL = Rk.rnk k tr.toL ∧ Rk.getL k s.toL = Rk.getL k tr.toL,
    fun _ _ _ p u' => nodeN u' p, ⟨rfl, tr, 0, rfl, ht, ho, by omega, by omega, rfl⟩, ?_⟩
  rintro _ _ n p u1 ⟨rfl, s, m, rfl, hst, hso, hsm, hsr, hsg⟩
  cases s with
  | nil =>
    have hst : p = none := hst
    subst hst
    refine ⟨fun h => by simp at h, fun _ => ⟨rfl, none, ?_, ?_⟩⟩
    · rw [← hsr]; rfl
    · rw [← hsg]; exact rfl
  | node x w l r =>
    have hM := nodeN_eq hst
    obtain ⟨c, ql, qr, rfl, hc, hl, hr⟩ := hst
    have hMl := nodeN_eq hl
    have hMr := nodeN_eq hr
    have hso' : Rk.Ord (l.toL ++ (x, w) :: r.toL) := hso
    have hs3 := Rk.Ord.split hso'
    have hrk := Rk.rnk_node (k := k) hso'
    have hgt := Rk.getL_node (k := k) hso'
    have hll := Rk.T.toL_len l
    have hsr : m + Rk.rnk k (l.toL ++ (x, w) :: r.toL) = Rk.rnk k tr.toL := hsr
    have hsg : Rk.getL k (l.toL ++ (x, w) :: r.toL) = Rk.getL k tr.toL := hsg
    simp only [Rk.T.size] at hsm hM
    refine ⟨fun _ => ⟨b, 0, rfl, _, rfl, by rw [PH.cell_eq hb]; rfl, c, 0, rfl, x, by rw [PH.cell_eq hc]; rfl, .inl ⟨58, #[], rfl, entersCmp, (f58_spec k x _).use ?_⟩⟩, fun h => by simp at h⟩
    rintro z u2 ⟨n, rfl, hn, hn0, rfl⟩
    refine ⟨_, rfl, fun heq => ?_, fun hne => ⟨fun hlt => ?_, fun hge => ?_⟩⟩
    · have heq : k = x := hn0.1 (by simpa using heq)
      refine ⟨c, 0, rfl, ql, by rw [PH.cell_eq hc]; rfl, (size_spec hl).use ?_⟩
      rintro z u3 ⟨rfl, rfl⟩
      rw [if_neg (by omega), if_neg (by omega)] at hrk hgt
      refine ⟨_, rfl, ?_⟩
      rw [wrap_i64 (by omega) (by omega)]
      refine ⟨rfl, some ⟨c, 0, none⟩, ?_, ?_⟩
      rotate_left
      · rw [← hsg, hgt, heq]; exact ⟨c, _, _, _, _, rfl, hc⟩
      · rw [← hsr, hrk, hll]
        have : ((m : Nat) : Int) + ((l.size : Nat) : Int) = ((m + l.size : Nat) : Int) := by omega
        rw [this]
    · have hlt := hn.1 (of_decide_eq_true hlt)
      rw [if_pos hlt] at hrk hgt
      refine ⟨c, 0, rfl, ql, by rw [PH.cell_eq hc]; rfl, ⟨rfl, l, m, rfl, hl, hs3.1, by omega, by omega, by rw [← hsg, hgt]⟩, by show nodeN _ _ < nodeN _ _; omega⟩
    · have hge : ¬ n < 0 := of_decide_eq_false hge
      have hne : ¬ n = 0 := by simpa using hne
      have h1 : ¬ k < x := fun h => hge (hn.2 h)
      have h2 : ¬ k = x := fun h => hne (hn0.2 h)
      rw [if_neg h1, if_pos (by omega)] at hrk hgt
      refine ⟨_, Ext.refl _, c, 0, rfl, ql, by rw [PH.cell_eq hc]; rfl, c, 0, rfl, qr, by rw [PH.cell_eq hc]; rfl, (size_spec hl).use ?_⟩
      rintro z u3 ⟨rfl, rfl⟩
      refine ⟨_, rfl, Ext.refl _, ?_⟩
      rw [wrap_i64 (x := ((m : Nat) : Int) + ((l.size : Nat) : Int)) (by omega) (by omega), wrap_i64 (by omega) (by omega)]
      refine ⟨⟨rfl, r, m + l.size + 1, by omega, hr, hs3.2.1, by omega, by omega, by rw [← hsg, hgt]⟩, by show nodeN _ _ < nodeN _ _; omega⟩
/-- what 'Get' answers -/
def Got : Option Thing → Value
  | none => .tuple #[.agg #[.int .i64 0, .int .i64 0], .bool false]
  | some v => .tuple #[.agg #[.int .i64 v.val, .int .i64 v.end_], .bool true]
theorem Get_spec (k : Int) (h : At u t tr) (ho : Rk.Ord tr.toL) (hs : tr.size ≤ 1000000) : Spec Try.prog 106 #[.pointer t, .int .i64 k] u fun x u' => u' = u ∧ x = Got (Rk.getL k tr.toL) := by
  refine f106_of ?_
  unfold f106_V
  refine (find_spec k h ho hs).use ?_
  rintro z u1 ⟨rfl, p, rfl, hF⟩
  refine ⟨_, _, rfl, fun h => ?_, fun h => ?_⟩
  · cases hg : Rk.getL k tr.toL with
    | none => exact ⟨rfl, rfl⟩
    | some v =>
      rw [hg] at hF
      obtain ⟨c, _, _, _, _, rfl, _⟩ := hF
      simp at h
  · cases hg : Rk.getL k tr.toL with
    | none =>
      rw [hg] at hF
      have hF : p = none := hF
      subst hF
      simp at h
    | some v =>
      rw [hg] at hF
      obtain ⟨c, _, _, _, _, rfl, hc⟩ := hF
      exact ⟨c, 0, rfl, _, _, PH.cells_of hc rfl, rfl, rfl⟩

end
end RkA
end Go.Proofs.Ytlmnfhhmgfnbpaa.E
