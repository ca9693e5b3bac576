/- Trees as data: nodes, the tree over a row; how they lie in memory. No program in sight. -/
import Derived.Test.YtoocebghlchcoaaGreatLib
import Derived.Test.YtoocebghlchcoaaGreatExt
namespace Go.Ov
open Go.RowKit

inductive NodeM where
  | mk (leaf : List Ext) (first : List Int) (parts : List NodeM)
def NodeM.nil : NodeM := .mk [] [] []
instance : Inhabited NodeM := ⟨.nil⟩
def NodeM.leaf : NodeM → List Ext | .mk l _ _ => l
def NodeM.firsts : NodeM → List Int | .mk _ f _ => f
def NodeM.parts : NodeM → List NodeM | .mk _ _ p => p
/-- the sample at which a node begins -/
def NodeM.first1 : NodeM → Int
  | .mk [] _ [] => 0
  | .mk (e :: _) _ [] => e.at_
  | .mk _ _ (p :: _) => p.first1
def NodeM.hasFirst : NodeM → Bool
  | .mk l _ [] => !l.isEmpty
  | .mk _ _ (p :: _) => p.hasFirst
mutual
def NodeM.count : NodeM → Nat
  | .mk _ _ p => 1 + countL p
def countL : List NodeM → Nat
  | [] => 0
  | n :: l => n.count + countL l
end
theorem count_mk (l : List Ext) (f : List Int) (p : List NodeM) : (NodeM.mk l f p).count = 1 + countL p := by simp [NodeM.count]
theorem first1_cons (l : List Ext) (f : List Int) (x : NodeM) (p : List NodeM) : (NodeM.mk l f (x :: p)).first1 = x.first1 := by cases l <;> simp [NodeM.first1]
theorem countL_cons (x : NodeM) (p : List NodeM) : countL (x :: p) = x.count + countL p := by simp [countL]
theorem count_mem : ∀ (l : List NodeM) (i : Nat) (h : i < l.length), l[i].count ≤ countL l
  | n :: l, 0, _ => by simp [countL]
  | n :: l, i + 1, h => by
    have := count_mem l i (by simpa using h)
    simp [countL]; omega
theorem countL_take : ∀ (l : List NodeM) (k : Nat) (h : k < l.length), countL (l.take (k + 1)) = countL (l.take k) + l[k].count
  | n :: l, 0, _ => by simp [countL]
  | n :: l, k + 1, h => by
    have := countL_take l k (by simpa using h)
    simp [countL, this]; omega
theorem countL_append : ∀ (a b : List NodeM), countL (a ++ b) = countL a + countL b
  | [], b => by simp [countL]
  | n :: a, b => by simp [countL, countL_append a b]; omega
theorem countL_le (l : List NodeM) (k : Nat) : countL (l.take k) ≤ countL l := by
  have := countL_append (l.take k) (l.drop k)
  rw [List.take_append_drop] at this; omega

/-- cut into groups -/
def preM (n g i : Nat) : Nat := i * (n / g) + min i (n % g)
def sizeM (n g i : Nat) : Nat := n / g + if i < n % g then 1 else 0
def grp (n : Nat) : Nat := (n + 7) / 8
theorem preM_zero (n g : Nat) : preM n g 0 = 0 := by simp [preM]
theorem preM_succ (n g i : Nat) : preM n g (i + 1) = preM n g i + sizeM n g i := by
  unfold preM sizeM
  rw [Nat.succ_mul]
  split <;> omega
theorem preM_all (n g : Nat) (hg : 0 < g) : preM n g g = n := by
  unfold preM
  have := Nat.mod_lt n hg
  have := Nat.div_add_mod n g
  rw [Nat.min_eq_right (by omega)]; exact this
theorem preM_mono (n g i j : Nat) (h : i ≤ j) : preM n g i ≤ preM n g j := by
  unfold preM
  have := Nat.mul_le_mul_right (n / g) h
  omega
theorem preM_le (n g i : Nat) (h : i ≤ g) : preM n g i ≤ n := by
  rcases Nat.eq_zero_or_pos g with rfl | hg
  · have : i = 0 := by omega
    subst this; rw [preM_zero]; omega
  · have := preM_mono n g i g h
    rw [preM_all n g hg] at this; exact this
theorem preM_size (n g i : Nat) (h : i < g) : preM n g i + sizeM n g i ≤ n := by
  rw [← preM_succ]; exact preM_le n g (i + 1) h
theorem size_pos (n g i : Nat) (hg : 0 < g) (h : g ≤ n) : 1 ≤ sizeM n g i := by
  have : 1 ≤ n / g := by rw [Nat.le_div_iff_mul_le hg]; omega
  unfold sizeM; omega
theorem size_le (n g i : Nat) (hg : 0 < g) (h : n ≤ g * 8) : sizeM n g i ≤ 8 := by
  unfold sizeM
  have h1 := Nat.div_add_mod n g
  have h2 := Nat.mod_lt n hg
  by_cases h8 : n / g < 8
  · split <;> omega
  · have : g * 8 ≤ g * (n / g) := Nat.mul_le_mul_left g (by omega)
    have h3 : n / g ≤ 8 := by
      by_cases h9 : n / g ≤ 8
      · exact h9
      · have : g * 9 ≤ g * (n / g) := Nat.mul_le_mul_left g (by omega)
        omega
    have : n % g = 0 := by omega
    rw [this, if_neg (by omega)]; omega
def partM {α : Type} (l : List α) (g i : Nat) : List α := (l.drop (preM l.length g i)).take (sizeM l.length g i)
theorem partM_len {α : Type} (l : List α) (g i : Nat) (h : i < g) : (partM l g i).length = sizeM l.length g i := by
  have := preM_size l.length g i h
  unfold partM; rw [List.length_take, List.length_drop]; omega
theorem grp_le (n : Nat) (h : 1 < n) : grp n < n := by unfold grp; omega
def leafM (l : List Ext) (i : Nat) : NodeM := .mk (partM l (grp l.length) i) [] []
def leavesM (l : List Ext) : List NodeM := (List.range (grp l.length)).map (leafM l)
def nodeM (r : List NodeM) (i : Nat) : NodeM := .mk [] ((partM r (grp r.length) i).map NodeM.first1) (partM r (grp r.length) i)
def upM (r : List NodeM) : List NodeM := (List.range (grp r.length)).map (nodeM r)
theorem upM_len (r : List NodeM) : (upM r).length = grp r.length := by simp [upM]
theorem leavesM_len (l : List Ext) : (leavesM l).length = grp l.length := by simp [leavesM]
def topM (r : List NodeM) : NodeM := if _h : 1 < r.length then topM (upM r) else r.headD .nil
  termination_by r.length
  decreasing_by rw [upM_len]; exact grp_le _ _h
def madeM (l : List Ext) : NodeM := topM (leavesM l)
theorem topM_up (r : List NodeM) (h : 1 < r.length) : topM r = topM (upM r) := by
  conv => lhs; unfold topM
  rw [dif_pos h]
theorem topM_one (r : List NodeM) (h : ¬ 1 < r.length) : topM r = r.headD .nil := by
  unfold topM
  rw [dif_neg h]

theorem part_first (r : List NodeM) (g i : Nat) (hi : i < g) (hg : g ≤ r.length) (h : ∀ x ∈ r, x.hasFirst = true) :
    (∀ x ∈ partM r g i, x.hasFirst = true) ∧ ∃ x p, partM r g i = x :: p := by
  constructor
  · intro x hx
    exact h x (List.mem_of_mem_drop (List.mem_of_mem_take hx))
  · have h1 := partM_len r g i hi
    have h2 := size_pos r.length g i (by omega) hg
    cases e : partM r g i with
    | nil => rw [e] at h1; simp at h1; omega
    | cons x p => exact ⟨x, p, rfl⟩
theorem leaves_first (l : List Ext) : ∀ x ∈ leavesM l, x.hasFirst = true := by
  intro x hx
  unfold leavesM at hx
  obtain ⟨i, hi, rfl⟩ := List.mem_map.1 hx
  have hi' : i < grp l.length := by simpa using hi
  have h1 := partM_len l (grp l.length) i hi'
  have h2 := size_pos l.length (grp l.length) i (by omega) (by unfold grp at *; omega)
  unfold leafM NodeM.hasFirst
  cases e : partM l (grp l.length) i with
  | nil => rw [e] at h1; simp at h1; omega
  | cons x p => rfl
theorem up_first (r : List NodeM) (h : ∀ x ∈ r, x.hasFirst = true) : ∀ x ∈ upM r, x.hasFirst = true := by
  intro x hx
  unfold upM at hx
  obtain ⟨i, hi, rfl⟩ := List.mem_map.1 hx
  have hi' : i < grp r.length := by simpa using hi
  obtain ⟨h1, y, p, e⟩ := part_first r (grp r.length) i hi' (by unfold grp at *; omega) h
  unfold nodeM
  rw [e]
  unfold NodeM.hasFirst
  exact h1 y (by rw [e]; simp)

/-- how a node lies: three slices' heads -/
structure NH where
  a : Head
  b : Head
  c : Head
def NH.v (h : NH) : Value := .agg #[h.a.v, h.b.v, h.c.v]
def nodeE : Enc NH := ⟨3, fun n => [n.a.v, n.b.v, n.c.v], fun _ => rfl, fun x u h => by simp at h; rcases h with rfl | rfl | rfl <;> rfl⟩
inductive NodeR (w : World) : NodeM → NH → Prop
  | mk (l : List Ext) (f : List Int) (p : List NodeM) (a b c : Head) (hs : List NH) : extE.Is w a.v l → intE.Is w b.v f → nodeE.Is w c.v hs → hs.length = p.length →
      (∀ (i : Nat) (x : NodeM) (h : NH), p[i]? = some x → hs[i]? = some h → NodeR w x h) → NodeR w (.mk l f p) ⟨a, b, c⟩
def NRows (w : World) (hs : List NH) (ns : List NodeM) : Prop := hs.length = ns.length ∧ ∀ (i : Nat) (x : NodeM) (h : NH), ns[i]? = some x → hs[i]? = some h → NodeR w x h
theorem NodeR.bl {w w' : World} {n : NodeM} {h : NH} (hr : NodeR w n h) (hb : Bl w w') : NodeR w' n h := by
  induction hr with
  | mk l f p a b c hs h1 h2 h3 h4 _ ih => exact .mk l f p a b c hs (h1.bl hb) (h2.bl hb) (h3.bl hb) h4 ih
theorem NodeR.inv {w : World} {l : List Ext} {f : List Int} {p : List NodeM} {h : NH} (hr : NodeR w (.mk l f p) h) :
    extE.Is w h.a.v l ∧ intE.Is w h.b.v f ∧ ∃ hs, nodeE.Is w h.c.v hs ∧ NRows w hs p := by
  cases hr with
  | mk _ _ _ a b c hs h1 h2 h3 h4 h5 => exact ⟨h1, h2, hs, h3, h4, h5⟩
theorem NodeR.mk' {w : World} {l : List Ext} {f : List Int} {p : List NodeM} {h : NH} {hs : List NH} (h1 : extE.Is w h.a.v l) (h2 : intE.Is w h.b.v f) (h3 : nodeE.Is w h.c.v hs) (h4 : NRows w hs p) : NodeR w (.mk l f p) h := by
  obtain ⟨a, b, c⟩ := h
  exact .mk l f p a b c hs h1 h2 h3 h4.1 h4.2
theorem NRows.bl {w w' : World} {hs : List NH} {ns : List NodeM} (h : NRows w hs ns) (hb : Bl w w') : NRows w' hs ns := ⟨h.1, fun i x y hx hy => (h.2 i x y hx hy).bl hb⟩
theorem NRows.nil (w : World) : NRows w [] [] := ⟨rfl, fun i x h hx => by simp at hx⟩
theorem NRows.snoc {w : World} {hs : List NH} {ns : List NodeM} {h : NH} {n : NodeM} (hr : NRows w hs ns) (hn : NodeR w n h) : NRows w (hs ++ [h]) (ns ++ [n]) := by
  refine ⟨by simp [hr.1], fun i x y hx hy => ?_⟩
  by_cases hi : i < ns.length
  · rw [List.getElem?_append_left hi] at hx
    rw [List.getElem?_append_left (by rw [hr.1]; exact hi)] at hy
    exact hr.2 i x y hx hy
  · have hl := hr.1
    rw [List.getElem?_append_right (by omega)] at hx
    rw [List.getElem?_append_right (by omega), hl] at hy
    obtain ⟨hx1, hx2⟩ := List.getElem?_eq_some_iff.1 hx
    obtain ⟨hy1, hy2⟩ := List.getElem?_eq_some_iff.1 hy
    have hz : i - ns.length = 0 := by simp at hx1; omega
    simp [hz] at hx2 hy2
    subst hx2; subst hy2; exact hn
theorem NRows.drop {w : World} {hs : List NH} {ns : List NodeM} (hr : NRows w hs ns) (k : Nat) : NRows w (hs.drop k) (ns.drop k) :=
  ⟨by simp [hr.1], fun i x y hx hy => hr.2 (k + i) x y (by rw [List.getElem?_drop] at hx; exact hx) (by rw [List.getElem?_drop] at hy; exact hy)⟩
theorem NRows.take {w : World} {hs : List NH} {ns : List NodeM} (hr : NRows w hs ns) (k : Nat) : NRows w (hs.take k) (ns.take k) := by
  refine ⟨by simp [hr.1], fun i x y hx hy => ?_⟩
  rw [List.getElem?_take] at hx hy
  split at hx
  · rename_i hi
    rw [if_pos hi] at hy
    exact hr.2 i x y hx hy
  · cases hx
theorem NRows.at {w : World} {hs : List NH} {ns : List NodeM} (hr : NRows w hs ns) (k : Nat) (h : k < ns.length) : ∃ h' : k < hs.length, NodeR w ns[k] hs[k] :=
  ⟨by rw [hr.1]; exact h, hr.2 k _ _ (List.getElem?_eq_getElem h) (List.getElem?_eq_getElem _)⟩

theorem node_at {w : World} {A : Option Addr} {xs : List NH} (h : nodeE.At w A xs) (k : Nat) (hk : k < xs.length) :
    ∃ ad, A = some ad ∧ w.cell? (ad.add (k * 3)) = some xs[k].a.v ∧ w.cell? ⟨(ad.add (k * 3)).block, (ad.add (k * 3)).off + 1, none⟩ = some xs[k].b.v ∧
      w.cell? ⟨(ad.add (k * 3)).block, (ad.add (k * 3)).off + 2, none⟩ = some xs[k].c.v := by
  obtain ⟨ad, e, hc⟩ := h k _ (List.getElem?_eq_getElem hk)
  refine ⟨ad, e, ?_, ?_, ?_⟩
  · exact hc 0 _ rfl
  · rw [← add_at _ _ 1 (by decide)]; exact hc 1 _ rfl
  · rw [← add_at _ _ 2 (by decide)]; exact hc 2 _ rfl

theorem add0 (ad : Addr) : ad.add 0 = ad := by unfold Addr.add; simp
theorem ext_at0 {w : World} {A : Option Addr} {xs : List Ext} (h : extE.At w A xs) (hk : 0 < xs.length) : ∃ ad, A = some ad ∧ w.cell? ad = some (.int .i64 xs[0].at_) := by
  obtain ⟨ad, e, hc, _⟩ := ext_at h 0 hk
  rw [Nat.zero_mul, add0] at hc
  exact ⟨ad, e, hc⟩
theorem node_at0 {w : World} {A : Option Addr} {xs : List NH} (h : nodeE.At w A xs) (hk : 0 < xs.length) :
    ∃ ad, A = some ad ∧ w.cell? ad = some xs[0].a.v ∧ w.cell? ⟨ad.block, ad.off + 1, none⟩ = some xs[0].b.v ∧ w.cell? ⟨ad.block, ad.off + 2, none⟩ = some xs[0].c.v := by
  obtain ⟨ad, e, hc⟩ := node_at h 0 hk
  rw [Nat.zero_mul, add0] at hc
  exact ⟨ad, e, hc⟩

structure TreeM where
  row : List Ext
  top : NodeM
def treeM (l : List Ext) : TreeM := ⟨l, madeM l⟩
def TreeIs (w : World) (v : Value) (t : TreeM) : Prop := ∃ (b : Nat) (u : Head) (h : NH), v = .pointer (some ⟨b, 0, none⟩) ∧ w.cell? ⟨b, 0, none⟩ = some u.v ∧ w.cell? ⟨b, 1, none⟩ = some h.a.v ∧
  w.cell? ⟨b, 2, none⟩ = some h.b.v ∧ w.cell? ⟨b, 3, none⟩ = some h.c.v ∧ extE.Is w u.v t.row ∧ NodeR w t.top h
theorem TreeIs.bl {w w' : World} {v : Value} {t : TreeM} (h : TreeIs w v t) (hb : Bl w w') : TreeIs w' v t := by
  obtain ⟨b, u, n, e, h0, h1, h2, h3, h4, h5⟩ := h
  exact ⟨b, u, n, e, hb.cell h0, hb.cell h1, hb.cell h2, hb.cell h3, h4.bl hb, h5.bl hb⟩
end Go.Ov
