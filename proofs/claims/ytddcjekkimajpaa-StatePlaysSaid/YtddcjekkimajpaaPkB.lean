/- Several texts joined (see each one's head). -/
import Derived.Test.YtddcjekkimajpaaPkA
import Derived.Deep.RegionHeld3
import Derived.IntWalk
import Derived.ArgAppend
import Derived.Deep.AppendLies
/- Rows of extents, sample by sample: cut, shifted, spliced rows. No program in sight. -/
namespace Go.Ov
open Go.RowKit

def spotE (e : Ext) : List (Int × Int) := (List.range e.take.toNat).map fun k => (e.sector, e.skip + (k : Nat))
def spotsM (l : List Ext) : List (Int × Int) := l.flatMap spotE

theorem range_cut {β : Type} (f : Nat → β) (n p q : Nat) : (((List.range n).map f).drop p).take q = (List.range (min (n - p) q)).map fun k => f (p + k) := by
  apply List.ext_getElem
  · simp; omega
  · intro i h1 h2
    simp at h1 h2 ⊢

/-- what a valid row's first extent tells -/
theorem valid_cons {a : Int} {e : Ext} {l : List Ext} (h : validFrom a (e :: l) = true) :
    e.at_ = a ∧ 1 ≤ e.sector ∧ e.sector < 4096 ∧ e.count ≤ 64 ∧ 0 ≤ e.skip ∧ e.skip < e.count ∧ 1 ≤ e.take ∧ e.take ≤ e.count - e.skip ∧ a + e.take ≤ 1000 ∧ validFrom (a + e.take) l = true := by
  simp only [validFrom, oneB, Bool.and_eq_true, decide_eq_true_eq, beq_iff_eq] at h
  obtain ⟨⟨⟨h1, h2⟩, h3⟩, h4⟩ := h
  exact ⟨h2, h1.1.1.1.1.1.1, h1.1.1.1.1.1.2, h1.1.1.1.1.2, h1.1.1.1.2, h1.1.1.2, h1.1.2, h1.2, by omega, h4⟩
theorem valid_mk {a : Int} {e : Ext} {l : List Ext} (h0 : e.at_ = a) (h1 : 1 ≤ e.sector) (h2 : e.sector < 4096) (h3 : e.count ≤ 64) (h4 : 0 ≤ e.skip) (h5 : e.skip < e.count) (h6 : 1 ≤ e.take) (h7 : e.take ≤ e.count - e.skip)
    (h8 : a + e.take ≤ 1000) (h9 : validFrom (a + e.take) l = true) : validFrom a (e :: l) = true := by
  simp only [validFrom, oneB, h9, Bool.and_true, Bool.and_eq_true, decide_eq_true_eq, beq_iff_eq]
  exact ⟨⟨⟨⟨⟨⟨⟨⟨h1, h2⟩, h3⟩, h4⟩, h5⟩, h6⟩, h7⟩, h0⟩, by omega⟩

theorem endM_cons (e : Ext) (l : List Ext) : endM (e :: l) = e.take + endM l := rfl
theorem endM_append (l m : List Ext) : endM (l ++ m) = endM l + endM m := by unfold endM; rw [List.map_append, List.sum_append]
theorem spotsM_append (l m : List Ext) : spotsM (l ++ m) = spotsM l ++ spotsM m := by unfold spotsM; rw [List.flatMap_append]
theorem spotsM_cons (e : Ext) (l : List Ext) : spotsM (e :: l) = spotE e ++ spotsM l := by unfold spotsM; rw [List.flatMap_cons]
theorem spotE_len (e : Ext) : (spotE e).length = e.take.toNat := by simp [spotE]
theorem spotsM_len : ∀ (l : List Ext) (a : Int), validFrom a l = true → ((spotsM l).length : Int) = endM l
  | [], _, _ => rfl
  | e :: l, a, h => by
    obtain ⟨_, _, _, _, _, _, h6, _, _, h9⟩ := valid_cons h
    have := spotsM_len l _ h9
    rw [spotsM_cons, List.length_append, spotE_len, endM_cons]; omega
theorem valid_append : ∀ (l m : List Ext) (a : Int), validFrom a (l ++ m) = (validFrom a l && validFrom (a + endM l) m)
  | [], m, a => by simp [validFrom, endM]
  | e :: l, m, a => by
    rw [List.cons_append, validFrom, validFrom, valid_append l m, endM_cons, Int.add_assoc]
    simp only [Bool.and_assoc]
theorem valid_bd (l : List Ext) (a : Int) (ha : a ≤ 1000) (h : validFrom a l = true) : 0 ≤ endM l ∧ a + endM l ≤ 1000 := by
  have := validFrom_bd l a ha h; omega

/-- no wrap in a shift -/
theorem shift_valid : ∀ (l : List Ext) (a b : Int), 0 ≤ a + b → a + b + endM l ≤ 1000 → 0 ≤ a → a ≤ 1000 → validFrom a l = true → validFrom (a + b) (shiftM b l) = true
  | [], _, _, _, _, _, _, _ => rfl
  | e :: l, a, b, h0, h1, ha, ha', hv => by
    obtain ⟨e0, e1, e2, e3, e4, e5, e6, e7, e8, e9⟩ := valid_cons hv
    rw [endM_cons] at h1
    have hb := valid_bd l _ e8 e9
    have ih := shift_valid l (a + e.take) b (by omega) (by omega) (by omega) e8 e9
    have hw : wrap64 (e.at_ + b) = a + b := by rw [e0]; exact wrap_id (by omega) (by omega)
    show validFrom (a + b) (shiftE b e :: shiftM b l) = true
    refine valid_mk (e := shiftE b e) hw e1 e2 e3 e4 e5 e6 e7 ?_ ?_
    · show a + b + e.take ≤ 1000; omega
    · show validFrom (a + b + e.take) _ = true
      rw [show a + b + e.take = a + e.take + b by omega]; exact ih
theorem spotsM_shift (b : Int) (l : List Ext) : spotsM (shiftM b l) = spotsM l := by
  unfold spotsM shiftM; rw [List.flatMap_map]; rfl
theorem endM_shift (b : Int) (l : List Ext) : endM (shiftM b l) = endM l := by
  unfold endM shiftM; rw [List.map_map]; rfl

theorem cutE_val {a : Int} {e : Ext} (x y : Int) (h0 : e.at_ = a) (ha : 0 ≤ a) (h4 : 0 ≤ e.skip) (h5 : e.skip < e.count) (h3 : e.count ≤ 64) (h6 : 1 ≤ e.take) (h8 : a + e.take ≤ 1000) :
    cutE x y e = if max a x < min (a + e.take) y then [⟨max a x, e.sector, e.count, e.skip + max a x - a, min (a + e.take) y - max a x⟩] else [] := by
  unfold cutE
  rw [h0, wrap_id (a := a + e.take) (by omega) (by omega)]
  split
  · rename_i h
    rw [wrap_id (a := e.skip + max a x) (by omega) (by omega), wrap_id (a := e.skip + max a x - a) (by omega) (by omega), wrap_id (a := min (a + e.take) y - max a x) (by omega) (by omega)]
  · rfl

theorem cut_nil : ∀ (l : List Ext) (a x y : Int), 0 ≤ a → validFrom a l = true → y ≤ max a x → cutM x y l = []
  | [], _, _, _, _, _, _ => rfl
  | e :: l, a, x, y, ha, hv, hy => by
    obtain ⟨e0, e1, e2, e3, e4, e5, e6, e7, e8, e9⟩ := valid_cons hv
    have ih := cut_nil l (a + e.take) x y (by omega) e9 (by omega)
    unfold cutM at ih ⊢
    rw [List.flatMap_cons, ih, cutE_val x y e0 ha e4 e5 e3 e6 e8, if_neg (by omega)]; rfl

theorem cut_valid : ∀ (l : List Ext) (a x y : Int), 0 ≤ a → validFrom a l = true → validFrom (max a x) (cutM x y l) = true
  | [], _, _, _, _, _ => rfl
  | e :: l, a, x, y, ha, hv => by
    obtain ⟨e0, e1, e2, e3, e4, e5, e6, e7, e8, e9⟩ := valid_cons hv
    have ih := cut_valid l (a + e.take) x y (by omega) e9
    show validFrom (max a x) (cutE x y e ++ cutM x y l) = true
    rw [cutE_val x y e0 ha e4 e5 e3 e6 e8]
    split
    · rename_i h
      rw [List.singleton_append]
      refine valid_mk (e := ⟨max a x, e.sector, e.count, e.skip + max a x - a, min (a + e.take) y - max a x⟩) rfl e1 e2 e3 ?_ ?_ ?_ ?_ ?_ ?_
      all_goals dsimp only
      · omega
      · omega
      · omega
      · omega
      · omega
      · by_cases hq : y ≤ a + e.take
        · rw [cut_nil l (a + e.take) x y (by omega) e9 (by omega)]; rfl
        · rw [show max a x + (min (a + e.take) y - max a x) = max (a + e.take) x by omega]; exact ih
    · rename_i h
      rw [List.nil_append]
      by_cases hq : y ≤ max a x
      · rw [cut_nil l (a + e.take) x y (by omega) e9 (by omega)]; rfl
      · rw [show max a x = max (a + e.take) x by omega]; exact ih

theorem cut_spots : ∀ (l : List Ext) (a x y : Int), 0 ≤ a → validFrom a l = true → spotsM (cutM x y l) = ((spotsM l).drop (x - a).toNat).take (y - max a x).toNat
  | [], _, _, _, _, _ => by simp [cutM, spotsM]
  | e :: l, a, x, y, ha, hv => by
    obtain ⟨e0, e1, e2, e3, e4, e5, e6, e7, e8, e9⟩ := valid_cons hv
    have ih := cut_spots l (a + e.take) x y (by omega) e9
    have hE : spotsM (cutE x y e) = ((spotE e).drop (x - a).toNat).take (y - max a x).toNat := by
      rw [cutE_val x y e0 ha e4 e5 e3 e6 e8]
      unfold spotE
      rw [range_cut]
      split
      · rename_i h
        simp only [spotsM, List.flatMap_cons, List.flatMap_nil, List.append_nil, spotE]
        rw [show min (e.take.toNat - (x - a).toNat) (y - max a x).toNat = (min (a + e.take) y - max a x).toNat by omega]
        apply List.map_congr_left
        intro k _
        simp only [Prod.mk.injEq, true_and]
        omega
      · rename_i h
        rw [show min (e.take.toNat - (x - a).toNat) (y - max a x).toNat = 0 by omega]; rfl
    show spotsM (cutE x y e ++ cutM x y l) = _
    rw [spotsM_append, hE, ih, spotsM_cons, List.drop_append, List.take_append, spotE_len, List.length_drop, spotE_len]
    congr 2
    · omega
    · congr 1; omega
theorem cut_end (l : List Ext) (a x y : Int) (ha : 0 ≤ a) (ha' : a ≤ 1000) (hv : validFrom a l = true) : endM (cutM x y l) = max 0 (min y (a + endM l) - max a x) := by
  have h1 := spotsM_len _ _ (cut_valid l a x y ha hv)
  have h2 := spotsM_len _ _ hv
  have hb := valid_bd l a ha' hv
  rw [cut_spots l a x y ha hv, List.length_take, List.length_drop] at h1
  omega

/-- what a splice makes -/
theorem splice_spots (l new : List Ext) (fr tt : Int) (hv : validFrom 0 l = true) (h0 : 0 ≤ fr) (h1 : fr ≤ tt) (_ : fr ≤ endM l) :
    spotsM (spliceL l fr tt new) = (spotsM l).take fr.toNat ++ spotsM new ++ (spotsM l).drop (min tt (endM l)).toNat := by
  have hl := spotsM_len l 0 hv
  unfold spliceL
  rw [spotsM_append, spotsM_append, spotsM_shift, spotsM_shift, cut_spots l 0 _ _ (Int.le_refl _) hv, cut_spots l 0 _ _ (Int.le_refl _) hv]
  congr 1
  · congr 1
    rw [show (0 - 0 : Int).toNat = 0 from rfl, List.drop_zero]; congr 1; omega
  · rw [List.take_of_length_le (by rw [List.length_drop]; omega)]; congr 1; omega
theorem splice_end (l new : List Ext) (fr tt : Int) (hv : validFrom 0 l = true) (h0 : 0 ≤ fr) (h1 : fr ≤ tt) (h2 : fr ≤ endM l) :
    endM (spliceL l fr tt new) = fr + endM new + endM l - min tt (endM l) := by
  unfold spliceL
  rw [endM_append, endM_append, endM_shift, endM_shift, cut_end l 0 _ _ (Int.le_refl _) (by decide) hv, cut_end l 0 _ _ (Int.le_refl _) (by decide) hv]
  have := valid_bd l 0 (by decide) hv
  omega
theorem splice_valid (l new : List Ext) (fr tt : Int) (hv : validFrom 0 l = true) (hn : validFrom 0 new = true) (h0 : 0 ≤ fr) (h1 : fr ≤ tt) (h2 : fr ≤ endM l) (h3 : fr + endM new + endM l - min tt (endM l) ≤ 1000) :
    validFrom 0 (spliceL l fr tt new) = true := by
  have b1 := valid_bd l 0 (by decide) hv
  have b2 := valid_bd new 0 (by decide) hn
  have c1 := cut_end l 0 0 fr (Int.le_refl _) (by decide) hv
  have c2 := cut_end l 0 (min tt (endM l)) (endM l) (Int.le_refl _) (by decide) hv
  unfold spliceL
  rw [valid_append, valid_append, endM_append, endM_shift, c1, Bool.and_eq_true, Bool.and_eq_true]
  refine ⟨⟨?_, ?_⟩, ?_⟩
  · have := cut_valid l 0 0 fr (Int.le_refl _) hv; exact this
  · have := shift_valid new 0 fr (by omega) (by omega) (by omega) (by omega) hn
    rw [show (0 : Int) + max 0 (min fr (0 + endM l) - max 0 0) = 0 + fr by omega]; exact this
  · have hc := cut_valid l 0 (min tt (endM l)) (endM l) (Int.le_refl _) hv
    have := shift_valid (cutM (min tt (endM l)) (endM l) l) (max 0 (min tt (endM l))) (fr + endM new - min tt (endM l)) (by omega) (by rw [c2]; omega) (by omega) (by omega) hc
    rw [show (0 : Int) + (max 0 (min fr (0 + endM l) - max 0 0) + endM new) = max 0 (min tt (endM l)) + (fr + endM new - min tt (endM l)) by omega]; exact this
end Go.Ov

/- What ExtentCuts says of valid rows, in plain words; a block that a call owns and stores into. No program in sight. -/
namespace Go.Ov
open Go.RowKit

theorem cutE_clamp {a : Int} {e : Ext} {l : List Ext} (fr tt E : Int) (ha : 0 ≤ a) (h : validFrom a (e :: l) = true) (hE : a + endM (e :: l) ≤ E) (_ : endM (e :: l) + a ≤ 1000) (hl : 0 ≤ endM l) :
    cutE (max fr 0) (min tt E) e = cutE fr tt e := by
  have hc := valid_cons h
  obtain ⟨c0, c1⟩ := hc
  have ht : endM (e :: l) = e.take + endM l := rfl
  have hw : wrap64 (e.at_ + e.take) = e.at_ + e.take := by
    have : 1 ≤ e.take := by simp [validFrom, oneB] at h; omega
    exact wrap_id (by omega) (by omega)
  unfold cutE
  rw [hw, show max e.at_ (max fr 0) = max e.at_ fr by omega, show min (e.at_ + e.take) (min tt E) = min (e.at_ + e.take) tt by omega]
theorem cut_clamp : ∀ (l : List Ext) (a fr tt E : Int), 0 ≤ a → a ≤ 1000 → validFrom a l = true → a + endM l ≤ E → cutM (max fr 0) (min tt E) l = cutM fr tt l
  | [], _, _, _, _, _, _, _, _ => rfl
  | e :: l, a, fr, tt, E, ha, ha2, h, hE => by
    have hb := valid_bd _ a ha2 h
    have hv : validFrom (a + e.take) l = true := by simp [validFrom] at h; exact h.2
    have hk : 1 ≤ e.take ∧ e.take ≤ 1000 - a := by simp [validFrom, oneB] at h; omega
    have hl := valid_bd l (a + e.take) (by omega) hv
    have ht : endM (e :: l) = e.take + endM l := rfl
    unfold cutM
    rw [List.flatMap_cons, List.flatMap_cons, cutE_clamp fr tt E ha h hE (by omega) hl.1]
    congr 1
    exact cut_clamp l (a + e.take) fr tt E (by omega) (by omega) hv (by omega)

/-- a block that is owned from a base on -/
def OwnBlk (T : TypeId) (w : World) (base g n : Nat) : Prop := base ≤ g ∧ ∃ cur, w.heap[g]? = some (.cells cur T (0, 0)) ∧ n ≤ cur.size
theorem OwnBlk.of {α : Type} {E : Enc α} {T : TypeId} {w : World} {base : Nat} {g n cap : Nat} {xs : List α} (h : E.Own T w base (.slice (some ⟨g, 0, none⟩) n cap) xs) : OwnBlk T w base g (n * E.sz) := by
  obtain ⟨h1, h2⟩ := h
  rcases h2 with ⟨h2, _⟩ | ⟨g', c, cur, h2, h3, h4, h5, h6, h7, h8⟩
  · cases h2
  · simp at h2
    obtain ⟨rfl, rfl, rfl⟩ := h2
    exact ⟨h3, cur, h4, by rw [h7]; exact Nat.mul_le_mul_right _ h5⟩
theorem OwnBlk.cell {T : TypeId} {w : World} {base g n : Nat} (h : OwnBlk T w base g n) (j : Nat) (hj : j < n) : (∃ u, w.cell? ⟨g, j, none⟩ = some u) ∧ w.frozen? ⟨g, j, none⟩ = false := by
  obtain ⟨_, cur, h1, h2⟩ := h
  refine ⟨⟨cur[j]'(by omega), ?_⟩, ?_⟩
  · unfold World.cell?; simp only [h1]; simp [show j < cur.size by omega]
  · unfold World.frozen?; simp only [h1]; simp
theorem Enc.Own.parts {α : Type} {E : Enc α} {T : TypeId} {w : World} {base : Nat} {v : Value} {xs : List α} (h : E.Own T w base v xs) :
    (v = .slice none 0 0 ∧ xs.length = 0) ∨ ∃ g c, v = .slice (some ⟨g, 0, none⟩) xs.length c ∧ OwnBlk T w base g (xs.length * E.sz) := by
  have hh := h
  obtain ⟨h1, h2⟩ := h
  rcases h2 with ⟨h2, h3⟩ | ⟨g', c, cur, h2, _⟩
  · exact .inl ⟨h2, h3⟩
  · subst h2
    exact .inr ⟨g', c, rfl, OwnBlk.of hh⟩
theorem setCell_at (w : World) (g j : Nat) (u : Value) (cur : Array Value) (T : TypeId) (fr : Nat × Nat) (h : w.heap[g]? = some (.cells cur T fr)) :
    (w.setCell ⟨g, j, none⟩ u).heap[g]? = some (.cells (cur.setIfInBounds j u) T fr) := by
  unfold World.setCell
  simp only [Array.getElem?_modify, if_true, h, Option.map_some, Option.isSome_none, Bool.false_eq_true, if_false]
theorem setCell_else (w : World) (g j k : Nat) (u : Value) (h : g ≠ k) : (w.setCell ⟨g, j, none⟩ u).heap[k]? = w.heap[k]? := by
  unfold World.setCell
  simp only [Array.getElem?_modify, if_neg h]
theorem OwnBlk.set {T : TypeId} {w : World} {base g n : Nat} (h : OwnBlk T w base g n) (j : Nat) (u : Value) : OwnBlk T (w.setCell ⟨g, j, none⟩ u) base g n := by
  obtain ⟨h0, cur, h1, h2⟩ := h
  exact ⟨h0, _, setCell_at w g j u cur T _ h1, by simpa using h2⟩
theorem Bl.set {w0 w : World} (h : Bl w0 w) (g j : Nat) (u : Value) (hg : w0.heap.size ≤ g) : Bl w0 (w.setCell ⟨g, j, none⟩ u) :=
  ⟨h.os, h.tape, h.output, by have := h.size; simpa [World.setCell] using this, fun k hk => by rw [setCell_else _ _ _ _ _ (by omega)]; exact h.block k hk⟩
end Go.Ov

/- Blocks known whole. No program in sight. -/
namespace Go.Ov
open Go.RowKit

/-- a block, known whole -/
def Blk (w : World) (b : Nat) (cs : Array Value) (T : TypeId) : Prop := w.heap[b]? = some (.cells cs T (0, 0))
theorem Blk.new (w : World) (cs : Array Value) (T : TypeId) : Blk (w.alloc (.cells cs T)) w.heap.size cs T := heap_alloc_new w _
theorem Blk.lt {w : World} {b : Nat} {cs : Array Value} {T : TypeId} (h : Blk w b cs T) : b < w.heap.size := by
  unfold Blk at h
  by_cases hb : b < w.heap.size
  · exact hb
  · rw [Array.getElem?_eq_none (by omega)] at h; cases h
theorem Blk.bl {w w' : World} {b : Nat} {cs : Array Value} {T : TypeId} (h : Blk w b cs T) (hb : Bl w w') : Blk w' b cs T := by
  have hl := h.lt
  unfold Blk at *
  rw [hb.block b hl]; exact h
theorem Blk.cell {w : World} {b : Nat} {cs : Array Value} {T : TypeId} (h : Blk w b cs T) (j : Nat) : w.cell? ⟨b, j, none⟩ = cs[j]? := cell_of_row w b j cs T (0, 0) h
theorem Blk.frozen {w : World} {b : Nat} {cs : Array Value} {T : TypeId} (h : Blk w b cs T) (j : Nat) : w.frozen? ⟨b, j, none⟩ = false := frozen_of_row w b j cs T h
theorem Blk.set {w : World} {b : Nat} {cs : Array Value} {T : TypeId} (h : Blk w b cs T) (j : Nat) (u : Value) : Blk (w.setCell ⟨b, j, none⟩ u) b (cs.setIfInBounds j u) T := setCell_at w b j u cs T _ h
theorem Blk.set_else {w : World} {b : Nat} {cs : Array Value} {T : TypeId} (h : Blk w b cs T) (g j : Nat) (u : Value) (hg : g ≠ b) : Blk (w.setCell ⟨g, j, none⟩ u) b cs T := by
  unfold Blk at *; rw [setCell_else _ _ _ _ _ hg]; exact h
theorem Blk.drew {w : World} {b : Nat} {cs : Array Value} {T : TypeId} (h : Blk w b cs T) : Blk w.drew b cs T := h
theorem Blk.grown {w w' : World} {b : Nat} {cs : Array Value} {T : TypeId} {row : Option Nat} (h : Blk w b cs T) (hg : w.grownBy w' row) (hr : row ≠ some b) : Blk w' b cs T := by
  have hl := h.lt
  unfold Blk at *
  rw [hg.block b hl (fun e => hr e.symm)]; exact h
theorem Enc.Own.set {α : Type} {E : Enc α} {e : TypeId} {w : World} {base : Nat} {v : Value} {xs : List α} (h : E.Own e w base v xs) (g j : Nat) (u : Value) (hg : g < base) : E.Own e (w.setCell ⟨g, j, none⟩ u) base v xs :=
  h.grown (row := some g) ⟨rfl, rfl, rfl, by simp [World.setCell], fun k _ hk => setCell_else _ _ _ _ _ (fun h => hk (by rw [h]))⟩ (by
    cases hv : v.ownBlock with
    | none => exact .inl rfl
    | some k => refine .inr fun hk => ?_
                have := (h.lt k hv).1
                cases hk
                omega)
end Go.Ov

/- Drawn regions, walked in the few orders that stand for all: operations whose value is the same in every world that meets S go first. -/
namespace Go.Ov
open Go

/-- The orders that stand for all. -/
inductive Plan where
  | done
  | stop
  | take (i : Nat) (t : Plan)
  | ev (i : Nat) (t more : Plan)
  deriving Inhabited

section
variable {P : Program} {ops : Array Oper} {Q : Exit → Act → World → Prop} {md : Region.Mode} {S : World → Prop}

/-- The operation with a number, by the list. -/
def nth : List Oper → Nat → Option Oper
  | [], _ => none
  | o :: _, 0 => some o
  | _ :: l, n + 1 => nth l n
theorem nth_eq : ∀ (l : List Oper) (n : Nat), nth l n = l[n]?
  | [], n => by simp [nth]
  | o :: l, 0 => by simp [nth]
  | o :: l, n + 1 => by simp [nth, nth_eq l n]
theorem nth_ops {ops : Array Oper} {i : Nat} {o : Oper} (h : nth ops.toList i = some o) : ops[i]? = some o := by
  rw [nth_eq] at h; simpa using h

/-- 'tk': the operations to be taken ahead of the others where that is free. -/
def ways (md : Region.Mode) (ops : Array Oper) (tk : List Nat) : Nat → Array Bool → Option Plan
  | 0, listed => if (Region.ready md ops listed).isEmpty then some .done else none
  | fuel + 1, listed =>
    let rs := Region.ready md ops listed
    if rs.isEmpty then some .done else
    match rs.find? (fun i => tk.contains i && Region.free md ops listed i) with
    | some i => (ways md ops tk fuel (listed.setIfInBounds i true)).map (.take i)
    | none => rs.foldr (fun i acc => match ways md ops tk fuel (listed.setIfInBounds i true), acc with
        | some t, some m => some (.ev i t m)
        | _, _ => none) (some .stop)

/-- The walk along these orders. -/
def wpWay (P : Program) (ops : Array Oper) (Q : Exit → Act → World → Prop) (S : World → Prop) : Plan → Act → World → Prop
  | .done, a, w => Q .normal a w
  | .stop, _, _ => True
  | .take i t, a, w => ∃ o v, ops[i]? = some o ∧ YieldsIf P ops S o v a ∧ wpWay P ops Q S t (a.put o.dst v) w
  | .ev i t m, a, w => wpOp P ops Q i (fun a' w' => S w' ∧ wpWay P ops Q S t a' w') a w ∧ wpWay P ops Q S m a w

theorem ways_sound (hs : Region.noSelect ops = true) (hQ : ∀ c a w, ¬ Q (.panic c) a w) (tk : List Nat) : ∀ (fuel : Nat) (listed : Array Bool) (y : Plan) (a : Act) (w : World),
    ways md ops tk fuel listed = some y → S w → wpWay P ops Q S y a w → wpAnyH P md ops Q S fuel listed a w
  | 0, listed, y, a, w, hy, _, h => by
    unfold ways at hy
    split at hy
    · rename_i he
      cases hy
      exact ⟨by simpa using he, h⟩
    · cases hy
  | fuel + 1, listed, y, a, w, hy, hS, h => by
    unfold ways at hy
    simp only at hy
    split at hy
    · rename_i he
      cases hy
      exact wpAnyH_done (by simpa using he) h _
    · split at hy
      · rename_i i hi
        have hm := List.mem_of_find?_eq_some hi
        have hf := List.find?_some hi
        simp only [Bool.and_eq_true] at hf
        cases ht : ways md ops tk fuel (listed.setIfInBounds i true) with
        | none => rw [ht] at hy; cases hy
        | some t =>
          rw [ht] at hy
          cases hy
          obtain ⟨o, v, ho, hyi, hr⟩ := h
          exact wpAnyH_take ho hs hf.2 (by simpa using hm) (fun c a w hp => (hQ _ _ _ hp).elim) hyi hS (ways_sound hs hQ tk fuel _ _ _ _ ht hS hr)
      · refine wpAnyH_all rfl (by intro h0; simp_all) ?_
        have key : ∀ (rs : List Nat) (y : Plan), rs.foldr (fun i acc => match ways md ops tk fuel (listed.setIfInBounds i true), acc with
            | some t, some m => some (Plan.ev i t m)
            | _, _ => none) (some .stop) = some y → wpWay P ops Q S y a w →
            ∀ i ∈ rs, wpOp P ops Q i (fun a' w' => S w' ∧ wpAnyH P md ops Q S fuel (listed.setIfInBounds i true) a' w') a w := by
          intro rs
          induction rs with
          | nil => intro _ _ _ i hi; cases hi
          | cons r rs ih =>
            intro y hy h i hi
            rw [List.foldr_cons] at hy
            cases ht : ways md ops tk fuel (listed.setIfInBounds r true) with
            | none => rw [ht] at hy; cases hy
            | some t =>
              rw [ht] at hy
              split at hy
              · rename_i t' m htt hm
                cases htt
                cases hy
                rcases List.mem_cons.1 hi with rfl | hi
                · exact wpOp_mono (fun a' w' hw => ⟨hw.1, ways_sound hs hQ tk fuel _ _ _ _ ht hw.1 hw.2⟩) h.1
                · exact ih m hm h.2 i hi
              · cases hy
        exact key _ _ hy h

theorem NoPanic.not (Q : Exit → Act → World → Prop) (c : List PanicEntry) (a : Act) (w : World) : ¬ NoPanic Q (.panic c) a w := fun h => h

theorem wp_region_ways {id : Nat} {a : Act} {w : World} (tk : List Nat) {y : Plan} (hm : P.follows .mixedOrders = true) (hs : Region.noSelect ops = true)
    (hy : ways .any ops tk ops.size (Array.replicate ops.size false) = some y) (hS : S w.drew)
    (h : S w.drew → wpWay P ops (NoPanic Q) S y a w.drew) : (Code.region id ops true).wp P Q a w :=
  wp_region_noPanic (wp_region_held_drew hm hS fun hS => ways_sound hs (NoPanic.not Q) tk _ _ _ _ _ hy hS (h hS))

theorem wpWay_done {a : Act} {w : World} (h : Q .normal a w) : wpWay P ops (NoPanic Q) S .done a w := h
theorem wpWay_take {i : Nat} {t : Plan} {a : Act} {w : World} {o : Oper} {v : Value} (ho : nth ops.toList i = some o) (hw : Region.wanted o (yielded ops a.tmps) = true)
    (hv : ∀ w, S w → (execOp a.eval o).run P w = .ok (.value v) w) (h : wpWay P ops Q S t (a.put o.dst v) w) : wpWay P ops Q S (.take i t) a w :=
  ⟨o, v, nth_ops ho, .inl ⟨hw, hv⟩, h⟩
theorem wpWay_skip {i : Nat} {t : Plan} {a : Act} {w : World} {o : Oper} (ho : nth ops.toList i = some o) (hw : Region.wanted o (yielded ops a.tmps) = false)
    (h : wpWay P ops Q S t (a.put o.dst undef) w) : wpWay P ops Q S (.take i t) a w :=
  ⟨o, undef, nth_ops ho, .inr ⟨hw, rfl⟩, h⟩
theorem wpWay_stop {a : Act} {w : World} : wpWay P ops Q S .stop a w := trivial
theorem wpWay_pass {i : Nat} {t m : Plan} {a : Act} {w : World} {o : Oper} (ho : nth ops.toList i = some o) (hw : Region.wanted o (yielded ops a.tmps) = false)
    (hS : S w) (h : wpWay P ops Q S t (a.put o.dst undef) w) (hm : wpWay P ops Q S m a w) : wpWay P ops Q S (.ev i t m) a w :=
  ⟨by unfold wpOp; simp only [nth_ops ho, hw]; exact ⟨hS, h⟩, hm⟩

theorem Oper.wp_imp {o : Oper} {a : Act} {w : World} {K K' : Act → World → Prop} {Q' : Exit → Act → World → Prop} (h : ∀ a w, K a w → K' a w)
    (hp : ∀ c a w, Q (.panic c) a w → Q' (.panic c) a w) (hl : LetsOut Q → LetsOut Q')
    (hh : o.wp P a w K Q) : o.wp P a w K' Q' := by
  unfold Oper.wp at *
  generalize (execOp a.eval o).run P w = r at *
  cases r with
  | ok n w' =>
    cases n <;> simp only [Oper.upon] at hh ⊢ <;>
      first
        | exact h _ _ hh
        | exact Calls.mono hh (fun e w'' he => by cases e <;> first | exact h _ _ he | exact hp _ _ _ he | exact hl he)
        | exact Rows.mono hh (fun _ _ he => h _ _ he)
  | halt x w' => cases x <;> simp only [Oper.upon] at hh ⊢ <;> exact hp _ _ _ hh

/-- An event is walked as a list of one operation. -/
theorem wpWay_ev {i : Nat} {t m : Plan} {a : Act} {w : World} {o : Oper} (ho : nth ops.toList i = some o)
    (h : ∀ K : Exit → Act → World → Prop, (∀ a' w', S w' ∧ wpWay P ops Q S t a' w' → K .normal a' w') → wpList P ops K [o] a w)
    (hm : wpWay P ops Q S m a w) : wpWay P ops Q S (.ev i t m) a w := by
  refine ⟨?_, hm⟩
  have h1 := h (fun e a' w' => match e with | .normal => S w' ∧ wpWay P ops Q S t a' w' | _ => False) (fun a' w' h => h)
  unfold wpOp
  simp only [nth_ops ho]
  unfold wpList at h1
  split
  · rename_i hw
    simp only [hw, if_true] at h1
    rcases h1 with h1 | ⟨_, a0, w0, h0⟩
    · exact .inl (Oper.wp_imp (fun a w h => h) (fun c a w h => h.elim) (fun ⟨_, _, h⟩ => h.elim) h1)
    · exact h0.elim
  · rename_i hw
    simp only [hw] at h1
    exact h1

end
end Go.Ov

/- Contracts of package tree: fresh, cut, first, empty, count. -/
namespace Go.Proofs.Ytddcjekkimajpaa.ExtW
open Go.RowKit Go.Ov Go.Proofs.Ytddcjekkimajpaa.Need

set_option maxHeartbeats 1000000 in
theorem tfresh_any (v : Value) (l : List Ext) (w : World) (h : extE.Is w v l) (hn : l.length * 40 ≤ 140737488355328) :
    Calls Try.prog 44 #[v] w fun e w' => ∃ u, e = .returned u ∧ extE.Own 38 w' w.heap.size u l ∧ Bl w w' := by
  have HH := Lib.hid h
  clear h
  go_enter Try.func44, Try.ntmps44
  go_wp2_with (at_builtin; refine Enc.Own.append (E := extE) rfl (.const (.slice none 0 0)) (.tmp 3) 31 rfl w.heap.size 38 (.agg #[.int .i64 0, .int .i64 0, .int .i64 0, .int .i64 0, .int .i64 0]) 5 40 Try.underlying31 infoExt rfl rfl (by decide) (by decide) (.slice none 0 0) [] rfl (Enc.Own.nil _ _ _) v l rfl HH.out ?hlen (Nat.le_refl _) ?_; (case hlen => simpa using hn); intro v1 w1 ho hg)
  go_ret
  exact ⟨_, rfl, ho, (Bl.refl _).grown hg (fun k hk => by simp [Value.ownBlock] at hk)⟩

theorem Enc.Own.store1 {T : TypeId} {w : World} {base g n cap : Nat} {xs : List Int} (h : intE.Own T w base (.slice (some ⟨g, 0, none⟩) n cap) xs) (j : Nat) (y : Int) :
    intE.Own T (w.setCell ⟨g, j, none⟩ (.int .i64 y)) base (.slice (some ⟨g, 0, none⟩) n cap) (xs.set j y) := by
  have hn : n = xs.length := by
    obtain ⟨A, c, e, _⟩ := h.is
    simp at e; exact e.2.1
  subst hn
  have h1 := (World.ownsRow.stored (n := xs.length) h j (.int .i64 y)).1
  have e : (xs.flatMap intE.c).set j (.int .i64 y) = (xs.set j y).flatMap intE.c := by
    have : ∀ (l : List Int) (j : Nat), (l.flatMap intE.c).set j (.int .i64 y) = (l.set j y).flatMap intE.c := by
      intro l
      induction l with
      | nil => intro j; rfl
      | cons x l ih =>
        intro j
        cases j with
        | zero => rfl
        | succ j => rw [List.set_cons_succ, List.flatMap_cons, List.flatMap_cons, ← ih j]; rfl
    exact this xs j
  rw [e] at h1
  unfold Enc.Own
  rw [List.length_set]; exact h1
theorem Enc.Own.cells1 {T : TypeId} {w : World} {base g n cap : Nat} {xs : List Int} (h : intE.Own T w base (.slice (some ⟨g, 0, none⟩) n cap) xs) (j : Nat) (y : Int) (hj : xs[j]? = some y) :
    w.cell? ⟨g, j, none⟩ = some (.int .i64 y) ∧ w.frozen? ⟨g, j, none⟩ = false := by
  have hn : n = xs.length := by
    obtain ⟨A, c, e, _⟩ := h.is
    simp at e; exact e.2.1
  subst hn
  have hl : j < xs.length := (List.getElem?_eq_some_iff.1 hj).1
  refine ⟨?_, World.ownsRow.frozenAt h j⟩
  rw [World.ownsRow.cellAt h j (by show j < xs.length * 1; omega)]
  have := flat_get intE xs j y hj 0 _ rfl
  rw [show intE.sz = 1 from rfl, Nat.mul_one, Nat.add_zero] at this
  exact this

theorem infoIntT : (Try.prog.info? 3).map (fun i => (i.zero, i.size, i.bytes)) = some (some (.int .i64 0), 1, 8) := by kernel_rfl

def szI (n i : Nat) : Int := sizeM n (grp n) i
def szs (n k : Nat) : List Int := (List.range k).map (szI n)
theorem szs_succ (n k : Nat) : szs n (k + 1) = szs n k ++ [szI n k] := by simp [szs, List.range_succ]
theorem szs_len (n k : Nat) : (szs n k).length = k := by simp [szs]

set_option maxRecDepth 100000 in
set_option maxHeartbeats 1000000 in
theorem tcut_any (n : Nat) (w : World) (hn : n ≤ 1000000) :
    Calls Try.prog 74 #[.int .i64 n, .int .i64 8] w fun e w' => ∃ u, e = .returned u ∧ intE.Own 3 w' w.heap.size u (szs n (grp n)) ∧ Bl w w' := by
  have eg : ((n : Int) + 8 - 1) / 8 = grp n := by unfold grp; omega
  have hg : grp n ≤ 1000000 := by unfold grp; omega
  go_enter Try.func74, Try.ntmps74
  go_wp2
  rw [eg]
  have hgn : grp n = 0 → n = 0 := by unfold grp; omega
  go_loopg [6, 15] (grp n) (fun gk v i wr => ∃ k : Nat, k ≤ grp n ∧ gk = grp n - k ∧ i = .int .i64 k ∧ Hid (intE.Own 3 wr w.heap.size v (szs n k)) ∧ Hid (Bl w wr))
  case atStart => exact ⟨0, by omega, rfl, rfl, Lib.hid (Enc.Own.nil _ _ _), Lib.hid (Bl.refl _)⟩
  case round =>
    obtain ⟨k, hk, rfl, rfl, HO, HB⟩ := hrel
    by_cases hlt : k < grp n
    · have hss := Lib.hid (szs_succ n k)
      have hsl := Lib.hid (szs_len n k)
      have hsz := Lib.hid (show szI n k = ((n / grp n : Nat) : Int) + (if k < n % grp n then 1 else 0 : Nat) by unfold szI sizeM; push_cast; rfl)
      generalize hG : grp n = G at *
      have hG0 : (0 : Int) < G := by omega
      generalize szs n k = xs at *
      have hdiv : (n : Int) / (G : Int) = ((n / G : Nat) : Int) := by push_cast; rfl
      have hmod : (n : Int) % (G : Int) = ((n % G : Nat) : Int) := by push_cast; rfl
      have hdl : n / G ≤ n := Nat.div_le_self _ _
      generalize n / G = D at *
      generalize n % G = M at *
      have hGne : ¬ (G : Int) = 0 := by omega
      go_upto_if 28 with (at_builtin; refine Enc.Own.append1 (E := intE) rfl (.tmp 18) (.tmp 22) 22 rfl w.heap.size 3 (.int .i64 0) 1 8 Try.underlying22 infoIntT rfl rfl (by decide) (by decide) u6 xs rfl HO.out (D : Int) _ rfl rfl rfl ?hlen ?hbase ?_; (case hlen => have := hsl.out; omega); (case hbase => exact HB.out.size); intro v1 w1 ho hg)
      have HB1 := Lib.hid ((HB.out.alloc _).grown hg (fun k hk => (Enc.Own.lt HO.out k hk).1))
      rcases ho.parts with ⟨_, hz⟩ | ⟨g, c, rfl, hob⟩
      · simp at hz
      have hl2 : (xs ++ [(D : Int)]).length = k + 1 := by simp [hsl.out]
      rw [hl2] at hob ⊢
      have hgb := hob.1
      have HO1 := Lib.hid (show intE.Own 3 w1 w.heap.size (.slice (some ⟨g, 0, none⟩) (k + 1) c) (xs ++ [(D : Int)]) by rw [← hl2]; exact ho)
      have hgt : g < w1.heap.size := (Enc.Own.lt ho g rfl).2
      obtain ⟨d0, d1⟩ := Enc.Own.cells1 HO1.out k (D : Int) (by rw [List.getElem?_append_right (by rw [hsl.out]; exact Nat.le_refl _), hsl.out]; simp)
      clear ho hg HO hob hl2
      have hkM : (k : Int) < G := by omega
      by_cases hM : k < M
      · have hM2 : (k : Int) < M := by omega
        go_wp2_with fail
        go_roundg (G - (k + 1))
        case measure => omega
        case rel =>
          refine ⟨k + 1, by omega, rfl, by go_num, Lib.hid ?_, Lib.hid (Bl.set HB1.out _ _ _ hgb)⟩
          have := Enc.Own.store1 HO1.out k ((D : Int) + 1)
          rw [hss.out, hsz.out, if_pos hM]
          rw [List.set_append_right _ _ (by rw [hsl.out]; exact Nat.le_refl _), hsl.out] at this
          simpa using this
      · have hM2 : ¬ (k : Int) < M := by omega
        go_wp2_with fail
        go_roundg (G - (k + 1))
        case measure => omega
        case rel =>
          refine ⟨k + 1, by omega, rfl, by go_num, Lib.hid ?_, HB1⟩
          have := HO1.out
          rw [hss.out, hsz.out, if_neg hM]
          unfold Enc.Own at this ⊢
          rw [List.length_append, hsl.out] at this ⊢
          simpa using this
    · have hke : k = grp n := by omega
      go_wp2_with fail
      go_ret
      exact ⟨_, rfl, by rw [← hke]; exact HO.out, HB.out⟩

def isE (n1 n2 n3 : Nat) : Bool := decide (n1 = 0) && decide (n2 = 0) && decide (n3 = 0)
set_option maxRecDepth 100000 in
set_option maxHeartbeats 1000000 in
theorem tempty_raw (A1 A2 A3 : Option Addr) (n1 c1 n2 c2 n3 c3 : Nat) (w : World) :
    Calls Try.prog 88 #[.agg #[.slice A1 n1 c1, .slice A2 n2 c2, .slice A3 n3 c3]] w fun e w' => e = .returned (.bool (isE n1 n2 n3)) ∧ Bl w w' := by
  have hu := Try.underlying89
  rcases Nat.eq_zero_or_pos n1 with rfl | h1
  · rcases Nat.eq_zero_or_pos n2 with rfl | h2
    · rcases Nat.eq_zero_or_pos n3 with rfl | h3
      · go_enter Try.func88, Try.ntmps88
        go_wp2_with fail
        go_ret
        exact ⟨rfl, (Bl.refl _).alloc _⟩
      · have h3' : ((n3 : Int) == 0) = false := by simp; omega
        have hb : isE 0 0 n3 = false := by simp [isE]; omega
        go_enter Try.func88, Try.ntmps88
        go_wp2_with fail
        go_ret
        exact ⟨ret_bool hb.symm, (Bl.refl _).alloc _⟩
    · have h3' : ((n2 : Int) == 0) = false := by simp; omega
      have hb : isE 0 n2 n3 = false := by simp [isE]; omega
      go_enter Try.func88, Try.ntmps88
      go_wp2_with fail
      go_ret
      exact ⟨ret_bool hb.symm, (Bl.refl _).alloc _⟩
  · have h3' : ((n1 : Int) == 0) = false := by simp; omega
    have hb : isE n1 n2 n3 = false := by simp [isE]; omega
    go_enter Try.func88, Try.ntmps88
    go_wp2_with fail
    go_ret
    exact ⟨ret_bool hb.symm, (Bl.refl _).alloc _⟩
theorem tempty_any (l : List Ext) (f : List Int) (p : List NodeM) (h : NH) (w : World) (hr : NodeR w (.mk l f p) h) :
    Calls Try.prog 88 #[h.v] w fun e w' => e = .returned (.bool (isE l.length f.length p.length)) ∧ Bl w w' := by
  obtain ⟨h1, h2, hs, h3, h4, _⟩ := hr.inv
  obtain ⟨A1, c1, e1, _⟩ := h1
  obtain ⟨A2, c2, e2, _⟩ := h2
  obtain ⟨A3, c3, e3, _⟩ := h3
  rw [h4] at e3
  unfold NH.v
  rw [e1, e2, e3]
  exact tempty_raw _ _ _ _ _ _ _ _ _ _

set_option maxRecDepth 100000 in
set_option maxHeartbeats 1000000 in
theorem tfirst_any (n : NodeM) (h : NH) (w : World) (hr : NodeR w n h) (hf : n.hasFirst = true) :
    Calls Try.prog 75 #[h.v] w fun e w' => e = .returned (.int .i64 n.first1) ∧ Bl w w' := by
  have HR := Lib.hid hr
  have HF := Lib.hid hf
  clear hr hf
  have hu := Try.underlying89
  have hue := Try.underlying38
  go_enter Try.func75, Try.ntmps75
  unfold NH.v
  go_wp2_with fail
  go_loopg [] n.count (fun g wr => ∃ m h', g = m.count ∧ Hid (m.first1 = n.first1) ∧ Hid (m.hasFirst = true) ∧ Hid (NodeR w m h') ∧ Hid (Blk wr w.heap.size #[h'.a.v, h'.b.v, h'.c.v] 89) ∧ Hid (Bl w wr))
  case atStart => exact ⟨n, h, rfl, Lib.hid rfl, HF, HR, Lib.hid (Blk.new w _ _), Lib.hid ((Bl.refl _).alloc _)⟩
  case round =>
    obtain ⟨m, h', rfl, HE, HF', HN, HK, HB⟩ := hrel
    obtain ⟨l, f, p⟩ := m
    obtain ⟨i1, i2, hs, i3, i4⟩ := HN.out.inv
    obtain ⟨A1, c1, e1, _, _, _, at1⟩ := i1
    obtain ⟨A3, c3, e3, q3, q4, q5, at3⟩ := i3
    have d0 := HK.out.cell 0
    have d2 := HK.out.cell 2
    have f0 := HK.out.frozen 0
    have f1 := HK.out.frozen 1
    have f2 := HK.out.frozen 2
    have hlt := HK.out.lt
    rw [e1] at d0
    rw [e3] at d2
    simp at d0 d2
    have d1 := HK.out.cell 1
    obtain ⟨A2, c2, e2, _⟩ := i2
    rw [e2] at d1
    simp at d1
    have hu2 := Try.underlying87
    have hle : hs.length = p.length := i4.1
    have HL := Lib.hid hle
    have HI4 := Lib.hid i4
    unfold maxLen at q4
    clear i4 hle e2
    cases p with
    | nil =>
      have hl0 : hs.length = 0 := HL.out
      rw [hl0] at d2
      have hll : 0 < l.length := by
        have := HF'.out
        unfold NodeM.hasFirst at this
        cases l with
        | nil => simp at this
        | cons e l => simp
      obtain ⟨e, l', hl'⟩ : ∃ e l', l = e :: l' := by
        cases l with
        | nil => simp at hll
        | cons e l => exact ⟨e, l, rfl⟩
      obtain ⟨ad, rfl, k0⟩ := ext_at0 (at1.bl HB.out) hll
      have hx : l[0].at_ = n.first1 := by
        rw [← HE.out]; subst hl'; rfl
      rw [hx] at k0
      have hli : (0 : Int) < l.length := by omega
      clear hl' hx q5 q3 q4 e1 e3 at1 at3
      go_wp2_with fail
      go_ret
      exact ⟨rfl, HB.out⟩
    | cons x p =>
      have hl0 : 0 < hs.length := by have := HL.out; simp at this; omega
      obtain ⟨ad, rfl, k0, k1, k2⟩ := node_at0 (at3.bl HB.out) hl0
      have hn := HI4.out.2 0 x hs[0] rfl (List.getElem?_eq_getElem hl0)
      have HN2 := Lib.hid hn
      clear hn e1 e3 at1 at3
      generalize hs[0] = h2 at *
      simp only [Head.v] at k0 k1 k2
      have hli : (0 : Int) < hs.length := by omega
      go_wp2_with fail
      go_roundg x.count
      case measure => rw [count_mk, countL_cons]; omega
      case rel =>
        refine ⟨x, h2, rfl, Lib.hid ?_, Lib.hid ?_, HN2, Lib.hid ?_, Lib.hid ?_⟩
        · rw [← HE.out, first1_cons]
        · have := HF'.out; unfold NodeM.hasFirst at this; exact this
        · exact ((HK.out.set 0 h2.a.v).set 1 h2.b.v).set 2 h2.c.v
        · iterate 3 refine Bl.set ?_ _ _ _ (Nat.le_refl _)
          exact HB.out
end Go.Proofs.Ytddcjekkimajpaa.ExtW

/- More on slices: an append to a full slice that is not owned; 'x[:hi:hi]'. No program in sight. -/
namespace Go.Ov
open Go.RowKit

theorem Enc.At.cells {α : Type} {E : Enc α} {w : World} {ad : Addr} {ys : List α} (hsz : 0 < E.sz) (hA : E.At w (some ad) ys) (j : Nat) (q : Value) (hq : (ys.flatMap E.c)[j]? = some q) : w.cell? (ad.add j) = some q := by
  have hj : j < ys.length * E.sz := by have := (List.getElem?_eq_some_iff.1 hq).1; rwa [flat_len] at this
  have hi' : j / E.sz < ys.length := by rw [Nat.div_lt_iff_lt_mul (by omega)]; exact hj
  obtain ⟨ad', e', hc'⟩ := hA (j / E.sz) ys[j / E.sz] (List.getElem?_eq_getElem hi')
  obtain rfl : ad = ad' := by injection e'
  have hm : j % E.sz < (E.c ys[j / E.sz]).length := by rw [E.len]; exact Nat.mod_lt _ (by omega)
  have hj2 : j = j / E.sz * E.sz + j % E.sz := by rw [Nat.mul_comm]; exact (Nat.div_add_mod j E.sz).symm
  have h1 := flat_get E ys (j / E.sz) _ (List.getElem?_eq_getElem hi') (j % E.sz) _ (List.getElem?_eq_getElem hm)
  rw [← hj2] at h1
  rw [h1] at hq
  have h2 := hc' (j % E.sz) _ (List.getElem?_eq_getElem hm)
  rw [← hj2] at h2
  rw [h2]; exact hq

/-- append to a slice that has no room: a new row -/
theorem Enc.appendFull {α : Type} {E : Enc α} {P : Program} {w : World} {ops : Array Oper} {rest : List Oper} {o : Oper} {a : Act} {Q : Exit → Act → World → Prop} (hgd : o.guard = none) (s x : Operand) (t : TypeId)
    (ho : o.op = .call { callee := .builtin .append, args := #[s, x], argTypes := #[t, t] })
    (e : TypeId) (z : Value) (size bytes : Nat) (ht : P.underlying t = some (.slice e)) (hinfo : (P.info? e).map (fun i => (i.zero, i.size, i.bytes)) = some (some z, size, bytes))
    (hE : E.sz = size) (hzs : z.cells.size = size) (hsz : 0 < size) (hby : 0 < bytes)
    (A : Option Addr) (xs : List α) (cap : Nat) (hs : a.eval s = .slice A xs.length cap) (hcap : cap = xs.length) (his0 : E.Is w (.slice A xs.length cap) xs)
    (u : Value) (ys : List α) (hx : a.eval x = u) (his : E.Is w u ys) (hy : ys ≠ [])
    (hlen : (xs.length + ys.length) * bytes ≤ 140737488355328)
    (h : ∀ v' w', E.Own e w' w.heap.size v' (xs ++ ys) → w.grownBy w' none → wpList P ops Q rest (a.put o.dst v') w') : wpList P ops Q (o :: rest) a w := by
  obtain ⟨i, hi, hz, hs1, hb1⟩ := info_parts hinfo
  obtain ⟨A', c', e0, _, _, hn0, hA0⟩ := his0
  simp at e0
  obtain ⟨rfl, rfl⟩ := e0
  obtain ⟨B, c, rfl, hc, _, hAn, hA⟩ := his
  have hmax : xs.length + ys.length ≤ maxLen := by
    have : (xs.length + ys.length) * 1 ≤ (xs.length + ys.length) * bytes := Nat.mul_le_mul_left _ hby
    unfold maxLen; omega
  obtain ⟨y, hy0⟩ : ∃ y, ys[0]? = some y := by cases ys with | nil => exact absurd rfl hy | cons y _ => exact ⟨y, rfl⟩
  obtain ⟨ad, rfl, _⟩ := hA 0 y hy0
  have hpos : 0 < ys.length := by cases ys with | nil => exact absurd rfl hy | cons _ _ => simp
  refine wpList_append_grows w hgd s x t ho e i z size bytes ht hi hz hs1 hb1 hzs hsz A xs.length cap (xs.flatMap E.c) hs (fun hA => ⟨by have := hn0 hA; omega, hn0 hA⟩) (by rw [flat_len, hE])
    (fun b hb j q hq => by subst hb; exact Enc.At.cells (by omega) hA0 j q hq) ad ys.length c (ys.flatMap E.c) hx (by rw [flat_len, hE]) (fun j q hq => Enc.At.cells (by omega) hA j q hq) (flat_one E ys) (by omega) hmax hlen ?_
  intro v' w' h1 h2
  refine h v' w' ?_ h2
  unfold Enc.Own
  rw [List.flatMap_append, List.length_append, hE]; exact h1

/-- 'x[:hi:hi]' -/
theorem slice_full {α : Type} {E : Enc α} {P : Program} {t : TypeId} (ht : P.underlying t = some (.slice (P.elem t))) (hs : ∀ w, (sizeOf (P.elem t)).run P w = .ok E.sz w) (A : Option Addr) (c : Nat) (xs : List α) (hi : Nat) (h2 : hi ≤ xs.length) (hc : xs.length ≤ c) :
    (∀ w, (Instr.slice t (.slice A xs.length c) none (some (.int .i64 hi)) (some (.int .i64 hi))).run P w = .ok (.slice A hi hi) w) ∧ ∀ w, E.Is w (.slice A xs.length c) xs → E.Is w (.slice A hi hi) (xs.take hi) := by
  refine ⟨fun w => ?_, fun w h => ?_⟩
  · have hn : (0 : Int) ≤ (hi : Int) ∧ (hi : Int) ≤ (c : Int) := by omega
    have hn2 : (0 : Int) ≤ (hi : Int) ∧ (hi : Int) ≤ (hi : Int) := by omega
    have hm : A.map (fun x => x.add 0) = A := by cases A <;> rfl
    simp [Instr.slice, run_underlying ht, Instr.sliceBounds, Instr.sliceBound, asIntOf, hs]
    rw [if_pos (by omega : hi ≤ c), hm, ite_self]
  · obtain ⟨A', c', e, g1, g2, g3, g4⟩ := h
    simp at e
    obtain ⟨rfl, rfl⟩ := e
    have hl : (xs.take hi).length = hi := by rw [List.length_take]; omega
    refine ⟨A, hi, by rw [hl], by rw [hl]; exact Nat.le_refl _, by omega, fun hA => by have := g3 hA; omega, fun i x hx => ?_⟩
    rw [List.getElem?_take] at hx
    split at hx
    · exact g4 i x hx
    · cases hx
end Go.Ov

/- Rows whose elements lead on: what stays true while a row grows in its place. No program in sight. -/
namespace Go.Ov
open Go.RowKit

/-- true, whatever is written into one block, and whatever is made -/
def Stab (w : World) (row : Option Nat) (P : World → Prop) : Prop := ∀ w', w.grownBy w' row → P w'
theorem Stab.here {w : World} {row : Option Nat} {P : World → Prop} (h : Stab w row P) : P w := h w (World.grownBy.refl w row)
theorem Stab.bl {w w1 : World} {row : Option Nat} {P : World → Prop} (h : Stab w row P) (hb : Bl w w1) : Stab w1 row P := fun w' hg =>
  h w' ⟨hg.os.trans hb.os, hg.tape.trans hb.tape, hg.output.trans hb.output, Nat.le_trans hb.size hg.size, fun k hk hr => (hg.block k (Nat.lt_of_lt_of_le hk hb.size) hr).trans (hb.block k hk)⟩
/-- the row is another one: the same block, or a new one -/
def Lies (w : World) (row row' : Option Nat) : Prop := row' = row ∨ ∃ g, row' = some g ∧ w.heap.size ≤ g
theorem Stab.grow {w w1 : World} {row row' : Option Nat} {P : World → Prop} (h : Stab w row P) (hg : w.grownBy w1 row) (hl : Lies w row row') : Stab w1 row' P := fun w' hg' =>
  h w' ⟨hg'.os.trans hg.os, hg'.tape.trans hg.tape, hg'.output.trans hg.output, Nat.le_trans hg.size hg'.size, fun k hk hr => by
    rw [hg'.block k (Nat.lt_of_lt_of_le hk hg.size) ?_, hg.block k hk hr]
    rcases hl with rfl | ⟨g, rfl, h1⟩
    · exact hr
    · intro e; injection e with e; omega⟩
theorem Stab.old {W w : World} {row : Option Nat} {P : World → Prop} (hP : ∀ {a b : World}, P a → Bl a b → P b) (h : P W) (hb : Bl W w) (hr : ∀ g, row = some g → W.heap.size ≤ g) : Stab w row P := fun w' hg =>
  hP h (Bl.grown hb hg hr)
theorem Stab.own {α : Type} {E : Enc α} {e : TypeId} {w : World} {base : Nat} {v : Value} {xs : List α} {row : Option Nat} (h : E.Own e w base v xs) (hr : ∀ g, row = some g → g < base) : Stab w row (fun w' => E.Own e w' base v xs) := fun _ hg =>
  h.grown hg (by
    cases hv : v.ownBlock with
    | none => exact .inl rfl
    | some k => refine .inr fun hk => ?_
                have := (h.lt k hv).1
                have := hr k hk.symm
                omega)
theorem Stab.mono {w : World} {row : Option Nat} {P Q : World → Prop} (h : Stab w row P) (hi : ∀ w', P w' → Q w') : Stab w row Q := fun w' hg => hi _ (h w' hg)
theorem Stab.and {w : World} {row : Option Nat} {P Q : World → Prop} (h : Stab w row P) (hi : Stab w row Q) : Stab w row (fun w' => P w' ∧ Q w') := fun w' hg => ⟨h w' hg, hi w' hg⟩
theorem Stab.drewN {w : World} {row : Option Nat} {P : World → Prop} (h : Stab w row P) (n : Nat) : Stab (w.drewN n) row P := h.bl ((Bl.refl w).drewN n)

theorem Stab.set {w : World} {g : Nat} {P : World → Prop} (h : Stab w (some g) P) (j : Nat) (u : Value) : Stab (w.setCell ⟨g, j, none⟩ u) (some g) P :=
  h.grow ⟨rfl, rfl, rfl, by simp [World.setCell], fun k _ hk => setCell_else _ _ _ _ _ (fun e => hk (by rw [e]))⟩ (.inl rfl)
/-- owned, two blocks aside -/
theorem Stab.own2 {α : Type} {E : Enc α} {e : TypeId} {w : World} {base : Nat} {v : Value} {xs : List α} {row : Option Nat} {B : Nat} (h : E.Own e w base v xs) (hr : ∀ g, row = some g → g < base) (hB : B < base) :
    Stab w row (fun w' => Stab w' (some B) fun w'' => E.Own e w'' base v xs) := (Stab.own h hr).mono fun w' h => Stab.own h (fun g hg => by injection hg with hg; omega)

section
variable {α : Type} {E : Enc α}
theorem Enc.Own.wpAppendL {P : Program} {w : World} {o : Oper} {a : Act} {K : Act → World → Prop} {Q : Exit → Act → World → Prop} (s x : Operand) (t : TypeId)
    (ho : o.op = .call { callee := .builtin .append, args := #[s, x], argTypes := #[t, t] })
    (base : Nat) (e : TypeId) (z : Value) (size bytes : Nat) (ht : P.underlying t = some (.slice e)) (hinfo : (P.info? e).map (fun i => (i.zero, i.size, i.bytes)) = some (some z, size, bytes))
    (hE : E.sz = size) (hzs : z.cells.size = size) (hsz : 0 < size) (hby : 0 < bytes)
    (v : Value) (xs : List α) (hs : a.eval s = v) (hown : E.Own e w base v xs)
    (u : Value) (ys : List α) (hx : a.eval x = u) (his : E.Is w u ys) (hne : ys ≠ [])
    (hlen : (xs.length + ys.length) * bytes ≤ 140737488355328) (hbase : base ≤ w.heap.size)
    (h : ∀ v' w', E.Own e w' base v' (xs ++ ys) → w.grownBy w' v.ownBlock → Lies w v.ownBlock v'.ownBlock → K (a.put o.dst v') w') : o.wp P a w K Q := by
  obtain ⟨i, hi, hz, hs1, hb1⟩ := info_parts hinfo
  obtain ⟨A, c, rfl, hc, _, hAn, hA⟩ := his
  have hmax : xs.length + ys.length ≤ maxLen := by
    have : (xs.length + ys.length) * 1 ≤ (xs.length + ys.length) * bytes := Nat.mul_le_mul_left _ hby
    unfold maxLen; omega
  obtain ⟨y, hy0⟩ : ∃ y, ys[0]? = some y := by cases ys with | nil => exact absurd rfl hne | cons y _ => exact ⟨y, rfl⟩
  obtain ⟨ad, rfl, _⟩ := hA 0 y hy0
  have hnews : ∀ j q, (ys.flatMap E.c)[j]? = some q → w.cell? (ad.add j) = some q := by
    intro j q hq
    have hj : j < ys.length * E.sz := by have := (List.getElem?_eq_some_iff.1 hq).1; rwa [flat_len] at this
    have hi' : j / E.sz < ys.length := by rw [Nat.div_lt_iff_lt_mul (by omega)]; exact hj
    obtain ⟨ad', e', hc'⟩ := hA (j / E.sz) ys[j / E.sz] (List.getElem?_eq_getElem hi')
    obtain rfl : ad = ad' := by injection e'
    have hm : j % E.sz < (E.c ys[j / E.sz]).length := by rw [E.len]; exact Nat.mod_lt _ (by omega)
    have hj2 : j = j / E.sz * E.sz + j % E.sz := by rw [Nat.mul_comm]; exact (Nat.div_add_mod j E.sz).symm
    have h1 := flat_get E ys (j / E.sz) _ (List.getElem?_eq_getElem hi') (j % E.sz) _ (List.getElem?_eq_getElem hm)
    rw [← hj2] at h1
    rw [h1] at hq
    have h2 := hc' (j % E.sz) _ (List.getElem?_eq_getElem hm)
    rw [← hj2] at h2
    rw [h2]; exact hq
  refine wp_append_lies w s x t ho base e i z size bytes ht hi hz hs1 hb1 hzs hsz v xs.length _ hs (by rw [← hE]; exact hown) ad ys.length c (ys.flatMap E.c) hx (by rw [flat_len, hE]) hnews (flat_one E ys) (List.length_pos_iff.2 hne) hmax hlen hbase w.heap.size rfl ?_
  intro g cap w' h1 h2 h3 h4
  refine h _ w' ?_ h2 ?_
  · unfold Enc.Own
    rw [List.flatMap_append, List.length_append, hE]; exact h1
  · rcases h3 with h3 | h3
    · left; rw [h3]; rfl
    · right; exact ⟨g, rfl, by omega⟩
/-- append of one element that stands in a block of its own; where the row lies then -/
theorem Enc.Own.append1L {P : Program} {w : World} {ops : Array Oper} {rest : List Oper} {o : Oper} {a : Act} {Q : Exit → Act → World → Prop} (hgd : o.guard = none) (s x : Operand) (t : TypeId)
    (ho : o.op = .call { callee := .builtin .append, args := #[s, x], argTypes := #[t, t] })
    (base : Nat) (e : TypeId) (z : Value) (size bytes : Nat) (ht : P.underlying t = some (.slice e)) (hinfo : (P.info? e).map (fun i => (i.zero, i.size, i.bytes)) = some (some z, size, bytes))
    (hE : E.sz = size) (hzs : z.cells.size = size) (hsz : 0 < size) (hby : 0 < bytes)
    (v : Value) (xs : List α) (hs : a.eval s = v) (hown : E.Own e w base v xs)
    (y : α) (cs : Array Value) (hcs : cs.toList = E.c y) {N : Nat} (hN : N = w.heap.size) (hx : a.eval x = .slice (some ⟨N, 0, none⟩) 1 1)
    (hlen : (xs.length + 1) * bytes ≤ 140737488355328) (hbase : base ≤ w.heap.size)
    (h : ∀ v' w', E.Own e w' base v' (xs ++ [y]) → (w.alloc (.cells cs e)).grownBy w' v.ownBlock → Lies (w.alloc (.cells cs e)) v.ownBlock v'.ownBlock → wpList P ops Q rest (a.put o.dst v') w') : wpList P ops Q (o :: rest) a (w.alloc (.cells cs e)) :=
  wpList_plain hgd fun _ hK => Enc.Own.wpAppendL s x t ho base e z size bytes ht hinfo hE hzs hsz hby v xs hs (hown.bl ((Bl.refl _).alloc _)) _ [y] hx
    (Enc.Own.lit (E := E) w 0 [y] cs (by simpa using hcs) 1 rfl (Nat.zero_le _) (by decide) hN).is (by simp) hlen (Nat.le_trans hbase ((Bl.refl w).alloc _).size) fun v' w' h1 h2 h3 => hK _ _ (h v' w' h1 h2 h3)
end
end Go.Ov

/- States as data; how they lie in memory. No program in sight. -/
namespace Go.Ov
open Go.RowKit

/-- how a track lies: its name, its tree's block -/
structure TH where
  id : Int
  b : Nat
def TH.v (h : TH) : Value := .agg #[.int .i64 h.id, .pointer (some ⟨h.b, 0, none⟩)]
def trackE : Enc TH := ⟨2, fun h => [.int .i64 h.id, .pointer (some ⟨h.b, 0, none⟩)], fun _ => rfl, fun x u h => by simp at h; rcases h with rfl | rfl <;> rfl⟩
instance : Inhabited TH := ⟨⟨0, 0⟩⟩
abbrev TrackM := Int × TreeM
abbrev StM := List TrackM
def TrackR (w : World) (t : TrackM) (h : TH) : Prop := h.id = t.1 ∧ TreeIs w (.pointer (some ⟨h.b, 0, none⟩)) t.2
def TRows (w : World) (hs : List TH) (s : StM) : Prop := hs.length = s.length ∧ ∀ (i : Nat) (x : TrackM) (h : TH), s[i]? = some x → hs[i]? = some h → TrackR w x h
theorem TrackR.bl {w w' : World} {t : TrackM} {h : TH} (hr : TrackR w t h) (hb : Bl w w') : TrackR w' t h := ⟨hr.1, hr.2.bl hb⟩
theorem TRows.bl {w w' : World} {hs : List TH} {s : StM} (h : TRows w hs s) (hb : Bl w w') : TRows w' hs s := ⟨h.1, fun i x y hx hy => (h.2 i x y hx hy).bl hb⟩
theorem TRows.nil (w : World) : TRows w [] [] := ⟨rfl, fun i x h hx => by simp at hx⟩
theorem TRows.at {w : World} {hs : List TH} {s : StM} (hr : TRows w hs s) (k : Nat) (h : k < s.length) : ∃ h' : k < hs.length, TrackR w s[k] hs[k] :=
  ⟨by rw [hr.1]; exact h, hr.2 k _ _ (List.getElem?_eq_getElem h) (List.getElem?_eq_getElem _)⟩
theorem TRows.cons {w : World} {hs : List TH} {s : StM} {h : TH} {t : TrackM} (h0 : TrackR w t h) (hr : TRows w hs s) : TRows w (h :: hs) (t :: s) := by
  refine ⟨by simp [hr.1], fun i x y hx hy => ?_⟩
  cases i with
  | zero => simp at hx hy; subst hx; subst hy; exact h0
  | succ i => simp at hx hy; exact hr.2 i x y hx hy
theorem TRows.uncons {w : World} {hs : List TH} {s : StM} {t : TrackM} (hr : TRows w hs (t :: s)) : ∃ h hs', hs = h :: hs' ∧ TrackR w t h ∧ TRows w hs' s := by
  cases hs with
  | nil => have := hr.1; simp at this
  | cons h hs =>
    refine ⟨h, hs, rfl, hr.2 0 t h rfl rfl, by have := hr.1; simpa using this, fun i x y hx hy => hr.2 (i + 1) x y (by simpa using hx) (by simpa using hy)⟩
theorem TRows.ids {w : World} : ∀ {s : StM} {hs : List TH}, TRows w hs s → hs.map TH.id = s.map (·.1)
  | [], hs, hr => by
    have : hs = [] := List.eq_nil_of_length_eq_zero hr.1
    subst this; rfl
  | t :: s, hs, hr => by
    obtain ⟨h, hs', rfl, h0, h1⟩ := hr.uncons
    rw [List.map_cons, List.map_cons, TRows.ids h1, h0.1]
theorem TRows.filter {w : World} (p : Int → Bool) : ∀ {s : StM} {hs : List TH}, TRows w hs s → TRows w (hs.filter fun h => p h.id) (s.filter fun t => p t.1)
  | [], hs, hr => by
    have : hs = [] := List.eq_nil_of_length_eq_zero hr.1
    subst this; exact TRows.nil w
  | t :: s, hs, hr => by
    obtain ⟨h, hs', rfl, h0, h1⟩ := hr.uncons
    have ih := TRows.filter p h1
    have e : h.id = t.1 := h0.1
    cases hp : p t.1 with
    | true => rw [List.filter_cons_of_pos (by simpa [e] using hp), List.filter_cons_of_pos (by simpa using hp)]; exact TRows.cons h0 ih
    | false => rw [List.filter_cons_of_neg (by simpa [e] using hp), List.filter_cons_of_neg (by simpa using hp)]; exact ih
theorem TRows.take {w : World} {hs : List TH} {s : StM} (hr : TRows w hs s) (k : Nat) : TRows w (hs.take k) (s.take k) := by
  refine ⟨by simp [hr.1], fun i x y hx hy => ?_⟩
  rw [List.getElem?_take] at hx hy
  split at hx
  · rename_i hi
    rw [if_pos hi] at hy
    exact hr.2 i x y hx hy
  · cases hx
theorem TRows.drop {w : World} {hs : List TH} {s : StM} (hr : TRows w hs s) (k : Nat) : TRows w (hs.drop k) (s.drop k) :=
  ⟨by simp [hr.1], fun i x y hx hy => hr.2 (k + i) x y (by rw [List.getElem?_drop] at hx; exact hx) (by rw [List.getElem?_drop] at hy; exact hy)⟩
theorem TRows.append {w : World} : ∀ {s : StM} {hs : List TH} {s2 : StM} {hs2 : List TH}, TRows w hs s → TRows w hs2 s2 → TRows w (hs ++ hs2) (s ++ s2)
  | [], hs, s2, hs2, hr, h2 => by
    have : hs = [] := List.eq_nil_of_length_eq_zero hr.1
    subst this; exact h2
  | t :: s, hs, s2, hs2, hr, h2 => by
    obtain ⟨h, hs', rfl, h0, h1⟩ := hr.uncons
    exact TRows.cons h0 (TRows.append h1 h2)

theorem track_at {w : World} {A : Option Addr} {xs : List TH} (h : trackE.At w A xs) (k : Nat) (hk : k < xs.length) :
    ∃ ad, A = some ad ∧ w.cell? (ad.add (k * 2)) = some (.int .i64 xs[k].id) ∧ w.cell? ⟨(ad.add (k * 2)).block, (ad.add (k * 2)).off + 1, none⟩ = some (.pointer (some ⟨xs[k].b, 0, none⟩)) := by
  obtain ⟨ad, e, hc⟩ := h k _ (List.getElem?_eq_getElem hk)
  refine ⟨ad, e, ?_, ?_⟩
  · exact hc 0 _ rfl
  · rw [← add_at _ _ 1 (by decide)]; exact hc 1 _ rfl

/-- a state: a block with one cell, the row of tracks -/
def StateIs (w : World) (v : Value) (s : StM) : Prop := ∃ (b : Nat) (u : Head) (hs : List TH), v = .pointer (some ⟨b, 0, none⟩) ∧ w.cell? ⟨b, 0, none⟩ = some u.v ∧ trackE.Is w u.v hs ∧ TRows w hs s
theorem StateIs.bl {w w' : World} {v : Value} {s : StM} (h : StateIs w v s) (hb : Bl w w') : StateIs w' v s := by
  obtain ⟨b, u, hs, e, h0, h1, h2⟩ := h
  exact ⟨b, u, hs, e, hb.cell h0, h1.bl hb, h2.bl hb⟩

/-- the place of a track, from number k on (-1: there is none) -/
def idxFrom (id : Int) : Nat → List Int → Int
  | _, [] => -1
  | k, x :: l => if x = id then k else idxFrom id (k + 1) l
def findS (s : StM) (id : Int) : Int := idxFrom id 0 (s.map (·.1))
def withoutS (s : StM) (id : Int) : StM := s.filter fun t => t.1 != id
def below (id : Int) : StM → Nat
  | [] => 0
  | t :: s => if t.1 < id then below id s + 1 else 0
def insertS (s : StM) (id : Int) (t : TreeM) : StM := s.take (below id s) ++ (id, t) :: s.drop (below id s)
def putL (s : StM) (id : Int) (t : TreeM) : StM := insertS (withoutS s id) id t
end Go.Ov

/- Worlds of which only some blocks are seen: what lies in these blocks alone. No program in sight. -/
namespace Go.Ov
open Go.RowKit

/-- a world of which only some blocks are seen -/
def only (w : World) (G : Nat → Bool) : World := { w with heap := w.heap.mapIdx fun i o => if G i then o else .cells #[] 0 (0, 0) }
theorem only_size (w : World) (G : Nat → Bool) : (only w G).heap.size = w.heap.size := by simp [only]
theorem only_get (w : World) (G : Nat → Bool) (b : Nat) (h : G b = true) : (only w G).heap[b]? = w.heap[b]? := by
  simp only [only, Array.getElem?_mapIdx, h, if_true]
  cases w.heap[b]? <;> rfl
theorem only_cell {w : World} {G : Nat → Bool} {a : Addr} {v : Value} (h : (only w G).cell? a = some v) : G a.block = true ∧ w.cell? a = some v := by
  cases hg : G a.block with
  | true =>
    refine ⟨rfl, ?_⟩
    unfold World.cell? at h ⊢
    rwa [only_get w G a.block hg] at h
  | false =>
    unfold World.cell? at h
    have : (only w G).heap[a.block]? = (w.heap[a.block]?).map fun _ => .cells #[] 0 (0, 0) := by
      simp only [only, Array.getElem?_mapIdx, hg]
      cases w.heap[a.block]? <;> rfl
    rw [this] at h
    cases hh : w.heap[a.block]? with
    | none => rw [hh] at h; cases h
    | some o =>
      rw [hh] at h
      simp at h
theorem cell_only {w : World} {G : Nat → Bool} {a : Addr} {v : Value} (hg : G a.block = true) (h : w.cell? a = some v) : (only w G).cell? a = some v := by
  unfold World.cell? at h ⊢
  rwa [only_get w G a.block hg]
/-- every cell of the one is there in the other -/
def Sub (a b : World) : Prop := ∀ ad v, a.cell? ad = some v → b.cell? ad = some v
theorem Sub.refl (a : World) : Sub a a := fun _ _ h => h
theorem Sub.trans {a b c : World} (h : Sub a b) (k : Sub b c) : Sub a c := fun _ _ q => k _ _ (h _ _ q)
theorem Sub.bl {a b : World} (h : Bl a b) : Sub a b := fun _ _ q => h.cell q
theorem Sub.un (w : World) (G : Nat → Bool) : Sub (only w G) w := fun _ _ h => (only_cell h).2
theorem Sub.mono {w : World} {G G' : Nat → Bool} (h : ∀ b, G b = true → G' b = true) : Sub (only w G) (only w G') := fun _ _ q => cell_only (h _ (only_cell q).1) (only_cell q).2
theorem Bl.only {a b : World} (h : Bl a b) (G : Nat → Bool) : Bl (only a G) (only b G) := ⟨h.os, h.tape, h.output, by rw [only_size, only_size]; exact h.size, fun k hk => by
  rw [only_size] at hk
  have := h.block k hk
  simp only [Go.Ov.only, Array.getElem?_mapIdx, this]⟩
theorem Sub.grown {a b : World} {row : Option Nat} (h : a.grownBy b row) {G : Nat → Bool} (hg : ∀ k, row = some k → G k = false) : Sub (only a G) (only b G) := fun ad v q => by
  obtain ⟨h1, h2⟩ := only_cell q
  refine cell_only h1 ?_
  have hlt := World.block_lt_of_cell? a ad h2
  unfold World.cell? at h2 ⊢
  rw [h.block ad.block hlt (fun e => by rw [hg _ e.symm] at h1; cases h1)]; exact h2
theorem Sub.at {a b : World} (h : Sub a b) {α : Type} {E : Enc α} {A : Option Addr} {xs : List α} (hA : E.At a A xs) : E.At b A xs := fun i x hx => by
  obtain ⟨ad, e, hc⟩ := hA i x hx
  exact ⟨ad, e, fun j u hu => h _ _ (hc j u hu)⟩
theorem Sub.is {a b : World} (h : Sub a b) {α : Type} {E : Enc α} {v : Value} {xs : List α} (hA : E.Is a v xs) : E.Is b v xs := by
  obtain ⟨A, c, e, hl, hm, hn, hA⟩ := hA
  exact ⟨A, c, e, hl, hm, hn, h.at hA⟩
theorem Sub.node {a b : World} (h : Sub a b) {n : NodeM} {p : NH} (hr : NodeR a n p) : NodeR b n p := by
  induction hr with
  | mk l f q x y z hs h1 h2 h3 h4 _ ih => exact .mk l f q x y z hs (h.is h1) (h.is h2) (h.is h3) h4 ih
theorem Sub.nodes {a b : World} (h : Sub a b) {hs : List NH} {ns : List NodeM} (hr : NRows a hs ns) : NRows b hs ns := ⟨hr.1, fun i x y hx hy => h.node (hr.2 i x y hx hy)⟩
theorem Sub.tree {a b : World} (h : Sub a b) {v : Value} {t : TreeM} (ht : TreeIs a v t) : TreeIs b v t := by
  obtain ⟨b', u, n, e, h0, h1, h2, h3, h4, h5⟩ := ht
  exact ⟨b', u, n, e, h _ _ h0, h _ _ h1, h _ _ h2, h _ _ h3, h.is h4, h.node h5⟩
theorem Sub.trows {a b : World} (h : Sub a b) {hs : List TH} {s : StM} (hr : TRows a hs s) : TRows b hs s := ⟨hr.1, fun i x y hx hy => ⟨(hr.2 i x y hx hy).1, h.tree (hr.2 i x y hx hy).2⟩⟩
theorem Sub.state {a b : World} (h : Sub a b) {v : Value} {s : StM} (hs : StateIs a v s) : StateIs b v s := by
  obtain ⟨b', u, hs, e, h0, h1, h2⟩ := hs
  exact ⟨b', u, hs, e, h _ _ h0, h.is h1, h.trows h2⟩
/-- new blocks -/
def fr (w : World) : Nat → Bool := fun b => decide (w.heap.size ≤ b)
/-- these, and new ones -/
def gor (G : Nat → Bool) (w : World) : Nat → Bool := fun b => G b || decide (w.heap.size ≤ b)
theorem fr_le {w w' : World} (h : w.heap.size ≤ w'.heap.size) (b : Nat) (hb : fr w' b = true) : fr w b = true := by simp [fr] at *; omega
theorem fr_gor (G : Nat → Bool) (w : World) (b : Nat) (h : fr w b = true) : gor G w b = true := by simp [fr, gor] at *; exact .inr h
theorem gor_l (G : Nat → Bool) (w : World) (b : Nat) (h : G b = true) : gor G w b = true := by simp [gor, h]
theorem gor_le {G : Nat → Bool} {w w' : World} (h : w.heap.size ≤ w'.heap.size) (b : Nat) (hb : gor G w' b = true) : gor G w b = true := by
  simp [gor] at *
  rcases hb with hb | hb
  · exact .inl hb
  · exact .inr (by omega)
theorem gor_gor {G : Nat → Bool} {w w' : World} (h : w.heap.size ≤ w'.heap.size) (b : Nat) (hb : gor (gor G w) w' b = true) : gor G w b = true := by
  simp [gor] at *
  rcases hb with (hb | hb) | hb
  · exact .inl hb
  · exact .inr hb
  · exact .inr (by omega)
theorem fr_ge {w : World} {k base : Nat} (h : w.heap.size ≤ base) (hk : base ≤ k) : fr w k = true := by simp [fr]; omega
theorem Enc.Own.isM {α : Type} {E : Enc α} {e : TypeId} {w : World} {base : Nat} {v : Value} {xs : List α} (h : E.Own e w base v xs) {G : Nat → Bool} (hG : ∀ k, base ≤ k → G k = true) : E.Is (only w G) v xs := by
  have hl := h.lt
  obtain ⟨A, c, rfl, h1, h2, h3, h4⟩ := h.is
  refine ⟨A, c, rfl, h1, h2, h3, fun i x hx => ?_⟩
  obtain ⟨ad, rfl, hc⟩ := h4 i x hx
  refine ⟨ad, rfl, fun j u hu => cell_only ?_ (hc j u hu)⟩
  have hb : ∀ k, (ad.add k).block = ad.block := fun k => by unfold Addr.add; split <;> rfl
  rw [hb]
  exact hG _ (hl ad.block (by simp [Value.ownBlock])).1
theorem Blk.only {w : World} {b : Nat} {cs : Array Value} {T : TypeId} (h : Blk w b cs T) {G : Nat → Bool} (hG : G b = true) : Blk (only w G) b cs T := by
  unfold Blk at *; rw [only_get w G b hG]; exact h
end Go.Ov
