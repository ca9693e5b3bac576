/- Several texts joined (see each one's head). -/
import Derived.Test.YtoocebghlchcoaaGreatPkAA
/- Rows of extents, sample by sample: cut, shifted, spliced rows. No program in sight. -/
namespace Go.Ov
open Go.RowKit

def spotE (e : Ext) : List (Int × Int) := (List.range e.take.toNat).map fun k => (e.sector, e.skip + (k : Nat))
def spotsM (l : List Ext) : List (Int × Int) := l.flatMap spotE

theorem range_cut {β : Type} (f : Nat → β) (n p q : Nat) : (((List.range n).map f).drop p).take q = (List.range (min (n - p) q)).map fun k => f (p + k) := by
  apply List.ext_getElem
  · simp; omega
  · intro i h1 h2
    simp at h1 h2 ⊢

/-- what a valid row's first extent tells -/
theorem valid_cons {a : Int} {e : Ext} {l : List Ext} (h : validFrom a (e :: l) = true) :
    e.at_ = a ∧ 1 ≤ e.sector ∧ e.sector < 4096 ∧ e.count ≤ 64 ∧ 0 ≤ e.skip ∧ e.skip < e.count ∧ 1 ≤ e.take ∧ e.take ≤ e.count - e.skip ∧ a + e.take ≤ 1000 ∧ validFrom (a + e.take) l = true := by
  simp only [validFrom, oneB, Bool.and_eq_true, decide_eq_true_eq, beq_iff_eq] at h
  obtain ⟨⟨⟨h1, h2⟩, h3⟩, h4⟩ := h
  exact ⟨h2, h1.1.1.1.1.1.1, h1.1.1.1.1.1.2, h1.1.1.1.1.2, h1.1.1.1.2, h1.1.1.2, h1.1.2, h1.2, by omega, h4⟩
theorem valid_mk {a : Int} {e : Ext} {l : List Ext} (h0 : e.at_ = a) (h1 : 1 ≤ e.sector) (h2 : e.sector < 4096) (h3 : e.count ≤ 64) (h4 : 0 ≤ e.skip) (h5 : e.skip < e.count) (h6 : 1 ≤ e.take) (h7 : e.take ≤ e.count - e.skip)
    (h8 : a + e.take ≤ 1000) (h9 : validFrom (a + e.take) l = true) : validFrom a (e :: l) = true := by
  simp only [validFrom, oneB, h9, Bool.and_true, Bool.and_eq_true, decide_eq_true_eq, beq_iff_eq]
  exact ⟨⟨⟨⟨⟨⟨⟨⟨h1, h2⟩, h3⟩, h4⟩, h5⟩, h6⟩, h7⟩, h0⟩, by omega⟩

theorem endM_cons (e : Ext) (l : List Ext) : endM (e :: l) = e.take + endM l := rfl
theorem endM_append (l m : List Ext) : endM (l ++ m) = endM l + endM m := by unfold endM; rw [List.map_append, List.sum_append]
theorem spotsM_append (l m : List Ext) : spotsM (l ++ m) = spotsM l ++ spotsM m := by unfold spotsM; rw [List.flatMap_append]
theorem spotsM_cons (e : Ext) (l : List Ext) : spotsM (e :: l) = spotE e ++ spotsM l := by unfold spotsM; rw [List.flatMap_cons]
theorem spotE_len (e : Ext) : (spotE e).length = e.take.toNat := by simp [spotE]
theorem spotsM_len : ∀ (l : List Ext) (a : Int), validFrom a l = true → ((spotsM l).length : Int) = endM l
  | [], _, _ => rfl
  | e :: l, a, h => by
    obtain ⟨_, _, _, _, _, _, h6, _, _, h9⟩ := valid_cons h
    have := spotsM_len l _ h9
    rw [spotsM_cons, List.length_append, spotE_len, endM_cons]; omega
theorem valid_append : ∀ (l m : List Ext) (a : Int), validFrom a (l ++ m) = (validFrom a l && validFrom (a + endM l) m)
  | [], m, a => by simp [validFrom, endM]
  | e :: l, m, a => by
    rw [List.cons_append, validFrom, validFrom, valid_append l m, endM_cons, Int.add_assoc]
    simp only [Bool.and_assoc]
theorem valid_bd (l : List Ext) (a : Int) (ha : a ≤ 1000) (h : validFrom a l = true) : 0 ≤ endM l ∧ a + endM l ≤ 1000 := by
  have := validFrom_bd l a ha h; omega

/-- no wrap in a shift -/
theorem shift_valid : ∀ (l : List Ext) (a b : Int), 0 ≤ a + b → a + b + endM l ≤ 1000 → 0 ≤ a → a ≤ 1000 → validFrom a l = true → validFrom (a + b) (shiftM b l) = true
  | [], _, _, _, _, _, _, _ => rfl
  | e :: l, a, b, h0, h1, ha, ha', hv => by
    obtain ⟨e0, e1, e2, e3, e4, e5, e6, e7, e8, e9⟩ := valid_cons hv
    rw [endM_cons] at h1
    have hb := valid_bd l _ e8 e9
    have ih := shift_valid l (a + e.take) b (by omega) (by omega) (by omega) e8 e9
    have hw : wrap64 (e.at_ + b) = a + b := by rw [e0]; exact wrap_id (by omega) (by omega)
    show validFrom (a + b) (shiftE b e :: shiftM b l) = true
    refine valid_mk (e := shiftE b e) hw e1 e2 e3 e4 e5 e6 e7 ?_ ?_
    · show a + b + e.take ≤ 1000; omega
    · show validFrom (a + b + e.take) _ = true
      rw [show a + b + e.take = a + e.take + b by omega]; exact ih
theorem spotsM_shift (b : Int) (l : List Ext) : spotsM (shiftM b l) = spotsM l := by
  unfold spotsM shiftM; rw [List.flatMap_map]; rfl
theorem endM_shift (b : Int) (l : List Ext) : endM (shiftM b l) = endM l := by
  unfold endM shiftM; rw [List.map_map]; rfl

theorem cutE_val {a : Int} {e : Ext} (x y : Int) (h0 : e.at_ = a) (ha : 0 ≤ a) (h4 : 0 ≤ e.skip) (h5 : e.skip < e.count) (h3 : e.count ≤ 64) (h6 : 1 ≤ e.take) (h8 : a + e.take ≤ 1000) :
    cutE x y e = if max a x < min (a + e.take) y then [⟨max a x, e.sector, e.count, e.skip + max a x - a, min (a + e.take) y - max a x⟩] else [] := by
  unfold cutE
  rw [h0, wrap_id (a := a + e.take) (by omega) (by omega)]
  split
  · rename_i h
    rw [wrap_id (a := e.skip + max a x) (by omega) (by omega), wrap_id (a := e.skip + max a x - a) (by omega) (by omega), wrap_id (a := min (a + e.take) y - max a x) (by omega) (by omega)]
  · rfl

theorem cut_nil : ∀ (l : List Ext) (a x y : Int), 0 ≤ a → validFrom a l = true → y ≤ max a x → cutM x y l = []
  | [], _, _, _, _, _, _ => rfl
  | e :: l, a, x, y, ha, hv, hy => by
    obtain ⟨e0, e1, e2, e3, e4, e5, e6, e7, e8, e9⟩ := valid_cons hv
    have ih := cut_nil l (a + e.take) x y (by omega) e9 (by omega)
    unfold cutM at ih ⊢
    rw [List.flatMap_cons, ih, cutE_val x y e0 ha e4 e5 e3 e6 e8, if_neg (by omega)]; rfl

theorem cut_valid : ∀ (l : List Ext) (a x y : Int), 0 ≤ a → validFrom a l = true → validFrom (max a x) (cutM x y l) = true
  | [], _, _, _, _, _ => rfl
  | e :: l, a, x, y, ha, hv => by
    obtain ⟨e0, e1, e2, e3, e4, e5, e6, e7, e8, e9⟩ := valid_cons hv
    have ih := cut_valid l (a + e.take) x y (by omega) e9
    show validFrom (max a x) (cutE x y e ++ cutM x y l) = true
    rw [cutE_val x y e0 ha e4 e5 e3 e6 e8]
    split
    · rename_i h
      rw [List.singleton_append]
      refine valid_mk (e := ⟨max a x, e.sector, e.count, e.skip + max a x - a, min (a + e.take) y - max a x⟩) rfl e1 e2 e3 ?_ ?_ ?_ ?_ ?_ ?_
      all_goals dsimp only
      · omega
      · omega
      · omega
      · omega
      · omega
      · by_cases hq : y ≤ a + e.take
        · rw [cut_nil l (a + e.take) x y (by omega) e9 (by omega)]; rfl
        · rw [show max a x + (min (a + e.take) y - max a x) = max (a + e.take) x by omega]; exact ih
    · rename_i h
      rw [List.nil_append]
      by_cases hq : y ≤ max a x
      · rw [cut_nil l (a + e.take) x y (by omega) e9 (by omega)]; rfl
      · rw [show max a x = max (a + e.take) x by omega]; exact ih

theorem cut_spots : ∀ (l : List Ext) (a x y : Int), 0 ≤ a → validFrom a l = true → spotsM (cutM x y l) = ((spotsM l).drop (x - a).toNat).take (y - max a x).toNat
  | [], _, _, _, _, _ => by simp [cutM, spotsM]
  | e :: l, a, x, y, ha, hv => by
    obtain ⟨e0, e1, e2, e3, e4, e5, e6, e7, e8, e9⟩ := valid_cons hv
    have ih := cut_spots l (a + e.take) x y (by omega) e9
    have hE : spotsM (cutE x y e) = ((spotE e).drop (x - a).toNat).take (y - max a x).toNat := by
      rw [cutE_val x y e0 ha e4 e5 e3 e6 e8]
      unfold spotE
      rw [range_cut]
      split
      · rename_i h
        simp only [spotsM, List.flatMap_cons, List.flatMap_nil, List.append_nil, spotE]
        rw [show min (e.take.toNat - (x - a).toNat) (y - max a x).toNat = (min (a + e.take) y - max a x).toNat by omega]
        apply List.map_congr_left
        intro k _
        simp only [Prod.mk.injEq, true_and]
        omega
      · rename_i h
        rw [show min (e.take.toNat - (x - a).toNat) (y - max a x).toNat = 0 by omega]; rfl
    show spotsM (cutE x y e ++ cutM x y l) = _
    rw [spotsM_append, hE, ih, spotsM_cons, List.drop_append, List.take_append, spotE_len, List.length_drop, spotE_len]
    congr 2
    · omega
    · congr 1; omega
theorem cut_end (l : List Ext) (a x y : Int) (ha : 0 ≤ a) (ha' : a ≤ 1000) (hv : validFrom a l = true) : endM (cutM x y l) = max 0 (min y (a + endM l) - max a x) := by
  have h1 := spotsM_len _ _ (cut_valid l a x y ha hv)
  have h2 := spotsM_len _ _ hv
  have hb := valid_bd l a ha' hv
  rw [cut_spots l a x y ha hv, List.length_take, List.length_drop] at h1
  omega

/-- what a splice makes -/
theorem splice_spots (l new : List Ext) (fr tt : Int) (hv : validFrom 0 l = true) (h0 : 0 ≤ fr) (h1 : fr ≤ tt) (_ : fr ≤ endM l) :
    spotsM (spliceL l fr tt new) = (spotsM l).take fr.toNat ++ spotsM new ++ (spotsM l).drop (min tt (endM l)).toNat := by
  have hl := spotsM_len l 0 hv
  unfold spliceL
  rw [spotsM_append, spotsM_append, spotsM_shift, spotsM_shift, cut_spots l 0 _ _ (Int.le_refl _) hv, cut_spots l 0 _ _ (Int.le_refl _) hv]
  congr 1
  · congr 1
    rw [show (0 - 0 : Int).toNat = 0 from rfl, List.drop_zero]; congr 1; omega
  · rw [List.take_of_length_le (by rw [List.length_drop]; omega)]; congr 1; omega
theorem splice_end (l new : List Ext) (fr tt : Int) (hv : validFrom 0 l = true) (h0 : 0 ≤ fr) (h1 : fr ≤ tt) (h2 : fr ≤ endM l) :
    endM (spliceL l fr tt new) = fr + endM new + endM l - min tt (endM l) := by
  unfold spliceL
  rw [endM_append, endM_append, endM_shift, endM_shift, cut_end l 0 _ _ (Int.le_refl _) (by decide) hv, cut_end l 0 _ _ (Int.le_refl _) (by decide) hv]
  have := valid_bd l 0 (by decide) hv
  omega
theorem splice_valid (l new : List Ext) (fr tt : Int) (hv : validFrom 0 l = true) (hn : validFrom 0 new = true) (h0 : 0 ≤ fr) (h1 : fr ≤ tt) (h2 : fr ≤ endM l) (h3 : fr + endM new + endM l - min tt (endM l) ≤ 1000) :
    validFrom 0 (spliceL l fr tt new) = true := by
  have b1 := valid_bd l 0 (by decide) hv
  have b2 := valid_bd new 0 (by decide) hn
  have c1 := cut_end l 0 0 fr (Int.le_refl _) (by decide) hv
  have c2 := cut_end l 0 (min tt (endM l)) (endM l) (Int.le_refl _) (by decide) hv
  unfold spliceL
  rw [valid_append, valid_append, endM_append, endM_shift, c1, Bool.and_eq_true, Bool.and_eq_true]
  refine ⟨⟨?_, ?_⟩, ?_⟩
  · have := cut_valid l 0 0 fr (Int.le_refl _) hv; exact this
  · have := shift_valid new 0 fr (by omega) (by omega) (by omega) (by omega) hn
    rw [show (0 : Int) + max 0 (min fr (0 + endM l) - max 0 0) = 0 + fr by omega]; exact this
  · have hc := cut_valid l 0 (min tt (endM l)) (endM l) (Int.le_refl _) hv
    have := shift_valid (cutM (min tt (endM l)) (endM l) l) (max 0 (min tt (endM l))) (fr + endM new - min tt (endM l)) (by omega) (by rw [c2]; omega) (by omega) (by omega) hc
    rw [show (0 : Int) + (max 0 (min fr (0 + endM l) - max 0 0) + endM new) = max 0 (min tt (endM l)) + (fr + endM new - min tt (endM l)) by omega]; exact this
end Go.Ov

/- What ExtentCuts says of valid rows, in plain words; a block that a call owns and stores into. No program in sight. -/
namespace Go.Ov
open Go.RowKit

theorem cutE_clamp {a : Int} {e : Ext} {l : List Ext} (fr tt E : Int) (ha : 0 ≤ a) (h : validFrom a (e :: l) = true) (hE : a + endM (e :: l) ≤ E) (_ : endM (e :: l) + a ≤ 1000) (hl : 0 ≤ endM l) :
    cutE (max fr 0) (min tt E) e = cutE fr tt e := by
  have hc := valid_cons h
  obtain ⟨c0, c1⟩ := hc
  have ht : endM (e :: l) = e.take + endM l := rfl
  have hw : wrap64 (e.at_ + e.take) = e.at_ + e.take := by
    have : 1 ≤ e.take := by simp [validFrom, oneB] at h; omega
    exact wrap_id (by omega) (by omega)
  unfold cutE
  rw [hw, show max e.at_ (max fr 0) = max e.at_ fr by omega, show min (e.at_ + e.take) (min tt E) = min (e.at_ + e.take) tt by omega]
theorem cut_clamp : ∀ (l : List Ext) (a fr tt E : Int), 0 ≤ a → a ≤ 1000 → validFrom a l = true → a + endM l ≤ E → cutM (max fr 0) (min tt E) l = cutM fr tt l
  | [], _, _, _, _, _, _, _, _ => rfl
  | e :: l, a, fr, tt, E, ha, ha2, h, hE => by
    have hb := valid_bd _ a ha2 h
    have hv : validFrom (a + e.take) l = true := by simp [validFrom] at h; exact h.2
    have hk : 1 ≤ e.take ∧ e.take ≤ 1000 - a := by simp [validFrom, oneB] at h; omega
    have hl := valid_bd l (a + e.take) (by omega) hv
    have ht : endM (e :: l) = e.take + endM l := rfl
    unfold cutM
    rw [List.flatMap_cons, List.flatMap_cons, cutE_clamp fr tt E ha h hE (by omega) hl.1]
    congr 1
    exact cut_clamp l (a + e.take) fr tt E (by omega) (by omega) hv (by omega)

/-- a block that is owned from a base on -/
def OwnBlk (T : TypeId) (w : World) (base g n : Nat) : Prop := base ≤ g ∧ ∃ cur, w.heap[g]? = some (.cells cur T (0, 0)) ∧ n ≤ cur.size
theorem OwnBlk.of {α : Type} {E : Enc α} {T : TypeId} {w : World} {base : Nat} {g n cap : Nat} {xs : List α} (h : E.Own T w base (.slice (some ⟨g, 0, none⟩) n cap) xs) : OwnBlk T w base g (n * E.sz) := by
  obtain ⟨h1, h2⟩ := h
  rcases h2 with ⟨h2, _⟩ | ⟨g', c, cur, h2, h3, h4, h5, h6, h7, h8⟩
  · cases h2
  · simp at h2
    obtain ⟨rfl, rfl, rfl⟩ := h2
    exact ⟨h3, cur, h4, by rw [h7]; exact Nat.mul_le_mul_right _ h5⟩
theorem OwnBlk.cell {T : TypeId} {w : World} {base g n : Nat} (h : OwnBlk T w base g n) (j : Nat) (hj : j < n) : (∃ u, w.cell? ⟨g, j, none⟩ = some u) ∧ w.frozen? ⟨g, j, none⟩ = false := by
  obtain ⟨_, cur, h1, h2⟩ := h
  refine ⟨⟨cur[j]'(by omega), ?_⟩, ?_⟩
  · unfold World.cell?; simp only [h1]; simp [show j < cur.size by omega]
  · unfold World.frozen?; simp only [h1]; simp
theorem Enc.Own.parts {α : Type} {E : Enc α} {T : TypeId} {w : World} {base : Nat} {v : Value} {xs : List α} (h : E.Own T w base v xs) :
    (v = .slice none 0 0 ∧ xs.length = 0) ∨ ∃ g c, v = .slice (some ⟨g, 0, none⟩) xs.length c ∧ OwnBlk T w base g (xs.length * E.sz) := by
  have hh := h
  obtain ⟨h1, h2⟩ := h
  rcases h2 with ⟨h2, h3⟩ | ⟨g', c, cur, h2, _⟩
  · exact .inl ⟨h2, h3⟩
  · subst h2
    exact .inr ⟨g', c, rfl, OwnBlk.of hh⟩
theorem setCell_at (w : World) (g j : Nat) (u : Value) (cur : Array Value) (T : TypeId) (fr : Nat × Nat) (h : w.heap[g]? = some (.cells cur T fr)) :
    (w.setCell ⟨g, j, none⟩ u).heap[g]? = some (.cells (cur.setIfInBounds j u) T fr) := by
  unfold World.setCell
  simp only [Array.getElem?_modify, if_true, h, Option.map_some, Option.isSome_none, Bool.false_eq_true, if_false]
theorem setCell_else (w : World) (g j k : Nat) (u : Value) (h : g ≠ k) : (w.setCell ⟨g, j, none⟩ u).heap[k]? = w.heap[k]? := by
  unfold World.setCell
  simp only [Array.getElem?_modify, if_neg h]
theorem OwnBlk.set {T : TypeId} {w : World} {base g n : Nat} (h : OwnBlk T w base g n) (j : Nat) (u : Value) : OwnBlk T (w.setCell ⟨g, j, none⟩ u) base g n := by
  obtain ⟨h0, cur, h1, h2⟩ := h
  exact ⟨h0, _, setCell_at w g j u cur T _ h1, by simpa using h2⟩
theorem Bl.set {w0 w : World} (h : Bl w0 w) (g j : Nat) (u : Value) (hg : w0.heap.size ≤ g) : Bl w0 (w.setCell ⟨g, j, none⟩ u) :=
  ⟨h.os, h.tape, h.output, by have := h.size; simpa [World.setCell] using this, fun k hk => by rw [setCell_else _ _ _ _ _ (by omega)]; exact h.block k hk⟩
end Go.Ov

/- Blocks known whole. No program in sight. -/
namespace Go.Ov
open Go.RowKit

/-- a block, known whole -/
def Blk (w : World) (b : Nat) (cs : Array Value) (T : TypeId) : Prop := w.heap[b]? = some (.cells cs T (0, 0))
theorem Blk.new (w : World) (cs : Array Value) (T : TypeId) : Blk (w.alloc (.cells cs T)) w.heap.size cs T := heap_alloc_new w _
theorem Blk.lt {w : World} {b : Nat} {cs : Array Value} {T : TypeId} (h : Blk w b cs T) : b < w.heap.size := by
  unfold Blk at h
  by_cases hb : b < w.heap.size
  · exact hb
  · rw [Array.getElem?_eq_none (by omega)] at h; cases h
theorem Blk.bl {w w' : World} {b : Nat} {cs : Array Value} {T : TypeId} (h : Blk w b cs T) (hb : Bl w w') : Blk w' b cs T := by
  have hl := h.lt
  unfold Blk at *
  rw [hb.block b hl]; exact h
theorem Blk.cell {w : World} {b : Nat} {cs : Array Value} {T : TypeId} (h : Blk w b cs T) (j : Nat) : w.cell? ⟨b, j, none⟩ = cs[j]? := cell_of_row w b j cs T (0, 0) h
theorem Blk.frozen {w : World} {b : Nat} {cs : Array Value} {T : TypeId} (h : Blk w b cs T) (j : Nat) : w.frozen? ⟨b, j, none⟩ = false := frozen_of_row w b j cs T h
theorem Blk.set {w : World} {b : Nat} {cs : Array Value} {T : TypeId} (h : Blk w b cs T) (j : Nat) (u : Value) : Blk (w.setCell ⟨b, j, none⟩ u) b (cs.setIfInBounds j u) T := setCell_at w b j u cs T _ h
theorem Blk.set_else {w : World} {b : Nat} {cs : Array Value} {T : TypeId} (h : Blk w b cs T) (g j : Nat) (u : Value) (hg : g ≠ b) : Blk (w.setCell ⟨g, j, none⟩ u) b cs T := by
  unfold Blk at *; rw [setCell_else _ _ _ _ _ hg]; exact h
theorem Blk.drew {w : World} {b : Nat} {cs : Array Value} {T : TypeId} (h : Blk w b cs T) : Blk w.drew b cs T := h
theorem Blk.grown {w w' : World} {b : Nat} {cs : Array Value} {T : TypeId} {row : Option Nat} (h : Blk w b cs T) (hg : w.grownBy w' row) (hr : row ≠ some b) : Blk w' b cs T := by
  have hl := h.lt
  unfold Blk at *
  rw [hg.block b hl (fun e => hr e.symm)]; exact h
theorem Enc.Own.set {α : Type} {E : Enc α} {e : TypeId} {w : World} {base : Nat} {v : Value} {xs : List α} (h : E.Own e w base v xs) (g j : Nat) (u : Value) (hg : g < base) : E.Own e (w.setCell ⟨g, j, none⟩ u) base v xs :=
  h.grown (row := some g) ⟨rfl, rfl, rfl, by simp [World.setCell], fun k _ hk => setCell_else _ _ _ _ _ (fun h => hk (by rw [h]))⟩ (by
    cases hv : v.ownBlock with
    | none => exact .inl rfl
    | some k => refine .inr fun hk => ?_
                have := (h.lt k hv).1
                cases hk
                omega)
end Go.Ov
