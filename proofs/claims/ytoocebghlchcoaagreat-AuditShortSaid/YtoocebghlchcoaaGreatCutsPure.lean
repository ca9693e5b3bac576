/- What ExtentCuts says of valid rows, in plain words; a block that a call owns and stores into. No program in sight. -/
import Derived.Test.YtoocebghlchcoaaGreatExtPure
namespace Go.Ov
open Go.RowKit

theorem cutE_clamp {a : Int} {e : Ext} {l : List Ext} (fr tt E : Int) (ha : 0 ≤ a) (h : validFrom a (e :: l) = true) (hE : a + endM (e :: l) ≤ E) (_ : endM (e :: l) + a ≤ 1000) (hl : 0 ≤ endM l) :
    cutE (max fr 0) (min tt E) e = cutE fr tt e := by
  have hc := valid_cons h
  obtain ⟨c0, c1⟩ := hc
  have ht : endM (e :: l) = e.take + endM l := rfl
  have hw : wrap64 (e.at_ + e.take) = e.at_ + e.take := by
    have : 1 ≤ e.take := by simp [validFrom, oneB] at h; omega
    exact wrap_id (by omega) (by omega)
  unfold cutE
  rw [hw, show max e.at_ (max fr 0) = max e.at_ fr by omega, show min (e.at_ + e.take) (min tt E) = min (e.at_ + e.take) tt by omega]
theorem cut_clamp : ∀ (l : List Ext) (a fr tt E : Int), 0 ≤ a → a ≤ 1000 → validFrom a l = true → a + endM l ≤ E → cutM (max fr 0) (min tt E) l = cutM fr tt l
  | [], _, _, _, _, _, _, _, _ => rfl
  | e :: l, a, fr, tt, E, ha, ha2, h, hE => by
    have hb := valid_bd _ a ha2 h
    have hv : validFrom (a + e.take) l = true := by simp [validFrom] at h; exact h.2
    have hk : 1 ≤ e.take ∧ e.take ≤ 1000 - a := by simp [validFrom, oneB] at h; omega
    have hl := valid_bd l (a + e.take) (by omega) hv
    have ht : endM (e :: l) = e.take + endM l := rfl
    unfold cutM
    rw [List.flatMap_cons, List.flatMap_cons, cutE_clamp fr tt E ha h hE (by omega) hl.1]
    congr 1
    exact cut_clamp l (a + e.take) fr tt E (by omega) (by omega) hv (by omega)

/-- a block that is owned from a base on -/
def OwnBlk (T : TypeId) (w : World) (base g n : Nat) : Prop := base ≤ g ∧ ∃ cur, w.heap[g]? = some (.cells cur T (0, 0)) ∧ n ≤ cur.size
theorem OwnBlk.of {α : Type} {E : Enc α} {T : TypeId} {w : World} {base : Nat} {g n cap : Nat} {xs : List α} (h : E.Own T w base (.slice (some ⟨g, 0, none⟩) n cap) xs) : OwnBlk T w base g (n * E.sz) := by
  obtain ⟨h1, h2⟩ := h
  rcases h2 with ⟨h2, _⟩ | ⟨g', c, cur, h2, h3, h4, h5, h6, h7, h8⟩
  · cases h2
  · simp at h2
    obtain ⟨rfl, rfl, rfl⟩ := h2
    exact ⟨h3, cur, h4, by rw [h7]; exact Nat.mul_le_mul_right _ h5⟩
theorem OwnBlk.cell {T : TypeId} {w : World} {base g n : Nat} (h : OwnBlk T w base g n) (j : Nat) (hj : j < n) : (∃ u, w.cell? ⟨g, j, none⟩ = some u) ∧ w.frozen? ⟨g, j, none⟩ = false := by
  obtain ⟨_, cur, h1, h2⟩ := h
  refine ⟨⟨cur[j]'(by omega), ?_⟩, ?_⟩
  · unfold World.cell?; simp only [h1]; simp [show j < cur.size by omega]
  · unfold World.frozen?; simp only [h1]; simp
theorem Enc.Own.parts {α : Type} {E : Enc α} {T : TypeId} {w : World} {base : Nat} {v : Value} {xs : List α} (h : E.Own T w base v xs) :
    (v = .slice none 0 0 ∧ xs.length = 0) ∨ ∃ g c, v = .slice (some ⟨g, 0, none⟩) xs.length c ∧ OwnBlk T w base g (xs.length * E.sz) := by
  have hh := h
  obtain ⟨h1, h2⟩ := h
  rcases h2 with ⟨h2, h3⟩ | ⟨g', c, cur, h2, _⟩
  · exact .inl ⟨h2, h3⟩
  · subst h2
    exact .inr ⟨g', c, rfl, OwnBlk.of hh⟩
theorem setCell_at (w : World) (g j : Nat) (u : Value) (cur : Array Value) (T : TypeId) (fr : Nat × Nat) (h : w.heap[g]? = some (.cells cur T fr)) :
    (w.setCell ⟨g, j, none⟩ u).heap[g]? = some (.cells (cur.setIfInBounds j u) T fr) := by
  unfold World.setCell
  simp only [Array.getElem?_modify, if_true, h, Option.map_some, Option.isSome_none, Bool.false_eq_true, if_false]
theorem setCell_else (w : World) (g j k : Nat) (u : Value) (h : g ≠ k) : (w.setCell ⟨g, j, none⟩ u).heap[k]? = w.heap[k]? := by
  unfold World.setCell
  simp only [Array.getElem?_modify, if_neg h]
theorem OwnBlk.set {T : TypeId} {w : World} {base g n : Nat} (h : OwnBlk T w base g n) (j : Nat) (u : Value) : OwnBlk T (w.setCell ⟨g, j, none⟩ u) base g n := by
  obtain ⟨h0, cur, h1, h2⟩ := h
  exact ⟨h0, _, setCell_at w g j u cur T _ h1, by simpa using h2⟩
theorem Bl.set {w0 w : World} (h : Bl w0 w) (g j : Nat) (u : Value) (hg : w0.heap.size ≤ g) : Bl w0 (w.setCell ⟨g, j, none⟩ u) :=
  ⟨h.os, h.tape, h.output, by have := h.size; simpa [World.setCell] using this, fun k hk => by rw [setCell_else _ _ _ _ _ (by omega)]; exact h.block k hk⟩
end Go.Ov
