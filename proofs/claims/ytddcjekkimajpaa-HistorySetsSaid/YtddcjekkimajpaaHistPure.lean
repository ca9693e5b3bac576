/- Histories in plain words: a row of states, and where in it one is. -/
import Derived.Test.YtddcjekkimajpaaHistWakes
import Derived.Test.YtddcjekkimajpaaSameW
namespace Go.Proofs.Ytddcjekkimajpaa.ExtW
open Go.RowKit Go.Ov Go.Proofs.Ytddcjekkimajpaa.Need

def hAt (S : List StM) (lo p : Nat) : HistM := ⟨S.getD p [], (S.take p).drop lo, (S.drop (p + 1)).reverse⟩
theorem hAt_len1 (S : List StM) (lo p : Nat) (hp : p ≤ S.length) : (hAt S lo p).undo.length = p - lo := by simp [hAt]; omega
theorem hAt_len2 (S : List StM) (lo p : Nat) : (hAt S lo p).redo.length = S.length - (p + 1) := by simp [hAt]
theorem drop_zero' {α : Type} (l : List α) (k : Nat) (h : k = 0) : l.drop k = l := by subst h; rfl
theorem hAt_undo (S : List StM) (lo p : Nat) (hp : p < S.length) (hl : lo < p) (h4 : S.length - p ≤ 4) (h : 0 < (hAt S lo p).undo.length) : undoM (hAt S lo p) h = hAt S lo (p - 1) := by
  obtain ⟨p, rfl⟩ : ∃ q, p = q + 1 := ⟨p - 1, by omega⟩
  have hlen := hAt_len1 S lo (p + 1) (by omega)
  unfold undoM
  rw [drop_zero' _ _ (by rw [hAt_len2]; omega)]
  have e1 : (hAt S lo (p + 1)).undo[(hAt S lo (p + 1)).undo.length - 1]'(by omega) = S.getD p [] := by
    simp only [hAt, List.getElem_drop, List.getElem_take]
    rw [List.getD_eq_getElem?_getD, List.getElem?_eq_getElem (by omega)]
    simp only [Option.getD_some]
    congr 1
    simp; omega
  have e2 : (hAt S lo (p + 1)).undo.take ((hAt S lo (p + 1)).undo.length - 1) = (S.take p).drop lo := by
    rw [hlen]
    simp only [hAt]
    rw [List.drop_take, List.drop_take, List.take_take]
    congr 1; omega
  have e3 : (hAt S lo (p + 1)).redo ++ [(hAt S lo (p + 1)).now] = (S.drop (p + 1)).reverse := by
    simp only [hAt]
    rw [List.drop_eq_getElem_cons hp, List.reverse_cons, List.getD_eq_getElem?_getD, List.getElem?_eq_getElem hp]; rfl
  rw [e1, e2, e3]; rfl
theorem hAt_redo (S : List StM) (lo p : Nat) (hp : p + 1 < S.length) (hl : lo ≤ p) (h4 : p + 1 - lo ≤ 4) (h : 0 < (hAt S lo p).redo.length) : redoM (hAt S lo p) h = hAt S lo (p + 1) := by
  have hlen := hAt_len2 S lo p
  unfold redoM
  rw [drop_zero' _ _ (by rw [hAt_len1 _ _ _ (by omega)]; omega)]
  have e0 : (hAt S lo p).redo = (S.drop (p + 2)).reverse ++ [S[p + 1]] := by
    simp only [hAt]; rw [List.drop_eq_getElem_cons hp, List.reverse_cons]
  have e1 : (hAt S lo p).redo[(hAt S lo p).redo.length - 1]'(by omega) = S.getD (p + 1) [] := by
    have : ∀ (l : List StM) (x : StM) (hh : l.length + 1 - 1 < (l ++ [x]).length), (l ++ [x])[l.length + 1 - 1]'hh = x := fun l x hh => by simp
    simp only [e0, List.length_append, List.length_singleton]
    rw [this, List.getD_eq_getElem?_getD, List.getElem?_eq_getElem hp]; rfl
  have e2 : (hAt S lo p).redo.take ((hAt S lo p).redo.length - 1) = (S.drop (p + 2)).reverse := by
    rw [e0]; simp
  have e3 : (hAt S lo p).undo ++ [(hAt S lo p).now] = (S.take (p + 1)).drop lo := by
    simp only [hAt]
    rw [List.take_succ_eq_append_getElem (by omega), List.drop_append_of_le_length (by simp; omega), List.getD_eq_getElem?_getD, List.getElem?_eq_getElem (by omega)]; rfl
  rw [e1, e2, e3]; rfl
theorem hAt_step (S : List StM) (s : StM) (n : Nat) (hn : S.length = n + 1) : stepH (hAt S (n - 4) n) s = hAt (S ++ [s]) (n + 1 - 4) (n + 1) := by
  unfold stepH
  have e1 : (hAt S (n - 4) n).undo ++ [(hAt S (n - 4) n).now] = S.drop (n - 4) := by
    simp only [hAt]
    rw [List.getD_eq_getElem?_getD, List.getElem?_eq_getElem (by omega)]
    simp only [Option.getD_some]
    rw [← List.drop_append_of_le_length (by simp; omega), ← List.take_succ_eq_append_getElem (by omega), List.take_of_length_le (by omega)]
  rw [e1, hAt_len1 _ _ _ (by omega), List.drop_drop]
  unfold hAt
  congr 1
  · rw [List.getD_eq_getElem?_getD, List.getElem?_append_right (by omega), hn]; simp
  · rw [List.take_append_of_le_length (by omega), List.take_of_length_le (by omega)]
    congr 1; omega
  · simp [hn]

/-- states of few tracks -/
def P5 (s : StM) : Prop := SOK s ∧ ∀ t ∈ s, 0 ≤ t.1 ∧ t.1 < 5
theorem rising_len (hi : Int) : ∀ (s : StM) (lo : Int), Rising s → (∀ t ∈ s, lo ≤ t.1 ∧ t.1 < hi) → lo ≤ hi → lo + s.length ≤ hi
  | [], lo, _, _, h => by simpa using h
  | t :: s, lo, hr, hb, _ => by
    obtain ⟨h1, h2⟩ := List.pairwise_cons.1 hr
    have ht := hb t (by simp)
    have := rising_len hi s (t.1 + 1) h2 (fun x hx => ⟨by have := h1 x hx; omega, (hb x (by simp [hx])).2⟩) (by omega)
    simp only [List.length_cons]
    omega
theorem P5.len {s : StM} (h : P5 s) : s.length ≤ 5 := by have := rising_len 5 s 0 h.1.2 h.2 (by decide); omega
theorem P5.nil : P5 [] := ⟨SOK.nil, fun t h => by cases h⟩
theorem apply_pair (s : StM) (id : Int) (h : SOK s) (hl : s.length ≤ 5) (h0 : 0 ≤ id) (h1 : id ≤ 99) :
    (getS s id = none ∧ applyR s (recC id) = (putL s id (treeM []), 0) ∧ SOK (putL s id (treeM []))) ∨ (getS s id ≠ none ∧ applyR s (recC id) = ([], 6) ∧ applyR s (recD id) = (withoutS s id, 0) ∧ SOK (withoutS s id)) := by
  have hC := apply_C s id h0 h1
  have hD := apply_D s id h0 h1
  by_cases hg : getS s id = none
  · have e := hC.2.2 hg (by omega)
    refine .inl ⟨hg, e, ?_⟩
    have := h.apply (r := recC id) (by rw [e])
    rwa [e] at this
  · exact .inr ⟨hg, hC.1 hg, hD.2 hg, h.without id⟩
theorem P5.put {s : StM} {id : Int} (h : P5 s) (h0 : 0 ≤ id) (h1 : id < 5) (hk : SOK (putL s id (treeM []))) : P5 (putL s id (treeM [])) :=
  ⟨hk, fun t ht => by rcases put_mem ht with rfl | ht; exact ⟨h0, h1⟩; exact h.2 t ht⟩
theorem P5.without {s : StM} {id : Int} (h : P5 s) (hk : SOK (withoutS s id)) : P5 (withoutS s id) := ⟨hk, fun t ht => h.2 t (List.mem_filter.1 ht).1⟩

theorem applyH_C (m : HistM) (id : Int) (h0 : 0 ≤ id) (h1 : id ≤ 99) : applyH m (recC id) = if (applyR m.now (recC id)).2 = 0 then (stepH m (applyR m.now (recC id)).1, 0) else (m, (applyR m.now (recC id)).2) := by
  unfold applyH
  rw [if_neg (by rw [valid_recC id h0 h1]; decide), if_neg (by simp [recC]), if_neg (by simp [recC])]
theorem applyH_D (m : HistM) (id : Int) (h0 : 0 ≤ id) (h1 : id ≤ 99) : applyH m (recD id) = if (applyR m.now (recD id)).2 = 0 then (stepH m (applyR m.now (recD id)).1, 0) else (m, (applyR m.now (recD id)).2) := by
  unfold applyH
  rw [if_neg (by rw [valid_recD id h0 h1]; decide), if_neg (by simp [recD]), if_neg (by simp [recD])]
theorem applyH_U (m : HistM) : applyH m ⟨4, 0, 0, 0, []⟩ = if h : 0 < m.undo.length then (undoM m h, 0) else (m, 5) := by
  unfold applyH
  rw [if_neg (by decide), if_pos rfl]
theorem applyH_R (m : HistM) : applyH m ⟨5, 0, 0, 0, []⟩ = if h : 0 < m.redo.length then (redoM m h, 0) else (m, 5) := by
  unfold applyH
  rw [if_neg (by decide), if_neg (by decide), if_pos rfl]
end Go.Proofs.Ytddcjekkimajpaa.ExtW
