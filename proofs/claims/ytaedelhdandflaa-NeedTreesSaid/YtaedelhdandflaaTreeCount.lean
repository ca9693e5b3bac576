/- How many nodes the tree over a row has: never more than the bound. -/
import Derived.Test.YtaedelhdandflaaTreeOps
namespace Go.Proofs.Ytaedelhdandflaa.ExtW
open Go.RowKit Go.Ov Go.Proofs.Ytaedelhdandflaa.Need

theorem countL_parts (r : List NodeM) : ∀ k, k ≤ grp r.length → countL ((List.range k).map (nodeM r)) = k + countL (r.take (preM r.length (grp r.length) k))
  | 0, _ => by simp [countL, preM_zero]
  | k + 1, h => by
    have ih := countL_parts r k (by omega)
    rw [List.range_succ, List.map_append, countL_append, ih, preM_succ, List.take_add, countL_append]
    simp only [List.map_cons, List.map_nil, countL_cons, countL]
    unfold nodeM
    rw [count_mk]
    unfold partM
    omega
theorem countL_up (r : List NodeM) : countL (upM r) = countL r + grp r.length := by
  unfold upM
  rw [countL_parts r _ (Nat.le_refl _)]
  rcases Nat.eq_zero_or_pos (grp r.length) with h | h
  · have : r.length = 0 := by unfold grp at h; omega
    have : r = [] := List.eq_nil_of_length_eq_zero this
    subst this; simp [h, countL]
  · rw [preM_all _ _ h, List.take_length]; omega
theorem countL_leaves (l : List Ext) : countL (leavesM l) = grp l.length := by
  unfold leavesM
  generalize grp l.length = g
  have : ∀ k, countL ((List.range k).map (leafM l)) = k := by
    intro k
    induction k with
    | zero => simp [countL]
    | succ k ih =>
      rw [List.range_succ, List.map_append, countL_append, ih]
      simp only [List.map_cons, List.map_nil, countL_cons, countL]
      unfold leafM
      rw [count_mk]; simp [countL]
  exact this g
def extra (n : Nat) : Nat := if _h : n ≤ 1 then 0 else grp n + extra (grp n)
  termination_by n
  decreasing_by exact grp_le _ (by omega)
theorem top_count (ns : List NodeM) (h0 : ns ≠ []) : (topM ns).count = countL ns + extra ns.length := by
  generalize hm : ns.length = m
  induction m using Nat.strongRecOn generalizing ns with
  | _ m ih =>
    by_cases h1 : 1 < ns.length
    · have hg := grp_le _ h1
      have hne : upM ns ≠ [] := fun h => by
        have := upM_len ns
        rw [h] at this
        unfold grp at this; simp at this; omega
      have := ih (grp ns.length) (by omega) (upM ns) hne (upM_len ns)
      rw [topM_up ns h1, this, countL_up]
      conv => rhs; unfold extra
      rw [dif_neg (by omega), ← hm]; omega
    · rw [topM_one ns h1]
      cases ns with
      | nil => exact absurd rfl h0
      | cons n l =>
        have hl : l = [] := by
          cases l with
          | nil => rfl
          | cons a b => simp at h1
        subst hl
        unfold extra
        rw [dif_pos (by simp at hm; omega)]
        simp [countL]
theorem extra_le : ∀ (g m : Nat), g ≤ m → extra g ≤ nodes m := by
  intro g
  induction g using Nat.strongRecOn with
  | _ g ih =>
    intro m h
    unfold extra
    split
    · exact Nat.zero_le _
    · rename_i h1
      by_cases h8 : m < 8
      · have : grp g = 1 := by unfold grp; omega
        rw [this]
        unfold extra
        rw [dif_pos (Nat.le_refl 1)]
        have := nodes_pos m (by omega)
        omega
      · have e : nodes m = m / 4 + nodes (m / 4) := by
          conv => lhs; unfold nodes
          rw [if_neg (by omega), if_neg h8]
        have hg : grp g ≤ m / 4 := by unfold grp; omega
        have := ih (grp g) (grp_le g (by omega)) (m / 4) hg
        omega
theorem made_count (l : List Ext) (h : l ≠ []) : (madeM l).count ≤ nodes l.length := by
  have hl : 0 < l.length := List.length_pos_iff.2 h
  have hne : leavesM l ≠ [] := fun e => by
    have := leavesM_len l
    rw [e] at this
    unfold grp at this; simp at this; omega
  unfold madeM
  rw [top_count _ hne, countL_leaves, leavesM_len]
  by_cases h8 : l.length < 8
  · have : grp l.length = 1 := by unfold grp; omega
    rw [this]
    unfold extra
    rw [dif_pos (Nat.le_refl 1)]
    have := nodes_pos l.length hl
    omega
  · have e : nodes l.length = l.length / 4 + nodes (l.length / 4) := by
      conv => lhs; unfold nodes
      rw [if_neg (by omega), if_neg h8]
    have hg : grp l.length ≤ l.length / 4 := by unfold grp; omega
    have := extra_le (grp l.length) (l.length / 4) hg
    omega
theorem top_first (ns : List NodeM) (h0 : ns ≠ []) (h : ∀ x ∈ ns, x.hasFirst = true) : (topM ns).hasFirst = true := by
  generalize hm : ns.length = m
  induction m using Nat.strongRecOn generalizing ns with
  | _ m ih =>
    by_cases h1 : 1 < ns.length
    · have hg := grp_le _ h1
      have hne : upM ns ≠ [] := fun h => by
        have := upM_len ns
        rw [h] at this
        unfold grp at this; simp at this; omega
      rw [topM_up ns h1]
      exact ih (grp ns.length) (by omega) (upM ns) hne (up_first ns h) (upM_len ns)
    · rw [topM_one ns h1]
      cases ns with
      | nil => exact absurd rfl h0
      | cons n l => exact h n (by simp)
theorem nodesOf_first (n : NodeM) (h : n.hasFirst = true) : nodesOf n = n.count := by
  obtain ⟨l, f, p⟩ := n
  rw [nodesOf_eq, if_neg]
  cases p with
  | nil =>
    unfold NodeM.hasFirst at h
    cases l with
    | nil => simp at h
    | cons a b => simp [isE]
  | cons a b => simp [isE]
theorem count_pos (n : NodeM) : 1 ≤ n.count := by
  obtain ⟨l, f, p⟩ := n
  rw [count_mk]; omega
theorem tree_nodes (l : List Ext) : nodesOf (madeM l) ≤ nodes l.length ∧ (l.length = 0 ↔ nodesOf (madeM l) = 0) := by
  by_cases h : l = []
  · subst h
    rw [madeM_nil]
    simp [NodeM.nil, nodesOf]
  · have hne : leavesM l ≠ [] := fun e => by
      have := leavesM_len l
      rw [e] at this
      have hl : 0 < l.length := List.length_pos_iff.2 h
      unfold grp at this; simp at this; omega
    have e := nodesOf_first (madeM l) (top_first _ hne (leaves_first l))
    have h1 := made_count l h
    have h2 := count_pos (madeM l)
    have hl : 0 < l.length := List.length_pos_iff.2 h
    rw [e]
    exact ⟨h1, by omega⟩
theorem made_small (l : List Ext) (h : l.length ≤ 1000) : (madeM l).count ≤ 1000000 := by
  by_cases h0 : l = []
  · subst h0; rw [madeM_nil]; simp [NodeM.nil, NodeM.count, countL]
  · have := made_count l h0
    have := nodes_le l.length
    omega
end Go.Proofs.Ytaedelhdandflaa.ExtW
