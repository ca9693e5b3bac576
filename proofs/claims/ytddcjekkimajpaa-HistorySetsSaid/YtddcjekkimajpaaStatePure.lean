/- States in plain words: what put, delete and apply make. -/
import Derived.Test.YtddcjekkimajpaaStateApply
namespace Go.Proofs.Ytddcjekkimajpaa.ExtW
open Go.RowKit Go.Ov Go.Proofs.Ytddcjekkimajpaa.Need

theorem getS_none {s : StM} {id : Int} : getS s id = none ↔ ∀ t ∈ s, t.1 ≠ id := by
  induction s with
  | nil => simp [getS]
  | cons t s ih =>
    unfold getS
    by_cases e : t.1 = id
    · rw [if_pos e]; simp [e]
    · rw [if_neg e, ih]; simp [e]
theorem getS_append {a b : StM} {id : Int} (h : getS a id = none) : getS (a ++ b) id = getS b id := by
  induction a with
  | nil => rfl
  | cons t a ih =>
    unfold getS at h
    by_cases e : t.1 = id
    · rw [if_pos e] at h; cases h
    · rw [if_neg e] at h
      rw [List.cons_append]
      conv => lhs; unfold getS
      rw [if_neg e]; exact ih h
theorem getS_append_some {a b : StM} {id : Int} {t : TreeM} (h : getS a id = some t) : getS (a ++ b) id = some t := by
  induction a with
  | nil => cases h
  | cons x a ih =>
    unfold getS at h
    rw [List.cons_append]
    unfold getS
    by_cases e : x.1 = id
    · rw [if_pos e] at h ⊢; exact h
    · rw [if_neg e] at h ⊢; exact ih h
theorem without_none (s : StM) (id : Int) : getS (withoutS s id) id = none := by
  rw [getS_none]
  intro t ht
  have := (List.mem_filter.1 ht).2
  simpa using this
theorem without_other {s : StM} {id j : Int} (h : j ≠ id) : getS (withoutS s id) j = getS s j := by
  induction s with
  | nil => rfl
  | cons t s ih =>
    unfold withoutS at ih ⊢
    by_cases e : t.1 = id
    · rw [List.filter_cons_of_neg (by simpa using e), ih]
      conv => rhs; unfold getS
      rw [if_neg (by rw [e]; exact fun h' => h h'.symm)]
    · rw [List.filter_cons_of_pos (by simpa using e)]
      unfold getS
      rw [ih]
theorem getS_split (a b : StM) (t : TrackM) (j : Int) : getS (a ++ t :: b) j = if t.1 = j ∧ getS a j = none then some t.2 else getS (a ++ b) j := by
  cases h : getS a j with
  | none =>
    rw [getS_append h, getS_append h]
    conv => lhs; unfold getS
    by_cases e : t.1 = j
    · rw [if_pos e, if_pos ⟨e, rfl⟩]
    · rw [if_neg e, if_neg (fun q => e q.1)]
  | some x => rw [getS_append_some h, getS_append_some h, if_neg (fun q => by cases q.2)]
theorem put_get (s : StM) (id j : Int) (t : TreeM) : getS (putL s id t) j = if j = id then some t else getS s j := by
  unfold putL insertS
  rw [getS_split, List.take_append_drop]
  by_cases e : j = id
  · subst e
    have hn : getS ((withoutS s j).take (below j (withoutS s j))) j = none := by
      rw [getS_none]
      intro x hx
      exact getS_none.1 (without_none s j) x (List.mem_of_mem_take hx)
    rw [if_pos ⟨rfl, hn⟩, if_pos rfl]
  · rw [if_neg (fun q => e q.1.symm), if_neg e, without_other e]
theorem put_len (s : StM) (id : Int) (t : TreeM) : (putL s id t).length = (withoutS s id).length + 1 := by
  unfold putL insertS
  have := below_le id (withoutS s id)
  simp; omega
theorem put_mem {s : StM} {id : Int} {t : TreeM} {x : TrackM} (h : x ∈ putL s id t) : x = (id, t) ∨ x ∈ s := by
  unfold putL insertS at h
  rcases List.mem_append.1 h with h | h
  · exact .inr (List.mem_filter.1 (List.mem_of_mem_take h)).1
  · rcases List.mem_cons.1 h with h | h
    · exact .inl h
    · exact .inr (List.mem_filter.1 (List.mem_of_mem_drop h)).1

/-- rising names -/
def Rising (s : StM) : Prop := s.Pairwise fun a b => a.1 < b.1
theorem without_rising {s : StM} (h : Rising s) (id : Int) : Rising (withoutS s id) := List.Pairwise.sublist List.filter_sublist h
theorem without_len_none {s : StM} {id : Int} (h : getS s id = none) : (withoutS s id).length = s.length := by
  unfold withoutS
  rw [List.filter_eq_self.2]
  intro t ht
  have := getS_none.1 h t ht
  simpa using this
theorem without_len_some : ∀ {s : StM} {id : Int} {t : TreeM}, Rising s → getS s id = some t → (withoutS s id).length + 1 = s.length
  | [], _, _, _, h => by cases h
  | x :: s, id, t, hr, h => by
    obtain ⟨h1, h2⟩ := List.pairwise_cons.1 hr
    unfold getS at h
    by_cases e : x.1 = id
    · have hn : getS s id = none := by
        rw [getS_none]
        intro y hy
        have := h1 y hy
        omega
      have := without_len_none hn
      unfold withoutS at this ⊢
      rw [List.filter_cons_of_neg (by simpa using e), this]; rfl
    · rw [if_neg e] at h
      have ih := without_len_some h2 h
      unfold withoutS at ih ⊢
      rw [List.filter_cons_of_pos (by simpa using e), List.length_cons, List.length_cons, ih]
theorem put_rising {s : StM} (h : Rising s) (id : Int) (t : TreeM) : Rising (putL s id t) := by
  have hw := without_rising h id
  have hne : ∀ x ∈ withoutS s id, x.1 ≠ id := fun x hx => getS_none.1 (without_none s id) x hx
  unfold putL insertS
  generalize withoutS s id = S at *
  have hlo : ∀ x ∈ S.take (below id S), x.1 < id := by
    intro x hx
    obtain ⟨k, hk, rfl⟩ := List.getElem_of_mem hx
    rw [List.length_take] at hk
    rw [List.getElem_take]
    exact below_lt id S k (by omega) (by omega)
  have hhi : ∀ x ∈ S.drop (below id S), id < x.1 := by
    intro x hx
    obtain ⟨k, hk, rfl⟩ := List.getElem_of_mem hx
    rw [List.length_drop] at hk
    rw [List.getElem_drop]
    have h0 : below id S < S.length := by omega
    have hg := below_ge id S h0
    have hn := hne S[below id S] (List.getElem_mem h0)
    rcases Nat.eq_zero_or_pos k with rfl | hp
    · simp only [Nat.add_zero]; omega
    · have := List.pairwise_iff_getElem.1 hw (below id S) (below id S + k) h0 (by omega) (by omega)
      omega
  refine List.pairwise_append.2 ⟨hw.sublist (List.take_sublist _ _), List.pairwise_cons.2 ⟨fun x hx => hhi x hx, hw.sublist (List.drop_sublist _ _)⟩, fun a ha b hb => ?_⟩
  rcases List.mem_cons.1 hb with rfl | hb
  · exact hlo a ha
  · exact Int.lt_trans (hlo a ha) (hhi b hb)

/-- states as they come about -/
def SOK (s : StM) : Prop := StOK s ∧ Rising s
theorem SOK.nil : SOK [] := ⟨⟨by decide, fun t h => by cases h⟩, List.Pairwise.nil⟩
theorem SOK.without {s : StM} (h : SOK s) (id : Int) : SOK (withoutS s id) :=
  ⟨⟨Nat.le_trans (List.length_filter_le _ _) h.1.1, fun t ht => h.1.2 t (List.mem_filter.1 ht).1⟩, without_rising h.2 id⟩
theorem SOK.put {s : StM} (h : SOK s) {id : Int} {t : TreeM} (ht : validFrom 0 t.row = true) (hz : (putR s id t).2 = 0) : SOK (putR s id t).1 := by
  unfold putR at *
  split at hz
  · cases hz
  · rename_i hb
    rw [if_neg hb]
    split at hz
    · cases hz
    · rename_i hl
      rw [if_neg hl]
      refine ⟨⟨?_, fun x hx => ?_⟩, put_rising h.2 id t⟩
      · rw [put_len]
        cases hg : getS s id with
        | none =>
          rw [without_len_none hg]
          have := find_none hg
          omega
        | some y => rw [without_len_some h.2 hg]; exact h.1.1
      · rcases put_mem hx with rfl | hx
        · exact ht
        · exact h.1.2 x hx
theorem SOK.apply {s : StM} (h : SOK s) {r : Rec} (hz : (applyR s r).2 = 0) : SOK (applyR s r).1 := by
  unfold applyR at *
  split at hz
  · cases hz
  · rename_i h0
    rw [if_neg h0]
    split at hz
    · rename_i h1
      rw [if_pos h1]
      split at hz
      · cases hz
      · rename_i h2
        rw [if_neg h2]
        exact h.put rfl hz
    · rename_i h1
      rw [if_neg h1]
      cases hg : getS s r.track with
      | none => simp only [hg] at hz; cases hz
      | some t =>
        simp only [hg] at hz ⊢
        have hv : validFrom 0 t.row = true := by
          rcases findS_get s r.track with ⟨_, g2⟩ | ⟨i, hi, _, _, g3⟩
          · rw [hg] at g2; cases g2
          · rw [hg] at g3; injection g3 with g3; rw [g3]; exact h.1.2 s[i] (List.getElem_mem hi)
        unfold applyT at *
        split at hz
        · rename_i h2
          rw [if_pos h2]; exact h.without _
        · rename_i h2
          rw [if_neg h2]
          split at hz
          · cases hz
          · rename_i h3
            rw [if_neg h3]
            by_cases h4 : (spliceOf t r).2 = 0
            · rw [if_pos h4] at hz ⊢
              exact h.put (splice_row_valid hv h4) hz
            · rw [if_neg h4] at hz
              exact absurd hz h4
def recC (id : Int) : Rec := ⟨1, id, 0, 0, []⟩
def recD (id : Int) : Rec := ⟨2, id, 0, 0, []⟩
theorem valid_recC (id : Int) (h0 : 0 ≤ id) (h1 : id ≤ 99) : validRec (recC id) = true := by simp [validRec, recC, noneB, trackB, h0, h1]
theorem valid_recD (id : Int) (h0 : 0 ≤ id) (h1 : id ≤ 99) : validRec (recD id) = true := by simp [validRec, recD, noneB, trackB, h0, h1]
theorem apply_C (s : StM) (id : Int) (h0 : 0 ≤ id) (h1 : id ≤ 99) :
    (getS s id ≠ none → applyR s (recC id) = ([], 6)) ∧ (getS s id = none → 6 ≤ s.length → applyR s (recC id) = ([], 4)) ∧ (getS s id = none → s.length < 6 → applyR s (recC id) = (putL s id (treeM []), 0)) := by
  have e : applyR s (recC id) = if 0 ≤ findS s id then ([], 6) else putR s id (treeM []) := by
    unfold applyR
    rw [if_neg (by rw [valid_recC id h0 h1]; simp [recC]), if_pos (show (recC id).kind = 1 from rfl)]; rfl
  rw [e]
  refine ⟨fun hg => ?_, fun hg hl => ?_, fun hg hl => ?_⟩
  · rcases findS_get s id with ⟨_, g2⟩ | ⟨i, hi, g1, _⟩
    · exact absurd g2 hg
    · rw [if_pos (by omega)]
  · have := find_none hg
    rw [if_neg (by omega)]
    unfold putR
    rw [if_neg (by omega), if_pos ⟨by omega, hl⟩]
  · have := find_none hg
    rw [if_neg (by omega)]
    unfold putR
    rw [if_neg (by omega), if_neg (by omega)]
theorem apply_D (s : StM) (id : Int) (h0 : 0 ≤ id) (h1 : id ≤ 99) :
    (getS s id = none → applyR s (recD id) = ([], 5)) ∧ (getS s id ≠ none → applyR s (recD id) = (withoutS s id, 0)) := by
  have e : applyR s (recD id) = match getS s id with | none => ([], 5) | some t => applyT s (recD id) t := by
    unfold applyR
    rw [if_neg (by rw [valid_recD id h0 h1]; simp [recD]), if_neg (by simp [recD])]; rfl
  rw [e]
  refine ⟨fun hg => by rw [hg], fun hg => ?_⟩
  cases h : getS s id with
  | none => exact absurd h hg
  | some t => simp only; unfold applyT; rw [if_pos (show (recD id).kind = 2 from rfl)]; rfl
end Go.Proofs.Ytddcjekkimajpaa.ExtW
