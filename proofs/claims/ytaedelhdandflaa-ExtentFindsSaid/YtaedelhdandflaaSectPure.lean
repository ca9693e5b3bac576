/- Rising rows of numbers: what a sort and a compaction make, what a number put in makes. No program in sight. -/
import Derived.Lib.SlicesCompact
import Derived.Test.YtaedelhdandflaaExt
namespace Go.Ov
open Go.Lib

theorem comp_spec (d : Array Int) (hs : ∀ i j, i ≤ j → j < d.size → d[i]! ≤ d[j]!) : ∀ m, m ≤ d.size →
    (compactUpTo d m).Pairwise (· < ·) ∧ ∀ x, x ∈ compactUpTo d m ↔ ∃ j, j < m ∧ d[j]! = x
  | 0, _ => ⟨by simp [compactUpTo], fun x => by simp [compactUpTo]⟩
  | m + 1, hm => by
    obtain ⟨h1, h2⟩ := comp_spec d hs m (by omega)
    rw [compactUpTo_succ]
    by_cases hk : keeps d m = true
    · rw [if_pos hk]
      refine ⟨List.pairwise_append.2 ⟨h1, by simp, fun a ha b hb => ?_⟩, fun x => ?_⟩
      · obtain ⟨j, hj, rfl⟩ := (h2 a).1 ha
        have hb' : b = d[m]! := by simpa using hb
        subst hb'
        have hk' := hk
        simp only [keeps, decide_eq_true_eq] at hk'
        have hne : d[m]! ≠ d[m - 1]! := by rcases hk' with h | h; · omega
                                           · exact h
        have h3 := hs j (m - 1) (by omega) (by omega)
        have h4 := hs (m - 1) m (by omega) (by omega)
        omega
      · rw [List.mem_append, h2, List.mem_singleton]
        constructor
        · rintro (⟨j, hj, rfl⟩ | rfl)
          · exact ⟨j, by omega, rfl⟩
          · exact ⟨m, by omega, rfl⟩
        · rintro ⟨j, hj, rfl⟩
          by_cases e : j = m
          · exact .inr (by rw [e])
          · exact .inl ⟨j, by omega, rfl⟩
    · rw [if_neg hk, List.append_nil]
      refine ⟨h1, fun x => ?_⟩
      rw [h2]
      constructor
      · rintro ⟨j, hj, rfl⟩; exact ⟨j, by omega, rfl⟩
      · rintro ⟨j, hj, rfl⟩
        by_cases e : j = m
        · subst e
          simp only [keeps, decide_eq_true_eq, not_or, Decidable.not_not] at hk
          exact ⟨j - 1, by omega, hk.2.symm⟩
        · exact ⟨j, by omega, rfl⟩

theorem strict_ext : ∀ (a b : List Int), a.Pairwise (· < ·) → b.Pairwise (· < ·) → (∀ x, x ∈ a ↔ x ∈ b) → a = b
  | [], [], _, _, _ => rfl
  | [], y :: b, _, _, h => by have := (h y).2 (by simp); cases this
  | x :: a, [], _, _, h => by have := (h x).1 (by simp); cases this
  | x :: a, y :: b, ha, hb, h => by
    obtain ⟨ha1, ha2⟩ := List.pairwise_cons.1 ha
    obtain ⟨hb1, hb2⟩ := List.pairwise_cons.1 hb
    have e : x = y := by
      rcases List.mem_cons.1 ((h x).1 (by simp)) with e | hx
      · exact e
      · rcases List.mem_cons.1 ((h y).2 (by simp)) with e | hy
        · exact e.symm
        · have := ha1 y hy; have := hb1 x hx; omega
    subst e
    congr 1
    refine strict_ext a b ha2 hb2 fun z => ?_
    constructor
    · intro hz
      rcases List.mem_cons.1 ((h z).1 (by simp [hz])) with e | hz'
      · have := ha1 z hz; omega
      · exact hz'
    · intro hz
      rcases List.mem_cons.1 ((h z).2 (by simp [hz])) with e | hz'
      · have := hb1 z hz; omega
      · exact hz'

/-- sorted, each once -/
def sortedM (l : List Int) : List Int := Lib.compact (l.mergeSort fun x y => decide (x ≤ y))
theorem sortedM_spec (l : List Int) : (sortedM l).Pairwise (· < ·) ∧ ∀ x, x ∈ sortedM l ↔ x ∈ l := by
  have hp : (l.mergeSort fun x y => decide (x ≤ y)).Pairwise (fun x y => decide (x ≤ y) = true) := List.pairwise_mergeSort (by intro a b c; simp; omega) (by intro a b; simp; omega) l
  generalize hz : (l.mergeSort fun x y => decide (x ≤ y)) = z at *
  have hmem : ∀ x, x ∈ z ↔ x ∈ l := fun x => by rw [← hz]; exact List.mem_mergeSort
  obtain ⟨h1, h2⟩ := comp_spec z.toArray (fun i j hij hj => by
    have hj' : j < z.length := by simpa using hj
    have e1 : z.toArray[i]! = z[i]'(by omega) := by simp [show i < z.length by omega]
    have e2 : z.toArray[j]! = z[j]'(by omega) := by simp [hj']
    rw [e1, e2]
    by_cases e : i = j
    · subst e; exact Int.le_refl _
    · have := List.pairwise_iff_getElem.1 hp i j (by omega) (by omega) (by omega)
      simpa using this) z.length (by simp)
  unfold sortedM
  rw [hz]
  refine ⟨h1, fun x => ?_⟩
  rw [← hmem, show Lib.compact z = compactUpTo z.toArray z.length from rfl, h2]
  constructor
  · rintro ⟨j, hj, rfl⟩; simp [hj]
  · intro hx
    obtain ⟨j, hj, rfl⟩ := List.getElem_of_mem hx
    exact ⟨j, hj, by simp [hj]⟩
theorem compact_len (z : List Int) : (Lib.compact z).length ≤ z.length := by
  unfold Lib.compact compactUpTo
  rw [List.length_map]
  have := List.length_filter_le (keeps z.toArray) (List.range z.length)
  simpa using this
theorem sortedM_len (l : List Int) : (sortedM l).length ≤ l.length := by
  have := compact_len (l.mergeSort fun x y => decide (x ≤ y))
  simpa [sortedM] using this

/-- a number put into a rising row, from place k down -/
def riseK (l : List Int) (n : Int) : Nat → List Int
  | 0 => l.take 0 ++ n :: l.drop 0
  | k + 1 => if n ≤ l[k]?.getD 0 then (if l[k]?.getD 0 = n then l else riseK l n k) else l.take (k + 1) ++ n :: l.drop (k + 1)
def riseM (l : List Int) (n : Int) : List Int := riseK l n l.length
theorem riseK_spec (l : List Int) (n : Int) (hl : l.Pairwise (· < ·)) : ∀ k, k ≤ l.length → (∀ j (h : j < l.length), k ≤ j → n < l[j]) →
    (riseK l n k).Pairwise (· < ·) ∧ (∀ x, x ∈ riseK l n k ↔ x ∈ l ∨ x = n) ∧ (riseK l n k).length ≤ l.length + 1 := by
  have fin : ∀ k, k ≤ l.length → (∀ j (h : j < l.length), k ≤ j → n < l[j]) → (∀ j (h : j < l.length), j < k → l[j] < n) →
      (l.take k ++ n :: l.drop k).Pairwise (· < ·) ∧ (∀ x, x ∈ l.take k ++ n :: l.drop k ↔ x ∈ l ∨ x = n) ∧ (l.take k ++ n :: l.drop k).length ≤ l.length + 1 := by
    intro k hk h1 h2
    refine ⟨List.pairwise_append.2 ⟨hl.sublist (List.take_sublist _ _), List.pairwise_cons.2 ⟨fun a ha => ?_, hl.sublist (List.drop_sublist _ _)⟩, fun a ha b hb => ?_⟩, fun x => ?_, by simp; omega⟩
    · obtain ⟨j, hj, rfl⟩ := List.getElem_of_mem ha
      rw [List.getElem_drop]; exact h1 _ _ (by omega)
    · obtain ⟨i, hi, rfl⟩ := List.getElem_of_mem ha
      have hi' : i < k := by rw [List.length_take] at hi; omega
      rw [List.getElem_take]
      have h3 := h2 i (by omega) hi'
      rcases List.mem_cons.1 hb with rfl | hb
      · exact h3
      · obtain ⟨j, hj, rfl⟩ := List.getElem_of_mem hb
        rw [List.getElem_drop]
        have := h1 (k + j) (by rw [List.length_drop] at hj; omega) (by omega)
        omega
    · rw [List.mem_append, List.mem_cons]
      constructor
      · rintro (h | rfl | h)
        · exact .inl (List.mem_of_mem_take h)
        · exact .inr rfl
        · exact .inl (List.mem_of_mem_drop h)
      · rintro (h | rfl)
        · rw [← List.take_append_drop k l, List.mem_append] at h
          rcases h with h | h
          · exact .inl h
          · exact .inr (.inr h)
        · exact .inr (.inl rfl)
  intro k
  induction k with
  | zero => intro hk h1; exact fin 0 hk h1 (fun j _ h => by omega)
  | succ k ih =>
    intro hk h1
    have hkl : k < l.length := by omega
    have eg : l[k]?.getD 0 = l[k] := by simp [hkl]
    unfold riseK
    rw [eg]
    by_cases h : n ≤ l[k]
    · rw [if_pos h]
      by_cases h' : l[k] = n
      · rw [if_pos h']
        refine ⟨hl, fun x => ⟨.inl, ?_⟩, by omega⟩
        rintro (h | rfl)
        · exact h
        · rw [← h']; exact List.getElem_mem _
      · rw [if_neg h']
        refine ih (by omega) fun j hj hkj => ?_
        by_cases e : j = k
        · subst e; omega
        · exact h1 j hj (by omega)
    · rw [if_neg h]
      refine fin (k + 1) hk h1 fun j hj hjk => ?_
      by_cases e : j = k
      · subst e; omega
      · have := List.pairwise_iff_getElem.1 hl j k hj hkl (by omega); omega
def risesM (l : List Int) : List Int := l.foldl riseM []
theorem rises_spec : ∀ (l a : List Int), a.Pairwise (· < ·) → (l.foldl riseM a).Pairwise (· < ·) ∧ (∀ x, x ∈ l.foldl riseM a ↔ x ∈ a ∨ x ∈ l) ∧ (l.foldl riseM a).length ≤ a.length + l.length
  | [], a, h => ⟨h, fun x => by simp, by simp⟩
  | n :: l, a, h => by
    obtain ⟨h1, h2, h3⟩ := riseK_spec a n h a.length (Nat.le_refl _) (fun j hj hk => by omega)
    obtain ⟨g1, g2, g3⟩ := rises_spec l (riseM a n) h1
    refine ⟨g1, fun x => ?_, ?_⟩
    · rw [List.foldl_cons, g2, show x ∈ riseM a n ↔ _ from h2 x, List.mem_cons, or_assoc]
    · rw [List.foldl_cons, List.length_cons]
      have : (riseM a n).length ≤ a.length + 1 := h3
      omega
theorem rises_sorted (l : List Int) : risesM l = sortedM l := by
  obtain ⟨h1, h2, _⟩ := rises_spec l [] (by simp)
  obtain ⟨g1, g2⟩ := sortedM_spec l
  exact strict_ext _ _ h1 g1 fun x => by rw [g2]; unfold risesM; rw [h2]; simp
end Go.Ov
