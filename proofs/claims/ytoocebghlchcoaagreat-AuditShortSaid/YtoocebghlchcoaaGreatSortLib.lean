/- slices.Sort and slices.Compact at []int, as contracts on a slice that a call owns. -/
import Derived.Test.YtoocebghlchcoaaGreatNeed
import Derived.Test.YtoocebghlchcoaaGreatShelf
namespace Go.Proofs.YtoocebghlchcoaaGreat.Need
open Go.RowKit Go.Ov Go.Sort

theorem int_cells (xs : List Int) : xs.flatMap intE.c = xs.map (Value.int .i64) := by
  induction xs with
  | nil => rfl
  | cons x xs ih => rw [List.flatMap_cons, ih]; rfl

theorem putRow_at (w : World) (blk q : Nat) (d : Array Int) (os : Array Obj) (cur : Array Value) (T : TypeId) (h : w.heap[blk]? = some (.cells cur T (0, 0))) :
    (grow (putRow (Value.int .i64) (Sort.ahead w q) blk 0 d) os).heap[blk]? = some (.cells (putCells (Value.int .i64) 0 d cur) T (0, 0)) := by
  have hlt : blk < w.heap.size := (Array.getElem?_eq_some_iff.1 h).1
  rw [heap_grow_old _ _ (by simpa using hlt)]
  show (w.heap.modify blk (onCells (putCells (Value.int .i64) 0 d)))[blk]? = _
  rw [Array.getElem?_modify, if_pos rfl, h]
  rfl
theorem putRow_else (w : World) (blk q : Nat) (d : Array Int) (os : Array Obj) (k : Nat) (hk : k < w.heap.size) (hne : blk ≠ k) :
    (grow (putRow (Value.int .i64) (Sort.ahead w q) blk 0 d) os).heap[k]? = w.heap[k]? := by
  rw [heap_grow_old _ _ (by simpa using hk)]
  show (w.heap.modify blk (onCells (putCells (Value.int .i64) 0 d)))[k]? = _
  rw [Array.getElem?_modify, if_neg hne]
theorem take_putCells (d : Array Int) (cur : Array Value) (m : Nat) (hm : m ≤ d.size) (hc : d.size ≤ cur.size) :
    (putCells (Value.int .i64) 0 d cur).toList.take m = (d.toList.take m).map (Value.int .i64) := by
  apply List.ext_getElem?
  intro k
  simp only [putCells, List.getElem?_take, List.getElem?_map, Array.getElem?_toList, Array.getElem?_mapIdx]
  by_cases hk : k < m
  · rw [if_pos hk, if_pos hk, Array.getElem?_eq_getElem (by omega : k < cur.size), Array.getElem?_eq_getElem (by omega : k < d.size)]
    simp only [Option.map_some, Nat.sub_zero]
    rw [if_pos ⟨Nat.zero_le _, by omega⟩, getElem!_pos d k (by omega)]
  · rw [if_neg hk, if_neg hk]; rfl

/-- a row that is laid anew in an owned slice -/
theorem own_put {w : World} {T : TypeId} {base blk cap n : Nat} {xs : List Int} (h : intE.Own T w base (.slice (some ⟨blk, 0, none⟩) n cap) xs) (q : Nat) (d : Array Int) (os : Array Obj) (hd : d.size = xs.length) (m : Nat) (hm : m ≤ d.size) (ys : List Int) (hy : d.toList.take m = ys) :
    intE.Own T (grow (putRow (Value.int .i64) (Sort.ahead w q) blk 0 d) os) base (.slice (some ⟨blk, 0, none⟩) m cap) ys ∧
    ∀ w0, Bl w0 w → w0.heap.size ≤ base → Bl w0 (grow (putRow (Value.int .i64) (Sort.ahead w q) blk 0 d) os) := by
  obtain ⟨h1, h2⟩ := h
  rcases h2 with ⟨h2, _⟩ | ⟨g, c, cur, h2, h3, h4, h5, h6, h7, h8⟩
  · cases h2
  · simp at h2
    obtain ⟨rfl, rfl, rfl⟩ := h2
    have hl : m = ys.length := by rw [← hy, List.length_take, Array.length_toList]; omega
    have hsz : intE.sz = 1 := rfl
    rw [hsz] at h7
    refine ⟨⟨by rw [int_cells, List.length_map, hsz]; omega, .inr ⟨blk, cap, _, by rw [hl], h3, putRow_at w blk q d os cur T h4, by omega, h6, ?_, ?_⟩⟩, fun w0 hb hs => ?_⟩
    · simp [putCells, h7, hsz]
    · rw [hsz, Nat.mul_one, ← hl, take_putCells d cur m hm (by omega), int_cells, hy]
    · have hlt : blk < w.heap.size := (Array.getElem?_eq_some_iff.1 h4).1
      refine ⟨hb.os, hb.tape, hb.output, by simp; have := hb.size; omega, fun k hk => ?_⟩
      rw [putRow_else w blk q d os k (by have := hb.size; omega) (by omega)]
      exact hb.block k hk

theorem own_holds {w : World} {T : TypeId} {base blk cap n : Nat} {xs : List Int} (h : intE.Own T w base (.slice (some ⟨blk, 0, none⟩) n cap) xs) :
    Holds (Value.int .i64) w blk 0 xs.toArray ∧ blk < w.heap.size ∧ n = xs.length ∧ n ≤ cap := by
  obtain ⟨h1, h2⟩ := h
  rcases h2 with ⟨h2, _⟩ | ⟨g, c, cur, h2, h3, h4, h5, h6, h7, h8⟩
  · cases h2
  · simp at h2
    obtain ⟨rfl, rfl, rfl⟩ := h2
    refine ⟨fun j hj => ?_, (Array.getElem?_eq_some_iff.1 h4).1, rfl, h5⟩
    have hj' : j < xs.length := by simpa using hj
    rw [int_cells] at h8
    have : (cur.toList.take (xs.length * intE.sz))[j]? = some (Value.int .i64 xs[j]) := by rw [h8, List.getElem?_map, List.getElem?_eq_getElem hj']; rfl
    rw [List.getElem?_take, if_pos (by show j < xs.length * 1; omega), Array.getElem?_toList] at this
    refine ⟨?_, ?_⟩
    · unfold World.cell?
      simp only [h4, Nat.zero_add]
      rw [this]
      simp [hj']
    · unfold World.frozen?
      simp only [h4]
      simp

theorem sort_any (v : Value) (T : TypeId) (base : Nat) (xs : List Int) (w : World) (h : intE.Own T w base v xs) (hn : xs.length < 4611686018427387904) :
    Calls Tryz.prog 113 #[v] w fun e w' => e = .returned (.tuple #[]) ∧ intE.Own T w' base v (xs.mergeSort fun x y => decide (x ≤ y)) ∧ ∀ w0, Bl w0 w → w0.heap.size ≤ base → Bl w0 w' := by
  obtain ⟨A, c, rfl⟩ := Enc.Own.slice h
  by_cases hA : ∃ blk, A = some ⟨blk, 0, none⟩
  · obtain ⟨blk, rfl⟩ := hA
    obtain ⟨hH, hb, _, _⟩ := own_holds h
    refine (Tryz.slices_Sort_int blk 0 c xs w hH hb hn).mono ?_
    rintro e w' ⟨rfl, q, os, rfl⟩
    have hp := own_put h q (xs.mergeSort fun x y => decide (x ≤ y)).toArray os (by simp) xs.length (by simp) (xs.mergeSort fun x y => decide (x ≤ y)) (by rw [List.take_of_length_le (by simp)])
    exact ⟨rfl, hp.1, hp.2⟩
  · obtain ⟨h1, h2⟩ := h
    rcases h2 with ⟨h2, h3⟩ | ⟨g, c', cur, h2, _⟩
    · have hx : xs = [] := List.length_eq_zero_iff.1 h3
      subst hx
      refine (Tryz.slices_Sort_int_none A c w).mono ?_
      rintro e w' ⟨rfl, rfl⟩
      rw [show ([] : List Int).mergeSort (fun x y => decide (x ≤ y)) = [] by simp]
      exact ⟨rfl, ⟨h1, .inl ⟨h2, h3⟩⟩, fun _ h _ => h⟩
    · simp at h2; exact (hA ⟨g, h2.1⟩).elim

theorem compact_any (v : Value) (T : TypeId) (base : Nat) (xs : List Int) (w : World) (h : intE.Own T w base v xs) (hn : xs.length < 4611686018427387904) (hl : (Lib.compact xs).length ≤ xs.length) :
    Calls Tryz.prog 114 #[v] w fun e w' => ∃ u, e = .returned u ∧ intE.Own T w' base u (Lib.compact xs) ∧ ∀ w0, Bl w0 w → w0.heap.size ≤ base → Bl w0 w' := by
  obtain ⟨A, c, rfl⟩ := Enc.Own.slice h
  by_cases hA : ∃ blk, A = some ⟨blk, 0, none⟩
  · obtain ⟨blk, rfl⟩ := hA
    obtain ⟨hH, hb, _, hc⟩ := own_holds h
    refine (Tryz.slices_Compact_int blk 0 c xs w hH (by omega) hc).mono ?_
    rintro e w' ⟨rfl, q, rfl⟩
    have hp := own_put h q (Lib.compact xs ++ List.replicate (xs.length - (Lib.compact xs).length) 0).toArray #[] (by simp; omega) (Lib.compact xs).length (by simp) (Lib.compact xs) (by simp)
    rw [grow_empty] at hp
    exact ⟨_, rfl, hp.1, hp.2⟩
  · obtain ⟨h1, h2⟩ := h
    rcases h2 with ⟨h2, h3⟩ | ⟨g, c', cur, h2, _⟩
    · have hx : xs = [] := List.length_eq_zero_iff.1 h3
      subst hx
      refine (Tryz.slices_Compact_int_empty A c w).mono ?_
      rintro e w' ⟨rfl, rfl⟩
      exact ⟨_, rfl, ⟨h1, .inl ⟨h2, h3⟩⟩, fun _ h _ => h⟩
    · simp at h2; exact (hA ⟨g, h2.1⟩).elim
end Go.Proofs.YtoocebghlchcoaaGreat.Need
