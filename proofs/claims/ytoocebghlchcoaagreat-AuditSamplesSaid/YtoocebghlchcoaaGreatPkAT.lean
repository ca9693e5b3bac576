/- Several texts joined (see each one's head). -/
import Derived.Test.YtoocebghlchcoaaGreatPkAS
import Derived.Test.YtoocebghlchcoaaGreatPkAG
import Derived.Test.YtoocebghlchcoaaGreatShelf
/- Contracts of audit: sectors, sector; copies of bytes. -/
namespace Go.Proofs.YtoocebghlchcoaaGreat.ExtW
open Go.RowKit Go.Ov Go.Proofs.YtoocebghlchcoaaGreat.Need
theorem kcutByte_any (v : Value) (l : List Int) (m : Nat) (w : World) (h : byteE.Is w v l) (hl : l.length ≤ 9223372036854775807) (hm : m ≤ 1000000) :
    Calls Tryz.prog 29 #[v, .int .i64 m] w fun e w' => ∃ u, e = .returned u ∧ byteE.Is w u (l.take m) ∧ w' = w := by
  have HI := Lib.hid h
  obtain ⟨A, c, rfl, h1, h2, h3, h4⟩ := h
  have HC := Lib.hid h1
  clear h1 h2 h3 h4
  obtain ⟨k, hk⟩ : ∃ k, k = min l.length m := ⟨_, rfl⟩
  have hmin : min (l.length : Int) (m : Int) = (k : Int) := by omega
  obtain ⟨V, hV, hI⟩ := slice_h (E := byteE) (P := Tryz.prog) (t := 25) (by kernel_rfl) (fun w => by kernel_rfl) A c l (k : Int) (by omega) (by omega) HC.out
  have HV := Lib.hid (show byteE.Is w V (l.take m) by
    have := hI _ HI.out
    rwa [Int.toNat_natCast, hk, Nat.min_comm, ← List.take_eq_take_min] at this)
  have hkl : (k : Int) ≤ l.length := by omega
  clear hI hk
  go_enter Tryz.func29, Tryz.ntmps29
  go_wp2
  go_ret
  exact ⟨V, rfl, HV.out, rfl⟩
theorem cutCopyByte_any (v : Value) (l : List Int) (m : Nat) (w : World) (h : byteE.Is w v l) (hl : l.length ≤ 9223372036854775807) (hm : m ≤ 1000000) :
    Calls Tryz.prog 15 #[v, .int .i64 m] w fun e w' => ∃ u, e = .returned u ∧ byteE.Own 5 w' w.heap.size u (l.take m) ∧ Bl w w' := by
  have HI := Lib.hid h
  clear h
  go_enter Tryz.func15, Tryz.ntmps15
  go_wp2_with fail
  refine (kcutByte_any v l m _ HI.out hl hm).mono ?_
  rintro e w1 ⟨u1, rfl, hu1, rfl⟩
  go_wp2_with fail
  refine (copyByte_any u1 (l.take m) _ hu1 (by rw [List.length_take]; omega)).mono ?_
  rintro e w2 ⟨u2, rfl, ho, hb⟩
  go_wp2
  go_ret
  exact ⟨u2, rfl, ho, hb⟩
/-- how many sectors an image has -/
def sectorsM (img : List Int) : Int := if img.length % 128 ≠ 0 ∨ 4096 < img.length / 128 then 0 else img.length / 128
theorem asectors_any (v : Value) (l : List Int) (w : World) (h : byteE.Is w v l) (hl : l.length ≤ 9223372036854775807) :
    Calls Tryz.prog 21 #[v] w fun e w' => e = .returned (.int .i64 (sectorsM l)) ∧ w' = w := by
  obtain ⟨A, c, rfl, h1, h2, h3, h4⟩ := h
  clear h1 h2 h3 h4
  obtain ⟨r, hr⟩ : ∃ r, r = sectorsM l := ⟨_, rfl⟩
  rw [← hr]
  have HR := Lib.hid hr
  clear hr
  have e1 : (l.length : Int).tdiv 128 = (l.length : Int) / 128 := Int.tdiv_eq_ediv_of_nonneg (by omega)
  have e2 : (l.length : Int).tmod 128 = (l.length : Int) % 128 := Int.tmod_eq_emod_of_nonneg (by omega)
  have e3 : IntKind.i64.wrap ((l.length : Int) / 128) = (l.length : Int) / 128 := IntWalk.i64_in _ (by omega)
  go_enter Tryz.func21, Tryz.ntmps21
  rcases (show ¬ (l.length : Int) % 128 = 0 ∨ ((l.length : Int) % 128 = 0 ∧ 4096 < (l.length : Int) / 128) ∨ ((l.length : Int) % 128 = 0 ∧ ¬ 4096 < (l.length : Int) / 128) by omega) with h | ⟨h, h2⟩ | ⟨h, h2⟩
  · go_wp2
    go_ret
    exact ⟨by rw [HR.out]; unfold sectorsM; rw [if_pos (by omega)]; rfl, rfl⟩
  · go_wp2
    go_ret
    exact ⟨by rw [HR.out]; unfold sectorsM; rw [if_pos (by omega)]; rfl, rfl⟩
  · go_wp2
    go_ret
    exact ⟨by rw [HR.out]; unfold sectorsM; rw [if_neg (by omega)]; rfl, rfl⟩
/-- a sector, read of an image; nothing where there is none -/
def rdM (img : List Int) (i : Int) : List Int := if i < 0 ∨ (img.length : Int) / 128 ≤ i then [] else secM img i.toNat
theorem rd_ok {img : List Int} (h : okB img) (i : Int) : okB (rdM img i) := by
  unfold rdM
  split
  · intro c hc; cases hc
  · exact (h.drop _).take _
theorem rd_len (img : List Int) (i : Int) : (rdM img i).length ≤ 128 := by
  unfold rdM secM
  split
  · simp
  · rw [List.length_take]; omega
theorem sec_is {w : World} {A : Option Addr} {c k : Nat} {l : List Int} (h : byteE.Is w (.slice A l.length c) l) (hk : k < l.length / 128) :
    byteE.Is w (.slice (Option.map (fun x => x.add (k * 128)) A) ((k + 1) * 128 - k * 128) ((k + 1) * 128 - k * 128)) (secM l k) := by
  have hl : (secM l k).length = 128 := by unfold secM; rw [List.length_take, List.length_drop]; omega
  have e : (k + 1) * 128 - k * 128 = 128 := by omega
  rw [e]
  refine ⟨_, 128, by rw [hl], by rw [hl]; exact Nat.le_refl _, by decide, fun hn => ?_, fun i x hx => ?_⟩
  · obtain ⟨A', c', e', _, _, h3, hat⟩ := h
    simp only [Value.slice.injEq] at e'
    obtain ⟨rfl, -, -⟩ := e'
    obtain ⟨ad, e2, _⟩ := byte_at hat 0 (by omega)
    rw [e2] at hn; cases hn
  · have hi := List.getElem?_eq_some_iff.1 hx
    obtain ⟨hi1, hi2⟩ := hi
    rw [hl] at hi1
    obtain ⟨ad, e2, hc⟩ := byte_is_cells h (k * 128 + i) (by omega)
    refine ⟨ad.add (k * 128), by rw [e2]; rfl, fun j u hu => ?_⟩
    have hj : j = 0 := by have := (List.getElem?_eq_some_iff.1 hu).1; simp [byteE] at this; exact this
    subst hj
    simp [byteE] at hu
    subst hu
    have ha : (ad.add (k * 128)).add (i * byteE.sz + 0) = ad.add (k * 128 + i) := by
      rw [show i * byteE.sz + 0 = i by simp [byteE]]
      unfold Addr.add; split <;> split <;> simp_all [Nat.add_assoc]
    rw [ha, hc]
    congr 2
    rw [← hi2]
    unfold secM
    simp [Nat.mul_comm]
def RdP (w : World) (img : List Int) (i : Int) (e : Ending) : Prop := ∃ u, e = .returned (.tuple #[u, .bool (decide (0 ≤ i) && decide (i < (img.length : Int) / 128))]) ∧ byteE.Is w u (rdM img i)
set_option maxHeartbeats 1000000 in
theorem asector_any (v : Value) (l : List Int) (i : Int) (w : World) (h : byteE.Is w v l) (hl : l.length ≤ 1000000) (hi : -9223372036854775808 ≤ i ∧ i ≤ 9223372036854775807) :
    Calls Tryz.prog 33 #[v, .int .i64 i] w fun e w' => RdP w l i e ∧ w' = w := by
  have HI := Lib.hid h
  obtain ⟨A, c, rfl, h1, h2, h3, h4⟩ := h
  have HC := Lib.hid h1
  have HM := Lib.hid h2
  clear h1 h2 h3 h4
  have e1 : (l.length : Int).tdiv 128 = (l.length : Int) / 128 := Int.tdiv_eq_ediv_of_nonneg (by omega)
  have e3 : IntKind.i64.wrap ((l.length : Int) / 128) = (l.length : Int) / 128 := IntWalk.i64_in _ (by omega)
  go_enter Tryz.func33, Tryz.ntmps33
  rcases (show i < 0 ∨ (¬ i < 0 ∧ (l.length : Int) / 128 ≤ i) ∨ (¬ i < 0 ∧ ¬ (l.length : Int) / 128 ≤ i) by omega) with h | ⟨h, h2⟩ | ⟨h, h2⟩
  · go_wp2
    go_ret2
    refine ⟨⟨_, by rw [decide_eq_false (show ¬ 0 ≤ i by omega)]; rfl, ?_⟩, rfl⟩
    unfold rdM; rw [if_pos (by omega)]; exact Enc.Is.nil _
  · go_wp2
    go_ret2
    refine ⟨⟨_, by rw [decide_eq_false (show ¬ i < (l.length : Int) / 128 by omega), Bool.and_false]; rfl, ?_⟩, rfl⟩
    unfold rdM; rw [if_pos (by omega)]; exact Enc.Is.nil _
  · have hk : ∃ k : Nat, i = k := ⟨i.toNat, by omega⟩
    obtain ⟨k, rfl⟩ := hk
    have w1 : IntKind.i64.wrap ((k : Int) * 128) = (k : Int) * 128 := IntWalk.i64_in _ (by omega)
    have w2 : IntKind.i64.wrap ((k : Int) + 1) = (k : Int) + 1 := IntWalk.i64_in _ (by omega)
    have w3 : IntKind.i64.wrap (((k : Int) + 1) * 128) = ((k : Int) + 1) * 128 := IntWalk.i64_in _ (by omega)
    have hc := HC.out
    have q : 0 ≤ ((k : Int) + 1) * 128 ∧ ((k : Int) + 1) * 128 ≤ c := by omega
    have q0 : (k : Int) * 128 ≤ ((k : Int) + 1) * 128 := by omega
    have HSec := Lib.hid (sec_is HI.out (show k < l.length / 128 by omega))
    have HMx := Lib.hid (show rdM l k = secM l k by unfold rdM; rw [if_neg (by omega), Int.toNat_natCast])
    clear hc
    go_wp2
    go_ret2
    refine ⟨⟨_, by rw [decide_eq_true (show (0 : Int) ≤ k by omega), decide_eq_true (show (k : Int) < (l.length : Int) / 128 by omega)]; rfl, ?_⟩, rfl⟩
    rw [HMx.out]
    exact HSec.out
end Go.Proofs.YtoocebghlchcoaaGreat.ExtW

/- slices.Sort and slices.Compact at []int, as contracts on a slice that a call owns. -/
namespace Go.Proofs.YtoocebghlchcoaaGreat.Need
open Go.RowKit Go.Ov Go.Sort

theorem int_cells (xs : List Int) : xs.flatMap intE.c = xs.map (Value.int .i64) := by
  induction xs with
  | nil => rfl
  | cons x xs ih => rw [List.flatMap_cons, ih]; rfl

theorem putRow_at (w : World) (blk q : Nat) (d : Array Int) (os : Array Obj) (cur : Array Value) (T : TypeId) (h : w.heap[blk]? = some (.cells cur T (0, 0))) :
    (grow (putRow (Value.int .i64) (Sort.ahead w q) blk 0 d) os).heap[blk]? = some (.cells (putCells (Value.int .i64) 0 d cur) T (0, 0)) := by
  have hlt : blk < w.heap.size := (Array.getElem?_eq_some_iff.1 h).1
  rw [heap_grow_old _ _ (by simpa using hlt)]
  show (w.heap.modify blk (onCells (putCells (Value.int .i64) 0 d)))[blk]? = _
  rw [Array.getElem?_modify, if_pos rfl, h]
  rfl
theorem putRow_else (w : World) (blk q : Nat) (d : Array Int) (os : Array Obj) (k : Nat) (hk : k < w.heap.size) (hne : blk ≠ k) :
    (grow (putRow (Value.int .i64) (Sort.ahead w q) blk 0 d) os).heap[k]? = w.heap[k]? := by
  rw [heap_grow_old _ _ (by simpa using hk)]
  show (w.heap.modify blk (onCells (putCells (Value.int .i64) 0 d)))[k]? = _
  rw [Array.getElem?_modify, if_neg hne]
theorem take_putCells (d : Array Int) (cur : Array Value) (m : Nat) (hm : m ≤ d.size) (hc : d.size ≤ cur.size) :
    (putCells (Value.int .i64) 0 d cur).toList.take m = (d.toList.take m).map (Value.int .i64) := by
  apply List.ext_getElem?
  intro k
  simp only [putCells, List.getElem?_take, List.getElem?_map, Array.getElem?_toList, Array.getElem?_mapIdx]
  by_cases hk : k < m
  · rw [if_pos hk, if_pos hk, Array.getElem?_eq_getElem (by omega : k < cur.size), Array.getElem?_eq_getElem (by omega : k < d.size)]
    simp only [Option.map_some, Nat.sub_zero]
    rw [if_pos ⟨Nat.zero_le _, by omega⟩, getElem!_pos d k (by omega)]
  · rw [if_neg hk, if_neg hk]; rfl

/-- a row that is laid anew in an owned slice -/
theorem own_put {w : World} {T : TypeId} {base blk cap n : Nat} {xs : List Int} (h : intE.Own T w base (.slice (some ⟨blk, 0, none⟩) n cap) xs) (q : Nat) (d : Array Int) (os : Array Obj) (hd : d.size = xs.length) (m : Nat) (hm : m ≤ d.size) (ys : List Int) (hy : d.toList.take m = ys) :
    intE.Own T (grow (putRow (Value.int .i64) (Sort.ahead w q) blk 0 d) os) base (.slice (some ⟨blk, 0, none⟩) m cap) ys ∧
    ∀ w0, Bl w0 w → w0.heap.size ≤ base → Bl w0 (grow (putRow (Value.int .i64) (Sort.ahead w q) blk 0 d) os) := by
  obtain ⟨h1, h2⟩ := h
  rcases h2 with ⟨h2, _⟩ | ⟨g, c, cur, h2, h3, h4, h5, h6, h7, h8⟩
  · cases h2
  · simp at h2
    obtain ⟨rfl, rfl, rfl⟩ := h2
    have hl : m = ys.length := by rw [← hy, List.length_take, Array.length_toList]; omega
    have hsz : intE.sz = 1 := rfl
    rw [hsz] at h7
    refine ⟨⟨by rw [int_cells, List.length_map, hsz]; omega, .inr ⟨blk, cap, _, by rw [hl], h3, putRow_at w blk q d os cur T h4, by omega, h6, ?_, ?_⟩⟩, fun w0 hb hs => ?_⟩
    · simp [putCells, h7, hsz]
    · rw [hsz, Nat.mul_one, ← hl, take_putCells d cur m hm (by omega), int_cells, hy]
    · have hlt : blk < w.heap.size := (Array.getElem?_eq_some_iff.1 h4).1
      refine ⟨hb.os, hb.tape, hb.output, by simp; have := hb.size; omega, fun k hk => ?_⟩
      rw [putRow_else w blk q d os k (by have := hb.size; omega) (by omega)]
      exact hb.block k hk

theorem own_holds {w : World} {T : TypeId} {base blk cap n : Nat} {xs : List Int} (h : intE.Own T w base (.slice (some ⟨blk, 0, none⟩) n cap) xs) :
    Holds (Value.int .i64) w blk 0 xs.toArray ∧ blk < w.heap.size ∧ n = xs.length ∧ n ≤ cap := by
  obtain ⟨h1, h2⟩ := h
  rcases h2 with ⟨h2, _⟩ | ⟨g, c, cur, h2, h3, h4, h5, h6, h7, h8⟩
  · cases h2
  · simp at h2
    obtain ⟨rfl, rfl, rfl⟩ := h2
    refine ⟨fun j hj => ?_, (Array.getElem?_eq_some_iff.1 h4).1, rfl, h5⟩
    have hj' : j < xs.length := by simpa using hj
    rw [int_cells] at h8
    have : (cur.toList.take (xs.length * intE.sz))[j]? = some (Value.int .i64 xs[j]) := by rw [h8, List.getElem?_map, List.getElem?_eq_getElem hj']; rfl
    rw [List.getElem?_take, if_pos (by show j < xs.length * 1; omega), Array.getElem?_toList] at this
    refine ⟨?_, ?_⟩
    · unfold World.cell?
      simp only [h4, Nat.zero_add]
      rw [this]
      simp [hj']
    · unfold World.frozen?
      simp only [h4]
      simp

theorem sort_any (v : Value) (T : TypeId) (base : Nat) (xs : List Int) (w : World) (h : intE.Own T w base v xs) (hn : xs.length < 4611686018427387904) :
    Calls Tryz.prog 113 #[v] w fun e w' => e = .returned (.tuple #[]) ∧ intE.Own T w' base v (xs.mergeSort fun x y => decide (x ≤ y)) ∧ ∀ w0, Bl w0 w → w0.heap.size ≤ base → Bl w0 w' := by
  obtain ⟨A, c, rfl⟩ := Enc.Own.slice h
  by_cases hA : ∃ blk, A = some ⟨blk, 0, none⟩
  · obtain ⟨blk, rfl⟩ := hA
    obtain ⟨hH, hb, _, _⟩ := own_holds h
    refine (Tryz.slices_Sort_int blk 0 c xs w hH hb hn).mono ?_
    rintro e w' ⟨rfl, q, os, rfl⟩
    have hp := own_put h q (xs.mergeSort fun x y => decide (x ≤ y)).toArray os (by simp) xs.length (by simp) (xs.mergeSort fun x y => decide (x ≤ y)) (by rw [List.take_of_length_le (by simp)])
    exact ⟨rfl, hp.1, hp.2⟩
  · obtain ⟨h1, h2⟩ := h
    rcases h2 with ⟨h2, h3⟩ | ⟨g, c', cur, h2, _⟩
    · have hx : xs = [] := List.length_eq_zero_iff.1 h3
      subst hx
      refine (Tryz.slices_Sort_int_none A c w).mono ?_
      rintro e w' ⟨rfl, rfl⟩
      rw [show ([] : List Int).mergeSort (fun x y => decide (x ≤ y)) = [] by simp]
      exact ⟨rfl, ⟨h1, .inl ⟨h2, h3⟩⟩, fun _ h _ => h⟩
    · simp at h2; exact (hA ⟨g, h2.1⟩).elim

theorem compact_any (v : Value) (T : TypeId) (base : Nat) (xs : List Int) (w : World) (h : intE.Own T w base v xs) (hn : xs.length < 4611686018427387904) (hl : (Lib.compact xs).length ≤ xs.length) :
    Calls Tryz.prog 114 #[v] w fun e w' => ∃ u, e = .returned u ∧ intE.Own T w' base u (Lib.compact xs) ∧ ∀ w0, Bl w0 w → w0.heap.size ≤ base → Bl w0 w' := by
  obtain ⟨A, c, rfl⟩ := Enc.Own.slice h
  by_cases hA : ∃ blk, A = some ⟨blk, 0, none⟩
  · obtain ⟨blk, rfl⟩ := hA
    obtain ⟨hH, hb, _, hc⟩ := own_holds h
    refine (Tryz.slices_Compact_int blk 0 c xs w hH (by omega) hc).mono ?_
    rintro e w' ⟨rfl, q, rfl⟩
    have hp := own_put h q (Lib.compact xs ++ List.replicate (xs.length - (Lib.compact xs).length) 0).toArray #[] (by simp; omega) (Lib.compact xs).length (by simp) (Lib.compact xs) (by simp)
    rw [grow_empty] at hp
    exact ⟨_, rfl, hp.1, hp.2⟩
  · obtain ⟨h1, h2⟩ := h
    rcases h2 with ⟨h2, h3⟩ | ⟨g, c', cur, h2, _⟩
    · have hx : xs = [] := List.length_eq_zero_iff.1 h3
      subst hx
      refine (Tryz.slices_Compact_int_empty A c w).mono ?_
      rintro e w' ⟨rfl, rfl⟩
      exact ⟨_, rfl, ⟨h1, .inl ⟨h2, h3⟩⟩, fun _ h _ => h⟩
    · simp at h2; exact (hA ⟨g, h2.1⟩).elim
end Go.Proofs.YtoocebghlchcoaaGreat.Need

/- Contracts of audit.found's reader, walk.From (an empty tree, or none). -/
namespace Go.Proofs.YtoocebghlchcoaaGreat.ExtW
open Go.RowKit Go.Ov Go.Proofs.YtoocebghlchcoaaGreat.Need
theorem afound1_any (v : Value) (l : List Int) (B : Nat) (i : Int) (w : World) (hb : Blk w B #[v] 25) (h : byteE.Is w v l) (hl : l.length ≤ 1000000) (hi : -9223372036854775808 ≤ i ∧ i ≤ 9223372036854775807) :
    Calls Tryz.prog 51 #[.int .i64 i, .pointer (some ⟨B, 0, none⟩)] w fun e w' => RdP w l i e ∧ w' = w := by
  have HI := Lib.hid h
  obtain ⟨A, c, rfl⟩ : ∃ A c, v = .slice A l.length c := by obtain ⟨A, c, e, _⟩ := h; exact ⟨A, c, e⟩
  have c0 := hb.cell 0
  simp at c0
  clear hb h
  go_enter Tryz.func51, Tryz.ntmps51
  go_wp2_with fail
  refine (asector_any _ l i _ HI.out hl hi).mono ?_
  rintro e w1 ⟨⟨u, rfl, hu⟩, rfl⟩
  go_wp2
  go_ret2
  exact ⟨⟨u, rfl, hu⟩, rfl⟩
/-- a walker's cells where nothing has been walked -/
def walkerC (fv x y : Value) (M1 M2 M3 : Nat) : Array Value := #[fv, x, y, .map (some M1), .map (some M2), .map (some M3), .slice none 0 0, .slice none 0 0, .int .i64 0, .slice none 0 0]
theorem next_empty {P : Program} (w : World) (ty : TypeId) (bm : Nat) (hb : w.heap[bm]? = some (.map #[] 0)) :
    (Instr.next (.pointer (some ⟨w.heap.size, 0, none⟩)) false ty).run P (w.alloc (.mapIter (some bm) 0 #[] 0)) = .ok (.tuple #[.bool false]) (w.alloc (.mapIter (some bm) 0 #[] 0)) := by
  rcases run_next_map (P := P) w ty bm 0 0 #[] #[] 0 hb (fun x hx => by simp at hx) (Nat.le_refl _) with ⟨_, h⟩ | ⟨e, he, _⟩
  · exact h
  · simp [leftOf] at he
set_option maxHeartbeats 1000000 in
theorem wreach_none (B M1 M2 M3 : Nat) (fv x y : Value) (w : World) (hb : Blk w B (walkerC fv x y M1 M2 M3) 169) (h1 : w.heap[M1]? = some (.map #[] 0)) (h3 : w.heap[M3]? = some (.map #[] 0)) :
    Calls Tryz.prog 85 #[.pointer (some ⟨B, 0, none⟩), .int .i64 0] w fun e w' => e = .returned (.slice none 0 0) ∧ Bl w w' := by
  have c3 := hb.cell 3
  have c6 := hb.cell 6
  simp [walkerC] at c3 c6
  have hal := (Bl.refl w).alloc (.mapIter (some M1) 0 #[] 0)
  have hb2 := hb.bl hal
  have c5 := hb2.cell 5
  simp [walkerC] at c5
  have h3' : (w.alloc (.mapIter (some M1) 0 #[] 0)).heap[M3]? = some (.map #[] 0) := by rw [← h3]; exact hal.block M3 (Array.getElem?_eq_some_iff.1 h3).1
  clear hb hb2
  have hrg := run_range_map (P := Tryz.prog) w 166 3 72 M1 #[] 0 Tryz.underlying166 h1
  have hnx := fun ty => next_empty (P := Tryz.prog) w ty M1 h1
  have HAL := Lib.hid hal
  clear h1 h3 hal
  go_enter Tryz.func85, Tryz.ntmps85
  go_wp2
  generalize w.alloc (.mapIter (some M1) 0 #[] 0) = w1 at *
  clear hrg
  have hrg := run_range_map (P := Tryz.prog) w1 74 3 24 M3 #[] 0 Tryz.underlying74 h3'
  have hnx2 := fun ty => next_empty (P := Tryz.prog) w1 ty M3 h3'
  have HAL2 := Lib.hid (HAL.out.alloc (.mapIter (some M3) 0 #[] 0))
  refine wp_loop_rounds 1 ?_
  rw [rounds_succ]
  go_wp2
  generalize w1.alloc (.mapIter (some M3) 0 #[] 0) = w2 at *
  clear hnx
  refine wp_loop_rounds 1 ?_
  rw [rounds_succ]
  go_wp2_with fail
  refine (Tryz.slices_Sort_int_none none 0 _).mono ?_
  rintro e w' ⟨rfl, rfl⟩
  go_wp2_with fail
  refine (Tryz.slices_Compact_int_empty none 0 _).mono ?_
  rintro e w' ⟨rfl, rfl⟩
  go_wp2
  go_ret
  exact ⟨rfl, HAL2.out⟩
/-- the reader that audit hands on -/
def rdF (B : Nat) : Value := .func (.func 51) #[] #[.pointer (some ⟨B, 0, none⟩)]
set_option maxHeartbeats 1000000 in
theorem wFrom_no (v : Value) (l : List Int) (B : Nat) (n : Nat) (g f d r c now : Int) (ok : Bool) (w : World) (hb : Blk w B #[v] 25) (h : byteE.Is w v l) (hl : l.length ≤ 1000000) (ho : okB l) (hn : n ≤ 4096)
    (hc : chooseM (rdM l 0) (rdM l 1) = (⟨g, f, d, r⟩, c, now, ok)) (hc1 : 0 ≤ c ∧ c ≤ 1000000) (hno : ok = false ∨ (n : Int) < c + 12) :
    Calls Tryz.prog 50 #[rdF B, .int .i64 n] w fun e w' => e = .returned (.tuple #[.pointer none, .bool false]) ∧ Bl w w' := by
  have HI := Lib.hid h
  have HX := Lib.hid hb
  have HO := Lib.hid ho
  have HC := Lib.hid hc
  have hw1 : IntKind.i64.wrap (c + 12) = c + 12 := IntWalk.i64_in _ (by omega)
  clear h hb ho hc
  unfold rdF
  go_enter Tryz.func50, Tryz.ntmps50
  go_wp2_with fail
  refine (afound1_any v l B 0 _ HX.out HI.out hl (by omega)).mono ?_
  rintro e w1 ⟨⟨u1, rfl, hu1⟩, rfl⟩
  have HU1 := Lib.hid hu1
  clear hu1
  go_wp2_with fail
  refine (afound1_any v l B 1 _ HX.out HI.out hl (by omega)).mono ?_
  rintro e w1' ⟨⟨u2, rfl, hu2⟩, rfl⟩
  have HU2 := Lib.hid hu2
  clear hu2
  go_wp2_with fail
  refine (suChoose_any u1 u2 _ _ _ HU1.out HU2.out (by have := rd_len l 0; omega) (by have := rd_len l 1; omega) (rd_ok HO.out 0) (rd_ok HO.out 1)).mono ?_
  rintro e w2 ⟨hb2, he⟩
  rw [HC.out] at he
  simp only [supV] at he
  subst he
  have HB2 := Lib.hid hb2
  clear hb2 HU1 HU2
  cases ok
  · go_wp2
    go_ret2
    exact ⟨rfl, HB2.out.alloc _⟩
  · have hno' : (n : Int) < c + 12 := by simpa using hno
    go_wp2
    go_ret2
    exact ⟨rfl, HB2.out.alloc _⟩
/-- what is found on a disk without a root -/
def foundC (g f d c : Int) (M : Nat) : Array Value := #[.int .i64 g, .int .i64 f, .int .i64 d, .int .i64 0, .int .i64 c, .pointer none, .slice none 0 0, .slice none 0 0, .slice none 0 0, .map (some M)]
end Go.Proofs.YtoocebghlchcoaaGreat.ExtW
