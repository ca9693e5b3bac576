/- Contracts of audit.found's reader, walk.From (an empty tree, or none). -/
import Derived.Test.YtoocebghlchcoaaGreatAudW
import Derived.Test.YtoocebghlchcoaaGreatSortLib
namespace Go.Proofs.YtoocebghlchcoaaGreat.ExtW
open Go.RowKit Go.Ov Go.Proofs.YtoocebghlchcoaaGreat.Need
theorem afound1_any (v : Value) (l : List Int) (B : Nat) (i : Int) (w : World) (hb : Blk w B #[v] 25) (h : byteE.Is w v l) (hl : l.length ≤ 1000000) (hi : -9223372036854775808 ≤ i ∧ i ≤ 9223372036854775807) :
    Calls Tryz.prog 51 #[.int .i64 i, .pointer (some ⟨B, 0, none⟩)] w fun e w' => RdP w l i e ∧ w' = w := by
  have HI := Lib.hid h
  obtain ⟨A, c, rfl⟩ : ∃ A c, v = .slice A l.length c := by obtain ⟨A, c, e, _⟩ := h; exact ⟨A, c, e⟩
  have c0 := hb.cell 0
  simp at c0
  clear hb h
  go_enter Tryz.func51, Tryz.ntmps51
  go_wp2_with fail
  refine (asector_any _ l i _ HI.out hl hi).mono ?_
  rintro e w1 ⟨⟨u, rfl, hu⟩, rfl⟩
  go_wp2
  go_ret2
  exact ⟨⟨u, rfl, hu⟩, rfl⟩
/-- a walker's cells where nothing has been walked -/
def walkerC (fv x y : Value) (M1 M2 M3 : Nat) : Array Value := #[fv, x, y, .map (some M1), .map (some M2), .map (some M3), .slice none 0 0, .slice none 0 0, .int .i64 0, .slice none 0 0]
theorem next_empty {P : Program} (w : World) (ty : TypeId) (bm : Nat) (hb : w.heap[bm]? = some (.map #[] 0)) :
    (Instr.next (.pointer (some ⟨w.heap.size, 0, none⟩)) false ty).run P (w.alloc (.mapIter (some bm) 0 #[] 0)) = .ok (.tuple #[.bool false]) (w.alloc (.mapIter (some bm) 0 #[] 0)) := by
  rcases run_next_map (P := P) w ty bm 0 0 #[] #[] 0 hb (fun x hx => by simp at hx) (Nat.le_refl _) with ⟨_, h⟩ | ⟨e, he, _⟩
  · exact h
  · simp [leftOf] at he
set_option maxHeartbeats 1000000 in
theorem wreach_none (B M1 M2 M3 : Nat) (fv x y : Value) (w : World) (hb : Blk w B (walkerC fv x y M1 M2 M3) 169) (h1 : w.heap[M1]? = some (.map #[] 0)) (h3 : w.heap[M3]? = some (.map #[] 0)) :
    Calls Tryz.prog 85 #[.pointer (some ⟨B, 0, none⟩), .int .i64 0] w fun e w' => e = .returned (.slice none 0 0) ∧ Bl w w' := by
  have c3 := hb.cell 3
  have c6 := hb.cell 6
  simp [walkerC] at c3 c6
  have hal := (Bl.refl w).alloc (.mapIter (some M1) 0 #[] 0)
  have hb2 := hb.bl hal
  have c5 := hb2.cell 5
  simp [walkerC] at c5
  have h3' : (w.alloc (.mapIter (some M1) 0 #[] 0)).heap[M3]? = some (.map #[] 0) := by rw [← h3]; exact hal.block M3 (Array.getElem?_eq_some_iff.1 h3).1
  clear hb hb2
  have hrg := run_range_map (P := Tryz.prog) w 166 3 72 M1 #[] 0 Tryz.underlying166 h1
  have hnx := fun ty => next_empty (P := Tryz.prog) w ty M1 h1
  have HAL := Lib.hid hal
  clear h1 h3 hal
  go_enter Tryz.func85, Tryz.ntmps85
  go_wp2
  generalize w.alloc (.mapIter (some M1) 0 #[] 0) = w1 at *
  clear hrg
  have hrg := run_range_map (P := Tryz.prog) w1 74 3 24 M3 #[] 0 Tryz.underlying74 h3'
  have hnx2 := fun ty => next_empty (P := Tryz.prog) w1 ty M3 h3'
  have HAL2 := Lib.hid (HAL.out.alloc (.mapIter (some M3) 0 #[] 0))
  refine wp_loop_rounds 1 ?_
  rw [rounds_succ]
  go_wp2
  generalize w1.alloc (.mapIter (some M3) 0 #[] 0) = w2 at *
  clear hnx
  refine wp_loop_rounds 1 ?_
  rw [rounds_succ]
  go_wp2_with fail
  refine (Tryz.slices_Sort_int_none none 0 _).mono ?_
  rintro e w' ⟨rfl, rfl⟩
  go_wp2_with fail
  refine (Tryz.slices_Compact_int_empty none 0 _).mono ?_
  rintro e w' ⟨rfl, rfl⟩
  go_wp2
  go_ret
  exact ⟨rfl, HAL2.out⟩
/-- the reader that audit hands on -/
def rdF (B : Nat) : Value := .func (.func 51) #[] #[.pointer (some ⟨B, 0, none⟩)]
set_option maxHeartbeats 1000000 in
theorem wFrom_no (v : Value) (l : List Int) (B : Nat) (n : Nat) (g f d r c now : Int) (ok : Bool) (w : World) (hb : Blk w B #[v] 25) (h : byteE.Is w v l) (hl : l.length ≤ 1000000) (ho : okB l) (hn : n ≤ 4096)
    (hc : chooseM (rdM l 0) (rdM l 1) = (⟨g, f, d, r⟩, c, now, ok)) (hc1 : 0 ≤ c ∧ c ≤ 1000000) (hno : ok = false ∨ (n : Int) < c + 12) :
    Calls Tryz.prog 50 #[rdF B, .int .i64 n] w fun e w' => e = .returned (.tuple #[.pointer none, .bool false]) ∧ Bl w w' := by
  have HI := Lib.hid h
  have HX := Lib.hid hb
  have HO := Lib.hid ho
  have HC := Lib.hid hc
  have hw1 : IntKind.i64.wrap (c + 12) = c + 12 := IntWalk.i64_in _ (by omega)
  clear h hb ho hc
  unfold rdF
  go_enter Tryz.func50, Tryz.ntmps50
  go_wp2_with fail
  refine (afound1_any v l B 0 _ HX.out HI.out hl (by omega)).mono ?_
  rintro e w1 ⟨⟨u1, rfl, hu1⟩, rfl⟩
  have HU1 := Lib.hid hu1
  clear hu1
  go_wp2_with fail
  refine (afound1_any v l B 1 _ HX.out HI.out hl (by omega)).mono ?_
  rintro e w1' ⟨⟨u2, rfl, hu2⟩, rfl⟩
  have HU2 := Lib.hid hu2
  clear hu2
  go_wp2_with fail
  refine (suChoose_any u1 u2 _ _ _ HU1.out HU2.out (by have := rd_len l 0; omega) (by have := rd_len l 1; omega) (rd_ok HO.out 0) (rd_ok HO.out 1)).mono ?_
  rintro e w2 ⟨hb2, he⟩
  rw [HC.out] at he
  simp only [supV] at he
  subst he
  have HB2 := Lib.hid hb2
  clear hb2 HU1 HU2
  cases ok
  · go_wp2
    go_ret2
    exact ⟨rfl, HB2.out.alloc _⟩
  · have hno' : (n : Int) < c + 12 := by simpa using hno
    go_wp2
    go_ret2
    exact ⟨rfl, HB2.out.alloc _⟩
/-- what is found on a disk without a root -/
def foundC (g f d c : Int) (M : Nat) : Array Value := #[.int .i64 g, .int .i64 f, .int .i64 d, .int .i64 0, .int .i64 c, .pointer none, .slice none 0 0, .slice none 0 0, .slice none 0 0, .map (some M)]
end Go.Proofs.YtoocebghlchcoaaGreat.ExtW
