/- Contract of walk.From where a disk has no root. -/
import Derived.Test.YtoocebghlchcoaaGreatFoundW
import Derived.Test.YtoocebghlchcoaaGreatWrP
namespace Go.Proofs.YtoocebghlchcoaaGreat.ExtW
open Go.RowKit Go.Ov Go.Proofs.YtoocebghlchcoaaGreat.Need
theorem alloc_size' (w : World) (o : Obj) : (w.alloc o).heap.size = w.heap.size + 1 := by simp
theorem made_at {w w' : World} {o : Obj} {k : Nat} (hk : k = w.heap.size) (hb : Bl (w.alloc o) w') : w'.heap[k]? = some o := by
  subst hk
  rw [hb.block _ (by rw [alloc_size']; omega)]
  exact heap_alloc_new w o
set_option maxRecDepth 100000 in
set_option maxHeartbeats 2000000 in
theorem wFrom_zero (v : Value) (l : List Int) (B : Nat) (n : Nat) (g f d c now : Int) (w : World) (hb : Blk w B #[v] 25) (h : byteE.Is w v l) (hl : l.length ≤ 1000000) (ho : okB l) (hn : n ≤ 4096)
    (hc : chooseM (rdM l 0) (rdM l 1) = (⟨g, f, d, 0⟩, c, now, true)) (hc1 : 0 ≤ c ∧ c ≤ 1000000) (hno : c + 12 ≤ n) :
    Calls Tryz.prog 50 #[rdF B, .int .i64 n] w fun e w' => ∃ F M, e = .returned (.tuple #[.pointer (some ⟨F, 0, none⟩), .bool true]) ∧ Bl w w' ∧ Blk w' F (foundC g f d c M) 76 ∧ w.heap.size ≤ F := by
  have HI := Lib.hid h
  have HX := Lib.hid hb
  have HO := Lib.hid ho
  have HC := Lib.hid hc
  have hw1 : IntKind.i64.wrap (c + 12) = c + 12 := IntWalk.i64_in _ (by omega)
  have hw2 : IntKind.i64.wrap (2 + c) = 2 + c := IntWalk.i64_in _ (by omega)
  have hno' : ¬ (n : Int) < c + 12 := by omega
  have hmm := @run_makeMap Tryz.prog
  clear h hb ho hc
  unfold rdF
  go_enter Tryz.func50, Tryz.ntmps50
  go_wp2_with fail
  refine (afound1_any v l B 0 _ HX.out HI.out hl (by omega)).mono ?_
  rintro e w1 ⟨⟨u1, rfl, hu1⟩, rfl⟩
  have HU1 := Lib.hid hu1
  clear hu1
  go_wp2_with fail
  refine (afound1_any v l B 1 _ HX.out HI.out hl (by omega)).mono ?_
  rintro e w1' ⟨⟨u2, rfl, hu2⟩, rfl⟩
  have HU2 := Lib.hid hu2
  clear hu2
  go_wp2_with fail
  refine (suChoose_any u1 u2 _ _ _ HU1.out HU2.out (by have := rd_len l 0; omega) (by have := rd_len l 1; omega) (rd_ok HO.out 0) (rd_ok HO.out 1)).mono ?_
  rintro e w2 ⟨hb2, he⟩
  rw [HC.out] at he
  simp only [supV] at he
  subst he
  have HB2 := Lib.hid hb2
  clear hb2 HU1 HU2
  go_wp2_with fail
  generalize hN : w2.heap.size = N
  have hB0 := Bl.refl w2
  have hB1 := hB0.alloc (.cells #[.int .i64 g, .int .i64 f, .int .i64 d, .int .i64 0] 71)
  have hs0 : N + 1 = (w2.alloc (.cells #[.int .i64 g, .int .i64 f, .int .i64 d, .int .i64 0] 71)).heap.size := by rw [alloc_size', hN]
  generalize w2.alloc (.cells #[.int .i64 g, .int .i64 f, .int .i64 d, .int .i64 0] 71) = x1 at *
  have hX1 := Blk.new x1 (foundC g f d c (N + 1 + 1 + 1 + 1)) 76
  have hB2 := hB1.alloc (.cells (foundC g f d c (N + 1 + 1 + 1 + 1)) 76)
  have hs1 : N + 1 + 1 = (x1.alloc (.cells (foundC g f d c (N + 1 + 1 + 1 + 1)) 76)).heap.size := by rw [alloc_size', ← hs0]
  rw [← hs0] at hX1
  unfold foundC at hX1 hB2 hs1
  generalize x1.alloc (.cells #[.int .i64 g, .int .i64 f, .int .i64 d, .int .i64 0, .int .i64 c, .pointer none, .slice none 0 0, .slice none 0 0, .slice none 0 0, .map (some (N + 1 + 1 + 1 + 1))] 76) = x2 at *
  have hs2 : N + 1 + 1 + 1 = (x2.alloc (.map #[] 0)).heap.size := by rw [alloc_size', ← hs1]
  have hB3 := (Bl.refl (x2.alloc (.map #[] 0))).alloc (.map #[] 0)
  have hB3' := (hB2.alloc (.map #[] 0)).alloc (.map #[] 0)
  have hX3 := hX1.bl (((Bl.refl x2).alloc (.map #[] 0)).alloc (.map #[] 0))
  have hm1 := made_at (o := .map #[] 0) hs1 hB3
  have hs3 : N + 1 + 1 + 1 + 1 = ((x2.alloc (.map #[] 0)).alloc (.map #[] 0)).heap.size := by rw [alloc_size', ← hs2]
  generalize (x2.alloc (.map #[] 0)).alloc (.map #[] 0) = x3 at *
  have hs4 : N + 1 + 1 + 1 + 1 + 1 = (x3.alloc (.map #[] 0)).heap.size := by rw [alloc_size', ← hs3]
  have hBT := ((Bl.refl (x3.alloc (.map #[] 0)))).alloc (.cells (walkerC (rdF B) (.int .i64 (2 + c)) (.int .i64 n) (N + 1 + 1) (N + 1 + 1 + 1) (N + 1 + 1 + 1 + 1)) 169)
  have hBX := ((Bl.refl x3).alloc (.map #[] 0)).trans hBT
  have hWk := Blk.new (x3.alloc (.map #[] 0)) (walkerC (rdF B) (.int .i64 (2 + c)) (.int .i64 n) (N + 1 + 1) (N + 1 + 1 + 1) (N + 1 + 1 + 1 + 1)) 169
  rw [← hs4] at hWk
  have hm3 := made_at (o := .map #[] 0) hs3 hBT
  have hm1' := (hBX.block _ (Array.getElem?_eq_some_iff.1 hm1).1).trans hm1
  have HBT := Lib.hid (hB3'.trans hBX)
  have HXT := Lib.hid (hX3.bl hBX)
  have HN := Lib.hid (show w1'.heap.size ≤ N + 1 by rw [← hN]; have := HB2.out.size; omega)
  clear hBT hBX hs4 hs3 hs2 hs1 hs0 hB0 hB1 hB2 hB3 hB3' hX1 hX3 hm1
  refine (wreach_none _ _ _ _ _ _ _ _ hWk hm1' hm3).mono ?_
  rintro e w5 ⟨rfl, hb5⟩
  have HX5 := Lib.hid (HXT.out.bl hb5)
  have HB5 := Lib.hid (HBT.out.trans hb5)
  have f8 := HX5.out.frozen 8
  have c8 := HX5.out.cell 8
  simp at c8
  clear hWk hm1' hm3 hb5 HBT HXT
  go_wp2
  go_ret2
  refine ⟨N + 1, N + 1 + 1 + 1 + 1, rfl, HB2.out.trans (HB5.out.grown (setCell_grown _ _ _ _) (fun k hk => by injection hk with hk; omega)), HX5.out.set 8 (.slice none 0 0), HN.out⟩
end Go.Proofs.YtoocebghlchcoaaGreat.ExtW
