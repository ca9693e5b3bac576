/- Contracts of super: Pack, Unpack, Choose. -/
import Derived.Test.YtoocebghlchcoaaGreatSealW
import Derived.Test.YtoocebghlchcoaaGreatSuperP
namespace Go.Ov
open Go.RowKit
theorem superB_flat (g l d r cells : Int) : [wordM, putF g 4, putF l 4, putF d 4, putF r 4, putF cells 4].flatten = superB ⟨g, l, d, r⟩ cells := by simp [superB]
theorem superB_ok (s : SuperM) (cells : Int) : okB (superB s cells) := by
  unfold superB
  refine okB.app ?_ ((put_ok _ _).app ((put_ok _ _).app ((put_ok _ _).app ((put_ok _ _).app (put_ok _ _)))))
  intro c hc
  simp only [wordM, List.mem_cons, List.not_mem_nil, or_false] at hc
  rcases hc with rfl | rfl | rfl | rfl | rfl | rfl | rfl | rfl <;> decide
theorem word_is {w : World} {N : Nat} {T : TypeId} {fr : Nat × Nat} (h : w.heap[N]? = some (.cells wordC T fr)) : byteE.Is w (.slice (some ⟨N, 0, none⟩) 8 8) wordM := by
  refine ⟨_, 8, rfl, by decide, by decide, (fun h => by cases h), fun i x hx => ⟨_, rfl, fun j u hu => ?_⟩⟩
  have hi : i < 8 := (List.getElem?_eq_some_iff.1 hx).1
  have hj : j = 0 := by have := (List.getElem?_eq_some_iff.1 hu).1; simp [byteE] at this; exact this
  subst hj
  rw [addr_add0, cell_of_row w N _ wordC T fr h]
  simp [byteE] at hu
  subst hu
  rw [show i * byteE.sz + 0 = i by simp [byteE]]
  have hx2 := hx
  rcases (show i = 0 ∨ i = 1 ∨ i = 2 ∨ i = 3 ∨ i = 4 ∨ i = 5 ∨ i = 6 ∨ i = 7 by omega) with rfl | rfl | rfl | rfl | rfl | rfl | rfl | rfl <;> (simp [wordM] at hx2; subst hx2; rfl)
theorem superB_ne (s : SuperM) (cells : Int) : superB s cells ≠ [] := by unfold superB wordM; simp
end Go.Ov
namespace Go.Proofs.YtoocebghlchcoaaGreat.ExtW
open Go.RowKit Go.Ov Go.Proofs.YtoocebghlchcoaaGreat.Need

set_option maxRecDepth 100000 in
set_option maxHeartbeats 4000000 in
theorem suPack_any (g l d r cells : Int) (w : World) (hg : 0 ≤ g ∧ g ≤ 9223372036854775807) (hl : 0 ≤ l ∧ l ≤ 9223372036854775807) (hd : 0 ≤ d ∧ d ≤ 9223372036854775807) (hr : 0 ≤ r ∧ r ≤ 9223372036854775807) (hc : 0 ≤ cells ∧ cells ≤ 9223372036854775807) :
    Calls Tryz.prog 47 #[.agg #[.int .i64 g, .int .i64 l, .int .i64 d, .int .i64 r], .int .i64 cells] w fun e w' => ∃ u, e = .returned u ∧ byteE.Own 5 w' w.heap.size u (packSuper ⟨g, l, d, r⟩ cells) ∧ Bl w w' := by
  go_enter Tryz.func47, Tryz.ntmps47
  go_wp2_with fail
  refine wp_region_ways (S := (fun w' => w'.cell? ⟨w.heap.size, 0, none⟩ = some (.int .i64 g) ∧ w'.cell? ⟨w.heap.size, 1, none⟩ = some (.int .i64 l) ∧ w'.cell? ⟨w.heap.size, 2, none⟩ = some (.int .i64 d) ∧ w'.cell? ⟨w.heap.size, 3, none⟩ = some (.int .i64 r))) [2, 3, 5, 6, 8, 9, 11, 12, 14, 19] (y := .take 2 (.take 3 (.take 5 (.take 6 (.take 8 (.take 9 (.take 11 (.take 12 (.take 14 ((.ev 0 (.ev 1 (.ev 4 (.ev 7 (.ev 10 (.ev 13 (.ev 15 (.ev 16 (.ev 17 (.ev 18 (.take 19 .done) .stop) .stop) .stop) .stop) .stop) .stop) .stop) .stop) (.ev 4 (.ev 1 (.ev 7 (.ev 10 (.ev 13 (.ev 15 (.ev 16 (.ev 17 (.ev 18 (.take 19 .done) .stop) .stop) .stop) .stop) .stop) .stop) .stop) (.ev 7 (.ev 1 (.ev 10 (.ev 13 (.ev 15 (.ev 16 (.ev 17 (.ev 18 (.take 19 .done) .stop) .stop) .stop) .stop) .stop) .stop) (.ev 10 (.ev 1 (.ev 13 (.ev 15 (.ev 16 (.ev 17 (.ev 18 (.take 19 .done) .stop) .stop) .stop) .stop) .stop) (.ev 13 (.ev 1 (.ev 15 (.ev 16 (.ev 17 (.ev 18 (.take 19 .done) .stop) .stop) .stop) .stop) (.ev 15 (.ev 1 (.ev 16 (.ev 17 (.ev 18 (.take 19 .done) .stop) .stop) .stop) .stop) .stop)) .stop)) .stop)) .stop)) .stop)) (.ev 4 (.ev 0 (.ev 1 (.ev 7 (.ev 10 (.ev 13 (.ev 15 (.ev 16 (.ev 17 (.ev 18 (.take 19 .done) .stop) .stop) .stop) .stop) .stop) .stop) .stop) (.ev 7 (.ev 1 (.ev 10 (.ev 13 (.ev 15 (.ev 16 (.ev 17 (.ev 18 (.take 19 .done) .stop) .stop) .stop) .stop) .stop) .stop) (.ev 10 (.ev 1 (.ev 13 (.ev 15 (.ev 16 (.ev 17 (.ev 18 (.take 19 .done) .stop) .stop) .stop) .stop) .stop) (.ev 13 (.ev 1 (.ev 15 (.ev 16 (.ev 17 (.ev 18 (.take 19 .done) .stop) .stop) .stop) .stop) (.ev 15 (.ev 1 (.ev 16 (.ev 17 (.ev 18 (.take 19 .done) .stop) .stop) .stop) .stop) .stop)) .stop)) .stop)) .stop)) (.ev 7 (.ev 0 (.ev 1 (.ev 10 (.ev 13 (.ev 15 (.ev 16 (.ev 17 (.ev 18 (.take 19 .done) .stop) .stop) .stop) .stop) .stop) .stop) (.ev 10 (.ev 1 (.ev 13 (.ev 15 (.ev 16 (.ev 17 (.ev 18 (.take 19 .done) .stop) .stop) .stop) .stop) .stop) (.ev 13 (.ev 1 (.ev 15 (.ev 16 (.ev 17 (.ev 18 (.take 19 .done) .stop) .stop) .stop) .stop) (.ev 15 (.ev 1 (.ev 16 (.ev 17 (.ev 18 (.take 19 .done) .stop) .stop) .stop) .stop) .stop)) .stop)) .stop)) (.ev 10 (.ev 0 (.ev 1 (.ev 13 (.ev 15 (.ev 16 (.ev 17 (.ev 18 (.take 19 .done) .stop) .stop) .stop) .stop) .stop) (.ev 13 (.ev 1 (.ev 15 (.ev 16 (.ev 17 (.ev 18 (.take 19 .done) .stop) .stop) .stop) .stop) (.ev 15 (.ev 1 (.ev 16 (.ev 17 (.ev 18 (.take 19 .done) .stop) .stop) .stop) .stop) .stop)) .stop)) (.ev 13 (.ev 0 (.ev 1 (.ev 15 (.ev 16 (.ev 17 (.ev 18 (.take 19 .done) .stop) .stop) .stop) .stop) (.ev 15 (.ev 1 (.ev 16 (.ev 17 (.ev 18 (.take 19 .done) .stop) .stop) .stop) .stop) .stop)) (.ev 15 (.ev 0 (.ev 1 (.ev 16 (.ev 17 (.ev 18 (.take 19 .done) .stop) .stop) .stop) .stop) .stop) .stop)) .stop)) .stop)) .stop)) .stop)))))))))))) (by kernel_rfl) (by kernel_rfl) (by kernel_rfl) ?_ (fun hHeld => ?_)
  · exact ⟨(Blk.drew (Blk.new w #[.int .i64 g, .int .i64 l, .int .i64 d, .int .i64 r] 71)).cell 0, (Blk.drew (Blk.new w #[.int .i64 g, .int .i64 l, .int .i64 d, .int .i64 r] 71)).cell 1, (Blk.drew (Blk.new w #[.int .i64 g, .int .i64 l, .int .i64 d, .int .i64 r] 71)).cell 2, (Blk.drew (Blk.new w #[.int .i64 g, .int .i64 l, .int .i64 d, .int .i64 r] 71)).cell 3⟩
  clear hHeld
  have HBw := Lib.hid (((Bl.refl w).alloc (.cells #[.int .i64 g, .int .i64 l, .int .i64 d, .int .i64 r] 71)).drew)
  have HBK := Lib.hid (Blk.drew (Blk.new w #[.int .i64 g, .int .i64 l, .int .i64 d, .int .i64 r] 71))
  generalize (w.alloc (.cells #[.int .i64 g, .int .i64 l, .int .i64 d, .int .i64 r] 71)).drew = w0 at *
  have hS : ∀ w1, Bl w0 w1 → w1.cell? ⟨w.heap.size, 0, none⟩ = some (.int .i64 g) ∧ w1.cell? ⟨w.heap.size, 1, none⟩ = some (.int .i64 l) ∧ w1.cell? ⟨w.heap.size, 2, none⟩ = some (.int .i64 d) ∧ w1.cell? ⟨w.heap.size, 3, none⟩ = some (.int .i64 r) := fun w1 hb => ⟨(HBK.out.bl hb).cell 0, (HBK.out.bl hb).cell 1, (HBK.out.bl hb).cell 2, (HBK.out.bl hb).cell 3⟩
  repeat (first | (refine wpWay_take rfl (by rfl) (by intro w hSw; (try dsimp only at hSw); first | (go_simp; done) | (go_simp; with_reducible rfl)) ?_; try simp only [Act.put, List.setIfInBounds_toArray, List.set_cons_zero, List.set_cons_succ]) | (refine wpWay_skip rfl (by rfl) ?_; try simp only [Act.put, List.setIfInBounds_toArray, List.set_cons_zero, List.set_cons_succ]))
  refine way_start fun W hW => ?_
  have H25 : ∀ (N : Nat) (x5 x6 : Value) (y : Nat → Value) (w1 : World), SI 5 2 5 w0 w1 N (fun i => [g, l, d, r, cells].getD i 0) x5 x6 y → W (.ev 16 (.ev 17 (.ev 18 (.take 19 .done) .stop) .stop) .stop) { tmps := #[.agg #[.int .i64 g, .int .i64 l, .int .i64 d, .int .i64 r], .int .i64 cells, .pointer (some ⟨w.heap.size, 0, none⟩), undef, .slice none 0 0, x5, x6, .pointer (some ⟨w.heap.size, 0, none⟩), .int .i64 g, y 0, .pointer (some ⟨w.heap.size, 1, none⟩), .int .i64 l, y 1, .pointer (some ⟨w.heap.size, 2, none⟩), .int .i64 d, y 2, .pointer (some ⟨w.heap.size, 3, none⟩), .int .i64 r, y 3, .int .i64 cells, y 4, undef, undef, undef], defers := [] } w1 := by
    intro N x5 x6 y w1 hs
    rw [hW]
    obtain ⟨A0, c0, e0, i0⟩ := hs.h 0 (by decide)
    obtain ⟨A1, c1, e1, i1⟩ := hs.h 1 (by decide)
    obtain ⟨A2, c2, e2, i2⟩ := hs.h 2 (by decide)
    obtain ⟨A3, c3, e3, i3⟩ := hs.h 3 (by decide)
    obtain ⟨A4, c4, e4, i4⟩ := hs.h 4 (by decide)
    obtain ⟨e5, -, -, fr, e7⟩ := hs.lit (by decide)
    have e6 := hs.cv (Nat.le_refl _)
    have HB := Lib.hid hs.bl
    have HL := Lib.hid (word_is e7)
    rw [e6, e5, e0, e1, e2, e3, e4]
    rw [e0] at i0
    rw [e1] at i1
    rw [e2] at i2
    rw [e3] at i3
    rw [e4] at i4
    replace i0 := Lib.hid ((Sub.un _ _).is i0)
    replace i1 := Lib.hid ((Sub.un _ _).is i1)
    replace i2 := Lib.hid ((Sub.un _ _).is i2)
    replace i3 := Lib.hid ((Sub.un _ _).is i3)
    replace i4 := Lib.hid ((Sub.un _ _).is i4)
    clear e5 e6 e7 e0 e1 e2 e3 e4 hs
    simp only [List.getD_cons_zero, List.getD_cons_succ] at i0 i1 i2 i3 i4 ⊢
    refine wpWay_ev rfl (fun K hK => ?_) wpWay_stop
    go_wp2_with fail
    have hb := (Bl.refl w1).alloc (.cells #[.slice (some ⟨N, 0, none⟩) 8 8, .slice A0 (putF g 4).length c0, .slice A1 (putF l 4).length c1, .slice A2 (putF d 4).length c2, .slice A3 (putF r 4).length c3, .slice A4 (putF cells 4).length c4] 25)
    have hh : headE.Own 25 _ 0 _ [(⟨some ⟨N, 0, none⟩, 8, 8⟩ : Head), ⟨A0, (putF g 4).length, c0⟩, ⟨A1, (putF l 4).length, c1⟩, ⟨A2, (putF d 4).length, c2⟩, ⟨A3, (putF r 4).length, c3⟩, ⟨A4, (putF cells 4).length, c4⟩] := Enc.Own.lit w1 _ _ #[.slice (some ⟨N, 0, none⟩) 8 8, .slice A0 (putF g 4).length c0, .slice A1 (putF l 4).length c1, .slice A2 (putF d 4).length c2, .slice A3 (putF r 4).length c3, .slice A4 (putF cells 4).length c4] rfl 6 rfl (Nat.zero_le _) (by decide) rfl
    have HR := Lib.hid (BRows.cons (x := ⟨some ⟨N, 0, none⟩, 8, 8⟩) HL.out (BRows.cons (x := ⟨A0, (putF g 4).length, c0⟩) i0.out (BRows.cons (x := ⟨A1, (putF l 4).length, c1⟩) i1.out (BRows.cons (x := ⟨A2, (putF d 4).length, c2⟩) i2.out (BRows.cons (x := ⟨A3, (putF r 4).length, c3⟩) i3.out (BRows.cons (x := ⟨A4, (putF cells 4).length, c4⟩) i4.out (BRows.nil _)))))))
    have HR2 := Lib.hid (HR.out.sub (Sub.bl hb))
    replace HB := Lib.hid (HB.out.bl hb)
    refine ⟨hS _ HB.out, ?_⟩
    repeat (first | (refine wpWay_take rfl (by rfl) (by intro w hSw; (try dsimp only at hSw); first | (go_simp; done) | (go_simp; with_reducible rfl)) ?_; try simp only [Act.put, List.setIfInBounds_toArray, List.set_cons_zero, List.set_cons_succ]) | (refine wpWay_skip rfl (by rfl) ?_; try simp only [Act.put, List.setIfInBounds_toArray, List.set_cons_zero, List.set_cons_succ]))
    refine wpWay_ev rfl (fun K hK => ?_) wpWay_stop
    go_wp2_with fail
    refine (fJoin_any _ _ _ _ hh.is HR2.out (by rw [superB_flat]; rw [superB_len]; decide)).mono ?_
    rintro e w7 ⟨u7, rfl, ho7, hb7⟩
    rw [superB_flat] at ho7
    have H7 := Lib.hid ho7
    replace HB := Lib.hid (HB.out.bl hb7)
    clear ho7 hb7 HR HR2 hb i0 i1 i2 i3 i4 HL
    go_wp2_with fail
    refine ⟨hS _ HB.out, ?_⟩
    repeat (first | (refine wpWay_take rfl (by rfl) (by intro w hSw; (try dsimp only at hSw); first | (go_simp; done) | (go_simp; with_reducible rfl)) ?_; try simp only [Act.put, List.setIfInBounds_toArray, List.set_cons_zero, List.set_cons_succ]) | (refine wpWay_skip rfl (by rfl) ?_; try simp only [Act.put, List.setIfInBounds_toArray, List.set_cons_zero, List.set_cons_succ]))
    refine wpWay_ev rfl (fun K hK => ?_) wpWay_stop
    go_wp2_with fail
    refine (seSeal_any _ _ _ H7.out.is (by rw [superB_len]; decide) (superB_ok _ _) (superB_ne _ _)).mono ?_
    rintro e w8 ⟨u8, rfl, ho8, hb8⟩
    have H8 := Lib.hid (ho8.low (HBw.out.bl HB.out).size)
    have HB8 := Lib.hid ((HBw.out.bl HB.out).bl hb8)
    have HB9 := Lib.hid (HB.out.bl hb8)
    clear ho8 hb8
    go_wp2_with fail
    refine ⟨hS _ HB9.out, ?_⟩
    repeat (first | (refine wpWay_take rfl (by rfl) (by intro w hSw; (try dsimp only at hSw); first | (go_simp; done) | (go_simp; with_reducible rfl)) ?_; try simp only [Act.put, List.setIfInBounds_toArray, List.set_cons_zero, List.set_cons_succ]) | (refine wpWay_skip rfl (by rfl) ?_; try simp only [Act.put, List.setIfInBounds_toArray, List.set_cons_zero, List.set_cons_succ]))
    refine wpWay_done ?_
    go_wp2_with fail
    go_ret
    exact ⟨u8, rfl, H8.out, HB8.out⟩
  have H24 : ∀ (N : Nat) (x5 x6 : Value) (y : Nat → Value) (w1 : World), SI 5 2 4 w0 w1 N (fun i => [g, l, d, r, cells].getD i 0) x5 x6 y → W (.ev 15 (.ev 16 (.ev 17 (.ev 18 (.take 19 .done) .stop) .stop) .stop) .stop) { tmps := #[.agg #[.int .i64 g, .int .i64 l, .int .i64 d, .int .i64 r], .int .i64 cells, .pointer (some ⟨w.heap.size, 0, none⟩), undef, .slice none 0 0, x5, x6, .pointer (some ⟨w.heap.size, 0, none⟩), .int .i64 g, y 0, .pointer (some ⟨w.heap.size, 1, none⟩), .int .i64 l, y 1, .pointer (some ⟨w.heap.size, 2, none⟩), .int .i64 d, y 2, .pointer (some ⟨w.heap.size, 3, none⟩), .int .i64 r, y 3, .int .i64 cells, y 4, undef, undef, undef], defers := [] } w1 := by
    intro N x5 x6 y w1 hs
    rw [hW]
    refine wpWay_ev rfl (fun K hK => ?_) wpWay_stop
    go_wp2_with fail
    refine (fPut_any cells 4 _ (by decide) (by omega)).mono ?_
    rintro e w7 ⟨u, rfl, ho, hb⟩
    rw [show max 0 cells = cells by omega] at ho
    have q1 := hs.stepB hb ho
    go_wp2_with fail
    refine ⟨hS _ q1.bl, ?_⟩
    rw [← hW]
    exact H25 _ _ _ _ _ q1
  have H23 : ∀ (N : Nat) (x5 x6 : Value) (y : Nat → Value) (w1 : World), SI 5 2 3 w0 w1 N (fun i => [g, l, d, r, cells].getD i 0) x5 x6 y → W (.ev 13 (.ev 15 (.ev 16 (.ev 17 (.ev 18 (.take 19 .done) .stop) .stop) .stop) .stop) .stop) { tmps := #[.agg #[.int .i64 g, .int .i64 l, .int .i64 d, .int .i64 r], .int .i64 cells, .pointer (some ⟨w.heap.size, 0, none⟩), undef, .slice none 0 0, x5, x6, .pointer (some ⟨w.heap.size, 0, none⟩), .int .i64 g, y 0, .pointer (some ⟨w.heap.size, 1, none⟩), .int .i64 l, y 1, .pointer (some ⟨w.heap.size, 2, none⟩), .int .i64 d, y 2, .pointer (some ⟨w.heap.size, 3, none⟩), .int .i64 r, y 3, .int .i64 cells, y 4, undef, undef, undef], defers := [] } w1 := by
    intro N x5 x6 y w1 hs
    rw [hW]
    refine wpWay_ev rfl (fun K hK => ?_) wpWay_stop
    go_wp2_with fail
    refine (fPut_any r 4 _ (by decide) (by omega)).mono ?_
    rintro e w7 ⟨u, rfl, ho, hb⟩
    rw [show max 0 r = r by omega] at ho
    have q1 := hs.stepB hb ho
    go_wp2_with fail
    refine ⟨hS _ q1.bl, ?_⟩
    rw [← hW]
    exact H24 _ _ _ _ _ q1
  have H22 : ∀ (N : Nat) (x5 x6 : Value) (y : Nat → Value) (w1 : World), SI 5 2 2 w0 w1 N (fun i => [g, l, d, r, cells].getD i 0) x5 x6 y → W (.ev 10 (.ev 13 (.ev 15 (.ev 16 (.ev 17 (.ev 18 (.take 19 .done) .stop) .stop) .stop) .stop) .stop) .stop) { tmps := #[.agg #[.int .i64 g, .int .i64 l, .int .i64 d, .int .i64 r], .int .i64 cells, .pointer (some ⟨w.heap.size, 0, none⟩), undef, .slice none 0 0, x5, x6, .pointer (some ⟨w.heap.size, 0, none⟩), .int .i64 g, y 0, .pointer (some ⟨w.heap.size, 1, none⟩), .int .i64 l, y 1, .pointer (some ⟨w.heap.size, 2, none⟩), .int .i64 d, y 2, .pointer (some ⟨w.heap.size, 3, none⟩), .int .i64 r, y 3, .int .i64 cells, y 4, undef, undef, undef], defers := [] } w1 := by
    intro N x5 x6 y w1 hs
    rw [hW]
    refine wpWay_ev rfl (fun K hK => ?_) wpWay_stop
    go_wp2_with fail
    refine (fPut_any d 4 _ (by decide) (by omega)).mono ?_
    rintro e w7 ⟨u, rfl, ho, hb⟩
    rw [show max 0 d = d by omega] at ho
    have q1 := hs.stepB hb ho
    go_wp2_with fail
    refine ⟨hS _ q1.bl, ?_⟩
    rw [← hW]
    exact H23 _ _ _ _ _ q1
  have H21 : ∀ (N : Nat) (x5 x6 : Value) (y : Nat → Value) (w1 : World), SI 5 2 1 w0 w1 N (fun i => [g, l, d, r, cells].getD i 0) x5 x6 y → W (.ev 7 (.ev 10 (.ev 13 (.ev 15 (.ev 16 (.ev 17 (.ev 18 (.take 19 .done) .stop) .stop) .stop) .stop) .stop) .stop) .stop) { tmps := #[.agg #[.int .i64 g, .int .i64 l, .int .i64 d, .int .i64 r], .int .i64 cells, .pointer (some ⟨w.heap.size, 0, none⟩), undef, .slice none 0 0, x5, x6, .pointer (some ⟨w.heap.size, 0, none⟩), .int .i64 g, y 0, .pointer (some ⟨w.heap.size, 1, none⟩), .int .i64 l, y 1, .pointer (some ⟨w.heap.size, 2, none⟩), .int .i64 d, y 2, .pointer (some ⟨w.heap.size, 3, none⟩), .int .i64 r, y 3, .int .i64 cells, y 4, undef, undef, undef], defers := [] } w1 := by
    intro N x5 x6 y w1 hs
    rw [hW]
    refine wpWay_ev rfl (fun K hK => ?_) wpWay_stop
    go_wp2_with fail
    refine (fPut_any l 4 _ (by decide) (by omega)).mono ?_
    rintro e w7 ⟨u, rfl, ho, hb⟩
    rw [show max 0 l = l by omega] at ho
    have q1 := hs.stepB hb ho
    go_wp2_with fail
    refine ⟨hS _ q1.bl, ?_⟩
    rw [← hW]
    exact H22 _ _ _ _ _ q1
  have H20 : ∀ (N : Nat) (x5 x6 : Value) (y : Nat → Value) (w1 : World), SI 5 2 0 w0 w1 N (fun i => [g, l, d, r, cells].getD i 0) x5 x6 y → W (.ev 4 (.ev 7 (.ev 10 (.ev 13 (.ev 15 (.ev 16 (.ev 17 (.ev 18 (.take 19 .done) .stop) .stop) .stop) .stop) .stop) .stop) .stop) .stop) { tmps := #[.agg #[.int .i64 g, .int .i64 l, .int .i64 d, .int .i64 r], .int .i64 cells, .pointer (some ⟨w.heap.size, 0, none⟩), undef, .slice none 0 0, x5, x6, .pointer (some ⟨w.heap.size, 0, none⟩), .int .i64 g, y 0, .pointer (some ⟨w.heap.size, 1, none⟩), .int .i64 l, y 1, .pointer (some ⟨w.heap.size, 2, none⟩), .int .i64 d, y 2, .pointer (some ⟨w.heap.size, 3, none⟩), .int .i64 r, y 3, .int .i64 cells, y 4, undef, undef, undef], defers := [] } w1 := by
    intro N x5 x6 y w1 hs
    rw [hW]
    refine wpWay_ev rfl (fun K hK => ?_) wpWay_stop
    go_wp2_with fail
    refine (fPut_any g 4 _ (by decide) (by omega)).mono ?_
    rintro e w7 ⟨u, rfl, ho, hb⟩
    rw [show max 0 g = g by omega] at ho
    have q1 := hs.stepB hb ho
    go_wp2_with fail
    refine ⟨hS _ q1.bl, ?_⟩
    rw [← hW]
    exact H21 _ _ _ _ _ q1
  have H15 : ∀ (N : Nat) (x5 x6 : Value) (y : Nat → Value) (w1 : World), SI 5 1 5 w0 w1 N (fun i => [g, l, d, r, cells].getD i 0) x5 x6 y → W (.ev 1 (.ev 16 (.ev 17 (.ev 18 (.take 19 .done) .stop) .stop) .stop) .stop) { tmps := #[.agg #[.int .i64 g, .int .i64 l, .int .i64 d, .int .i64 r], .int .i64 cells, .pointer (some ⟨w.heap.size, 0, none⟩), undef, .slice none 0 0, x5, x6, .pointer (some ⟨w.heap.size, 0, none⟩), .int .i64 g, y 0, .pointer (some ⟨w.heap.size, 1, none⟩), .int .i64 l, y 1, .pointer (some ⟨w.heap.size, 2, none⟩), .int .i64 d, y 2, .pointer (some ⟨w.heap.size, 3, none⟩), .int .i64 r, y 3, .int .i64 cells, y 4, undef, undef, undef], defers := [] } w1 := by
    intro N x5 x6 y w1 hs
    rw [hW]
    refine wpWay_ev rfl (fun K hK => ?_) wpWay_stop
    have q1 := hs.stepA1
    obtain ⟨e5, -, -, fr, e6⟩ := hs.lit (Nat.le_refl _)
    subst e5
    have hcv := run_markRow (P := Tryz.prog) 25 5 Tryz.underlying25 Tryz.underlying5 e6 8 8
    clear e6
    go_wp2_with fail
    refine ⟨hS _ q1.bl, ?_⟩
    rw [← hW]
    exact H25 _ _ _ _ _ q1
  have H14 : ∀ (N : Nat) (x5 x6 : Value) (y : Nat → Value) (w1 : World), SI 5 1 4 w0 w1 N (fun i => [g, l, d, r, cells].getD i 0) x5 x6 y → W (.ev 1 (.ev 15 (.ev 16 (.ev 17 (.ev 18 (.take 19 .done) .stop) .stop) .stop) .stop) (.ev 15 (.ev 1 (.ev 16 (.ev 17 (.ev 18 (.take 19 .done) .stop) .stop) .stop) .stop) .stop)) { tmps := #[.agg #[.int .i64 g, .int .i64 l, .int .i64 d, .int .i64 r], .int .i64 cells, .pointer (some ⟨w.heap.size, 0, none⟩), undef, .slice none 0 0, x5, x6, .pointer (some ⟨w.heap.size, 0, none⟩), .int .i64 g, y 0, .pointer (some ⟨w.heap.size, 1, none⟩), .int .i64 l, y 1, .pointer (some ⟨w.heap.size, 2, none⟩), .int .i64 d, y 2, .pointer (some ⟨w.heap.size, 3, none⟩), .int .i64 r, y 3, .int .i64 cells, y 4, undef, undef, undef], defers := [] } w1 := by
    intro N x5 x6 y w1 hs
    rw [hW]
    refine wpWay_ev rfl (fun K hK => ?_) ?_
    · have q1 := hs.stepA1
      obtain ⟨e5, -, -, fr, e6⟩ := hs.lit (Nat.le_refl _)
      subst e5
      have hcv := run_markRow (P := Tryz.prog) 25 5 Tryz.underlying25 Tryz.underlying5 e6 8 8
      clear e6
      go_wp2_with fail
      refine ⟨hS _ q1.bl, ?_⟩
      rw [← hW]
      exact H24 _ _ _ _ _ q1
    · refine wpWay_ev rfl (fun K hK => ?_) wpWay_stop
      go_wp2_with fail
      refine (fPut_any cells 4 _ (by decide) (by omega)).mono ?_
      rintro e w7 ⟨u, rfl, ho, hb⟩
      rw [show max 0 cells = cells by omega] at ho
      have q1 := hs.stepB hb ho
      go_wp2_with fail
      refine ⟨hS _ q1.bl, ?_⟩
      rw [← hW]
      exact H15 _ _ _ _ _ q1
  have H13 : ∀ (N : Nat) (x5 x6 : Value) (y : Nat → Value) (w1 : World), SI 5 1 3 w0 w1 N (fun i => [g, l, d, r, cells].getD i 0) x5 x6 y → W (.ev 1 (.ev 13 (.ev 15 (.ev 16 (.ev 17 (.ev 18 (.take 19 .done) .stop) .stop) .stop) .stop) .stop) (.ev 13 (.ev 1 (.ev 15 (.ev 16 (.ev 17 (.ev 18 (.take 19 .done) .stop) .stop) .stop) .stop) (.ev 15 (.ev 1 (.ev 16 (.ev 17 (.ev 18 (.take 19 .done) .stop) .stop) .stop) .stop) .stop)) .stop)) { tmps := #[.agg #[.int .i64 g, .int .i64 l, .int .i64 d, .int .i64 r], .int .i64 cells, .pointer (some ⟨w.heap.size, 0, none⟩), undef, .slice none 0 0, x5, x6, .pointer (some ⟨w.heap.size, 0, none⟩), .int .i64 g, y 0, .pointer (some ⟨w.heap.size, 1, none⟩), .int .i64 l, y 1, .pointer (some ⟨w.heap.size, 2, none⟩), .int .i64 d, y 2, .pointer (some ⟨w.heap.size, 3, none⟩), .int .i64 r, y 3, .int .i64 cells, y 4, undef, undef, undef], defers := [] } w1 := by
    intro N x5 x6 y w1 hs
    rw [hW]
    refine wpWay_ev rfl (fun K hK => ?_) ?_
    · have q1 := hs.stepA1
      obtain ⟨e5, -, -, fr, e6⟩ := hs.lit (Nat.le_refl _)
      subst e5
      have hcv := run_markRow (P := Tryz.prog) 25 5 Tryz.underlying25 Tryz.underlying5 e6 8 8
      clear e6
      go_wp2_with fail
      refine ⟨hS _ q1.bl, ?_⟩
      rw [← hW]
      exact H23 _ _ _ _ _ q1
    · refine wpWay_ev rfl (fun K hK => ?_) wpWay_stop
      go_wp2_with fail
      refine (fPut_any r 4 _ (by decide) (by omega)).mono ?_
      rintro e w7 ⟨u, rfl, ho, hb⟩
      rw [show max 0 r = r by omega] at ho
      have q1 := hs.stepB hb ho
      go_wp2_with fail
      refine ⟨hS _ q1.bl, ?_⟩
      rw [← hW]
      exact H14 _ _ _ _ _ q1
  have H12 : ∀ (N : Nat) (x5 x6 : Value) (y : Nat → Value) (w1 : World), SI 5 1 2 w0 w1 N (fun i => [g, l, d, r, cells].getD i 0) x5 x6 y → W (.ev 1 (.ev 10 (.ev 13 (.ev 15 (.ev 16 (.ev 17 (.ev 18 (.take 19 .done) .stop) .stop) .stop) .stop) .stop) .stop) (.ev 10 (.ev 1 (.ev 13 (.ev 15 (.ev 16 (.ev 17 (.ev 18 (.take 19 .done) .stop) .stop) .stop) .stop) .stop) (.ev 13 (.ev 1 (.ev 15 (.ev 16 (.ev 17 (.ev 18 (.take 19 .done) .stop) .stop) .stop) .stop) (.ev 15 (.ev 1 (.ev 16 (.ev 17 (.ev 18 (.take 19 .done) .stop) .stop) .stop) .stop) .stop)) .stop)) .stop)) { tmps := #[.agg #[.int .i64 g, .int .i64 l, .int .i64 d, .int .i64 r], .int .i64 cells, .pointer (some ⟨w.heap.size, 0, none⟩), undef, .slice none 0 0, x5, x6, .pointer (some ⟨w.heap.size, 0, none⟩), .int .i64 g, y 0, .pointer (some ⟨w.heap.size, 1, none⟩), .int .i64 l, y 1, .pointer (some ⟨w.heap.size, 2, none⟩), .int .i64 d, y 2, .pointer (some ⟨w.heap.size, 3, none⟩), .int .i64 r, y 3, .int .i64 cells, y 4, undef, undef, undef], defers := [] } w1 := by
    intro N x5 x6 y w1 hs
    rw [hW]
    refine wpWay_ev rfl (fun K hK => ?_) ?_
    · have q1 := hs.stepA1
      obtain ⟨e5, -, -, fr, e6⟩ := hs.lit (Nat.le_refl _)
      subst e5
      have hcv := run_markRow (P := Tryz.prog) 25 5 Tryz.underlying25 Tryz.underlying5 e6 8 8
      clear e6
      go_wp2_with fail
      refine ⟨hS _ q1.bl, ?_⟩
      rw [← hW]
      exact H22 _ _ _ _ _ q1
    · refine wpWay_ev rfl (fun K hK => ?_) wpWay_stop
      go_wp2_with fail
      refine (fPut_any d 4 _ (by decide) (by omega)).mono ?_
      rintro e w7 ⟨u, rfl, ho, hb⟩
      rw [show max 0 d = d by omega] at ho
      have q1 := hs.stepB hb ho
      go_wp2_with fail
      refine ⟨hS _ q1.bl, ?_⟩
      rw [← hW]
      exact H13 _ _ _ _ _ q1
  have H11 : ∀ (N : Nat) (x5 x6 : Value) (y : Nat → Value) (w1 : World), SI 5 1 1 w0 w1 N (fun i => [g, l, d, r, cells].getD i 0) x5 x6 y → W (.ev 1 (.ev 7 (.ev 10 (.ev 13 (.ev 15 (.ev 16 (.ev 17 (.ev 18 (.take 19 .done) .stop) .stop) .stop) .stop) .stop) .stop) .stop) (.ev 7 (.ev 1 (.ev 10 (.ev 13 (.ev 15 (.ev 16 (.ev 17 (.ev 18 (.take 19 .done) .stop) .stop) .stop) .stop) .stop) .stop) (.ev 10 (.ev 1 (.ev 13 (.ev 15 (.ev 16 (.ev 17 (.ev 18 (.take 19 .done) .stop) .stop) .stop) .stop) .stop) (.ev 13 (.ev 1 (.ev 15 (.ev 16 (.ev 17 (.ev 18 (.take 19 .done) .stop) .stop) .stop) .stop) (.ev 15 (.ev 1 (.ev 16 (.ev 17 (.ev 18 (.take 19 .done) .stop) .stop) .stop) .stop) .stop)) .stop)) .stop)) .stop)) { tmps := #[.agg #[.int .i64 g, .int .i64 l, .int .i64 d, .int .i64 r], .int .i64 cells, .pointer (some ⟨w.heap.size, 0, none⟩), undef, .slice none 0 0, x5, x6, .pointer (some ⟨w.heap.size, 0, none⟩), .int .i64 g, y 0, .pointer (some ⟨w.heap.size, 1, none⟩), .int .i64 l, y 1, .pointer (some ⟨w.heap.size, 2, none⟩), .int .i64 d, y 2, .pointer (some ⟨w.heap.size, 3, none⟩), .int .i64 r, y 3, .int .i64 cells, y 4, undef, undef, undef], defers := [] } w1 := by
    intro N x5 x6 y w1 hs
    rw [hW]
    refine wpWay_ev rfl (fun K hK => ?_) ?_
    · have q1 := hs.stepA1
      obtain ⟨e5, -, -, fr, e6⟩ := hs.lit (Nat.le_refl _)
      subst e5
      have hcv := run_markRow (P := Tryz.prog) 25 5 Tryz.underlying25 Tryz.underlying5 e6 8 8
      clear e6
      go_wp2_with fail
      refine ⟨hS _ q1.bl, ?_⟩
      rw [← hW]
      exact H21 _ _ _ _ _ q1
    · refine wpWay_ev rfl (fun K hK => ?_) wpWay_stop
      go_wp2_with fail
      refine (fPut_any l 4 _ (by decide) (by omega)).mono ?_
      rintro e w7 ⟨u, rfl, ho, hb⟩
      rw [show max 0 l = l by omega] at ho
      have q1 := hs.stepB hb ho
      go_wp2_with fail
      refine ⟨hS _ q1.bl, ?_⟩
      rw [← hW]
      exact H12 _ _ _ _ _ q1
  have H10 : ∀ (N : Nat) (x5 x6 : Value) (y : Nat → Value) (w1 : World), SI 5 1 0 w0 w1 N (fun i => [g, l, d, r, cells].getD i 0) x5 x6 y → W (.ev 1 (.ev 4 (.ev 7 (.ev 10 (.ev 13 (.ev 15 (.ev 16 (.ev 17 (.ev 18 (.take 19 .done) .stop) .stop) .stop) .stop) .stop) .stop) .stop) .stop) (.ev 4 (.ev 1 (.ev 7 (.ev 10 (.ev 13 (.ev 15 (.ev 16 (.ev 17 (.ev 18 (.take 19 .done) .stop) .stop) .stop) .stop) .stop) .stop) .stop) (.ev 7 (.ev 1 (.ev 10 (.ev 13 (.ev 15 (.ev 16 (.ev 17 (.ev 18 (.take 19 .done) .stop) .stop) .stop) .stop) .stop) .stop) (.ev 10 (.ev 1 (.ev 13 (.ev 15 (.ev 16 (.ev 17 (.ev 18 (.take 19 .done) .stop) .stop) .stop) .stop) .stop) (.ev 13 (.ev 1 (.ev 15 (.ev 16 (.ev 17 (.ev 18 (.take 19 .done) .stop) .stop) .stop) .stop) (.ev 15 (.ev 1 (.ev 16 (.ev 17 (.ev 18 (.take 19 .done) .stop) .stop) .stop) .stop) .stop)) .stop)) .stop)) .stop)) .stop)) { tmps := #[.agg #[.int .i64 g, .int .i64 l, .int .i64 d, .int .i64 r], .int .i64 cells, .pointer (some ⟨w.heap.size, 0, none⟩), undef, .slice none 0 0, x5, x6, .pointer (some ⟨w.heap.size, 0, none⟩), .int .i64 g, y 0, .pointer (some ⟨w.heap.size, 1, none⟩), .int .i64 l, y 1, .pointer (some ⟨w.heap.size, 2, none⟩), .int .i64 d, y 2, .pointer (some ⟨w.heap.size, 3, none⟩), .int .i64 r, y 3, .int .i64 cells, y 4, undef, undef, undef], defers := [] } w1 := by
    intro N x5 x6 y w1 hs
    rw [hW]
    refine wpWay_ev rfl (fun K hK => ?_) ?_
    · have q1 := hs.stepA1
      obtain ⟨e5, -, -, fr, e6⟩ := hs.lit (Nat.le_refl _)
      subst e5
      have hcv := run_markRow (P := Tryz.prog) 25 5 Tryz.underlying25 Tryz.underlying5 e6 8 8
      clear e6
      go_wp2_with fail
      refine ⟨hS _ q1.bl, ?_⟩
      rw [← hW]
      exact H20 _ _ _ _ _ q1
    · refine wpWay_ev rfl (fun K hK => ?_) wpWay_stop
      go_wp2_with fail
      refine (fPut_any g 4 _ (by decide) (by omega)).mono ?_
      rintro e w7 ⟨u, rfl, ho, hb⟩
      rw [show max 0 g = g by omega] at ho
      have q1 := hs.stepB hb ho
      go_wp2_with fail
      refine ⟨hS _ q1.bl, ?_⟩
      rw [← hW]
      exact H11 _ _ _ _ _ q1
  have H05 : ∀ (N : Nat) (x5 x6 : Value) (y : Nat → Value) (w1 : World), SI 5 0 5 w0 w1 N (fun i => [g, l, d, r, cells].getD i 0) x5 x6 y → W (.ev 0 (.ev 1 (.ev 16 (.ev 17 (.ev 18 (.take 19 .done) .stop) .stop) .stop) .stop) .stop) { tmps := #[.agg #[.int .i64 g, .int .i64 l, .int .i64 d, .int .i64 r], .int .i64 cells, .pointer (some ⟨w.heap.size, 0, none⟩), undef, .slice none 0 0, x5, x6, .pointer (some ⟨w.heap.size, 0, none⟩), .int .i64 g, y 0, .pointer (some ⟨w.heap.size, 1, none⟩), .int .i64 l, y 1, .pointer (some ⟨w.heap.size, 2, none⟩), .int .i64 d, y 2, .pointer (some ⟨w.heap.size, 3, none⟩), .int .i64 r, y 3, .int .i64 cells, y 4, undef, undef, undef], defers := [] } w1 := by
    intro N x5 x6 y w1 hs
    rw [hW]
    refine wpWay_ev rfl (fun K hK => ?_) wpWay_stop
    have q1 := hs.stepA0
    go_wp2_with fail
    refine ⟨hS _ q1.bl, ?_⟩
    rw [← hW]
    exact H15 _ _ _ _ _ q1
  have H04 : ∀ (N : Nat) (x5 x6 : Value) (y : Nat → Value) (w1 : World), SI 5 0 4 w0 w1 N (fun i => [g, l, d, r, cells].getD i 0) x5 x6 y → W (.ev 0 (.ev 1 (.ev 15 (.ev 16 (.ev 17 (.ev 18 (.take 19 .done) .stop) .stop) .stop) .stop) (.ev 15 (.ev 1 (.ev 16 (.ev 17 (.ev 18 (.take 19 .done) .stop) .stop) .stop) .stop) .stop)) (.ev 15 (.ev 0 (.ev 1 (.ev 16 (.ev 17 (.ev 18 (.take 19 .done) .stop) .stop) .stop) .stop) .stop) .stop)) { tmps := #[.agg #[.int .i64 g, .int .i64 l, .int .i64 d, .int .i64 r], .int .i64 cells, .pointer (some ⟨w.heap.size, 0, none⟩), undef, .slice none 0 0, x5, x6, .pointer (some ⟨w.heap.size, 0, none⟩), .int .i64 g, y 0, .pointer (some ⟨w.heap.size, 1, none⟩), .int .i64 l, y 1, .pointer (some ⟨w.heap.size, 2, none⟩), .int .i64 d, y 2, .pointer (some ⟨w.heap.size, 3, none⟩), .int .i64 r, y 3, .int .i64 cells, y 4, undef, undef, undef], defers := [] } w1 := by
    intro N x5 x6 y w1 hs
    rw [hW]
    refine wpWay_ev rfl (fun K hK => ?_) ?_
    · have q1 := hs.stepA0
      go_wp2_with fail
      refine ⟨hS _ q1.bl, ?_⟩
      rw [← hW]
      exact H14 _ _ _ _ _ q1
    · refine wpWay_ev rfl (fun K hK => ?_) wpWay_stop
      go_wp2_with fail
      refine (fPut_any cells 4 _ (by decide) (by omega)).mono ?_
      rintro e w7 ⟨u, rfl, ho, hb⟩
      rw [show max 0 cells = cells by omega] at ho
      have q1 := hs.stepB hb ho
      go_wp2_with fail
      refine ⟨hS _ q1.bl, ?_⟩
      rw [← hW]
      exact H05 _ _ _ _ _ q1
  have H03 : ∀ (N : Nat) (x5 x6 : Value) (y : Nat → Value) (w1 : World), SI 5 0 3 w0 w1 N (fun i => [g, l, d, r, cells].getD i 0) x5 x6 y → W (.ev 0 (.ev 1 (.ev 13 (.ev 15 (.ev 16 (.ev 17 (.ev 18 (.take 19 .done) .stop) .stop) .stop) .stop) .stop) (.ev 13 (.ev 1 (.ev 15 (.ev 16 (.ev 17 (.ev 18 (.take 19 .done) .stop) .stop) .stop) .stop) (.ev 15 (.ev 1 (.ev 16 (.ev 17 (.ev 18 (.take 19 .done) .stop) .stop) .stop) .stop) .stop)) .stop)) (.ev 13 (.ev 0 (.ev 1 (.ev 15 (.ev 16 (.ev 17 (.ev 18 (.take 19 .done) .stop) .stop) .stop) .stop) (.ev 15 (.ev 1 (.ev 16 (.ev 17 (.ev 18 (.take 19 .done) .stop) .stop) .stop) .stop) .stop)) (.ev 15 (.ev 0 (.ev 1 (.ev 16 (.ev 17 (.ev 18 (.take 19 .done) .stop) .stop) .stop) .stop) .stop) .stop)) .stop)) { tmps := #[.agg #[.int .i64 g, .int .i64 l, .int .i64 d, .int .i64 r], .int .i64 cells, .pointer (some ⟨w.heap.size, 0, none⟩), undef, .slice none 0 0, x5, x6, .pointer (some ⟨w.heap.size, 0, none⟩), .int .i64 g, y 0, .pointer (some ⟨w.heap.size, 1, none⟩), .int .i64 l, y 1, .pointer (some ⟨w.heap.size, 2, none⟩), .int .i64 d, y 2, .pointer (some ⟨w.heap.size, 3, none⟩), .int .i64 r, y 3, .int .i64 cells, y 4, undef, undef, undef], defers := [] } w1 := by
    intro N x5 x6 y w1 hs
    rw [hW]
    refine wpWay_ev rfl (fun K hK => ?_) ?_
    · have q1 := hs.stepA0
      go_wp2_with fail
      refine ⟨hS _ q1.bl, ?_⟩
      rw [← hW]
      exact H13 _ _ _ _ _ q1
    · refine wpWay_ev rfl (fun K hK => ?_) wpWay_stop
      go_wp2_with fail
      refine (fPut_any r 4 _ (by decide) (by omega)).mono ?_
      rintro e w7 ⟨u, rfl, ho, hb⟩
      rw [show max 0 r = r by omega] at ho
      have q1 := hs.stepB hb ho
      go_wp2_with fail
      refine ⟨hS _ q1.bl, ?_⟩
      rw [← hW]
      exact H04 _ _ _ _ _ q1
  have H02 : ∀ (N : Nat) (x5 x6 : Value) (y : Nat → Value) (w1 : World), SI 5 0 2 w0 w1 N (fun i => [g, l, d, r, cells].getD i 0) x5 x6 y → W (.ev 0 (.ev 1 (.ev 10 (.ev 13 (.ev 15 (.ev 16 (.ev 17 (.ev 18 (.take 19 .done) .stop) .stop) .stop) .stop) .stop) .stop) (.ev 10 (.ev 1 (.ev 13 (.ev 15 (.ev 16 (.ev 17 (.ev 18 (.take 19 .done) .stop) .stop) .stop) .stop) .stop) (.ev 13 (.ev 1 (.ev 15 (.ev 16 (.ev 17 (.ev 18 (.take 19 .done) .stop) .stop) .stop) .stop) (.ev 15 (.ev 1 (.ev 16 (.ev 17 (.ev 18 (.take 19 .done) .stop) .stop) .stop) .stop) .stop)) .stop)) .stop)) (.ev 10 (.ev 0 (.ev 1 (.ev 13 (.ev 15 (.ev 16 (.ev 17 (.ev 18 (.take 19 .done) .stop) .stop) .stop) .stop) .stop) (.ev 13 (.ev 1 (.ev 15 (.ev 16 (.ev 17 (.ev 18 (.take 19 .done) .stop) .stop) .stop) .stop) (.ev 15 (.ev 1 (.ev 16 (.ev 17 (.ev 18 (.take 19 .done) .stop) .stop) .stop) .stop) .stop)) .stop)) (.ev 13 (.ev 0 (.ev 1 (.ev 15 (.ev 16 (.ev 17 (.ev 18 (.take 19 .done) .stop) .stop) .stop) .stop) (.ev 15 (.ev 1 (.ev 16 (.ev 17 (.ev 18 (.take 19 .done) .stop) .stop) .stop) .stop) .stop)) (.ev 15 (.ev 0 (.ev 1 (.ev 16 (.ev 17 (.ev 18 (.take 19 .done) .stop) .stop) .stop) .stop) .stop) .stop)) .stop)) .stop)) { tmps := #[.agg #[.int .i64 g, .int .i64 l, .int .i64 d, .int .i64 r], .int .i64 cells, .pointer (some ⟨w.heap.size, 0, none⟩), undef, .slice none 0 0, x5, x6, .pointer (some ⟨w.heap.size, 0, none⟩), .int .i64 g, y 0, .pointer (some ⟨w.heap.size, 1, none⟩), .int .i64 l, y 1, .pointer (some ⟨w.heap.size, 2, none⟩), .int .i64 d, y 2, .pointer (some ⟨w.heap.size, 3, none⟩), .int .i64 r, y 3, .int .i64 cells, y 4, undef, undef, undef], defers := [] } w1 := by
    intro N x5 x6 y w1 hs
    rw [hW]
    refine wpWay_ev rfl (fun K hK => ?_) ?_
    · have q1 := hs.stepA0
      go_wp2_with fail
      refine ⟨hS _ q1.bl, ?_⟩
      rw [← hW]
      exact H12 _ _ _ _ _ q1
    · refine wpWay_ev rfl (fun K hK => ?_) wpWay_stop
      go_wp2_with fail
      refine (fPut_any d 4 _ (by decide) (by omega)).mono ?_
      rintro e w7 ⟨u, rfl, ho, hb⟩
      rw [show max 0 d = d by omega] at ho
      have q1 := hs.stepB hb ho
      go_wp2_with fail
      refine ⟨hS _ q1.bl, ?_⟩
      rw [← hW]
      exact H03 _ _ _ _ _ q1
  have H01 : ∀ (N : Nat) (x5 x6 : Value) (y : Nat → Value) (w1 : World), SI 5 0 1 w0 w1 N (fun i => [g, l, d, r, cells].getD i 0) x5 x6 y → W (.ev 0 (.ev 1 (.ev 7 (.ev 10 (.ev 13 (.ev 15 (.ev 16 (.ev 17 (.ev 18 (.take 19 .done) .stop) .stop) .stop) .stop) .stop) .stop) .stop) (.ev 7 (.ev 1 (.ev 10 (.ev 13 (.ev 15 (.ev 16 (.ev 17 (.ev 18 (.take 19 .done) .stop) .stop) .stop) .stop) .stop) .stop) (.ev 10 (.ev 1 (.ev 13 (.ev 15 (.ev 16 (.ev 17 (.ev 18 (.take 19 .done) .stop) .stop) .stop) .stop) .stop) (.ev 13 (.ev 1 (.ev 15 (.ev 16 (.ev 17 (.ev 18 (.take 19 .done) .stop) .stop) .stop) .stop) (.ev 15 (.ev 1 (.ev 16 (.ev 17 (.ev 18 (.take 19 .done) .stop) .stop) .stop) .stop) .stop)) .stop)) .stop)) .stop)) (.ev 7 (.ev 0 (.ev 1 (.ev 10 (.ev 13 (.ev 15 (.ev 16 (.ev 17 (.ev 18 (.take 19 .done) .stop) .stop) .stop) .stop) .stop) .stop) (.ev 10 (.ev 1 (.ev 13 (.ev 15 (.ev 16 (.ev 17 (.ev 18 (.take 19 .done) .stop) .stop) .stop) .stop) .stop) (.ev 13 (.ev 1 (.ev 15 (.ev 16 (.ev 17 (.ev 18 (.take 19 .done) .stop) .stop) .stop) .stop) (.ev 15 (.ev 1 (.ev 16 (.ev 17 (.ev 18 (.take 19 .done) .stop) .stop) .stop) .stop) .stop)) .stop)) .stop)) (.ev 10 (.ev 0 (.ev 1 (.ev 13 (.ev 15 (.ev 16 (.ev 17 (.ev 18 (.take 19 .done) .stop) .stop) .stop) .stop) .stop) (.ev 13 (.ev 1 (.ev 15 (.ev 16 (.ev 17 (.ev 18 (.take 19 .done) .stop) .stop) .stop) .stop) (.ev 15 (.ev 1 (.ev 16 (.ev 17 (.ev 18 (.take 19 .done) .stop) .stop) .stop) .stop) .stop)) .stop)) (.ev 13 (.ev 0 (.ev 1 (.ev 15 (.ev 16 (.ev 17 (.ev 18 (.take 19 .done) .stop) .stop) .stop) .stop) (.ev 15 (.ev 1 (.ev 16 (.ev 17 (.ev 18 (.take 19 .done) .stop) .stop) .stop) .stop) .stop)) (.ev 15 (.ev 0 (.ev 1 (.ev 16 (.ev 17 (.ev 18 (.take 19 .done) .stop) .stop) .stop) .stop) .stop) .stop)) .stop)) .stop)) .stop)) { tmps := #[.agg #[.int .i64 g, .int .i64 l, .int .i64 d, .int .i64 r], .int .i64 cells, .pointer (some ⟨w.heap.size, 0, none⟩), undef, .slice none 0 0, x5, x6, .pointer (some ⟨w.heap.size, 0, none⟩), .int .i64 g, y 0, .pointer (some ⟨w.heap.size, 1, none⟩), .int .i64 l, y 1, .pointer (some ⟨w.heap.size, 2, none⟩), .int .i64 d, y 2, .pointer (some ⟨w.heap.size, 3, none⟩), .int .i64 r, y 3, .int .i64 cells, y 4, undef, undef, undef], defers := [] } w1 := by
    intro N x5 x6 y w1 hs
    rw [hW]
    refine wpWay_ev rfl (fun K hK => ?_) ?_
    · have q1 := hs.stepA0
      go_wp2_with fail
      refine ⟨hS _ q1.bl, ?_⟩
      rw [← hW]
      exact H11 _ _ _ _ _ q1
    · refine wpWay_ev rfl (fun K hK => ?_) wpWay_stop
      go_wp2_with fail
      refine (fPut_any l 4 _ (by decide) (by omega)).mono ?_
      rintro e w7 ⟨u, rfl, ho, hb⟩
      rw [show max 0 l = l by omega] at ho
      have q1 := hs.stepB hb ho
      go_wp2_with fail
      refine ⟨hS _ q1.bl, ?_⟩
      rw [← hW]
      exact H02 _ _ _ _ _ q1
  have H00 : ∀ (N : Nat) (x5 x6 : Value) (y : Nat → Value) (w1 : World), SI 5 0 0 w0 w1 N (fun i => [g, l, d, r, cells].getD i 0) x5 x6 y → W (.ev 0 (.ev 1 (.ev 4 (.ev 7 (.ev 10 (.ev 13 (.ev 15 (.ev 16 (.ev 17 (.ev 18 (.take 19 .done) .stop) .stop) .stop) .stop) .stop) .stop) .stop) .stop) (.ev 4 (.ev 1 (.ev 7 (.ev 10 (.ev 13 (.ev 15 (.ev 16 (.ev 17 (.ev 18 (.take 19 .done) .stop) .stop) .stop) .stop) .stop) .stop) .stop) (.ev 7 (.ev 1 (.ev 10 (.ev 13 (.ev 15 (.ev 16 (.ev 17 (.ev 18 (.take 19 .done) .stop) .stop) .stop) .stop) .stop) .stop) (.ev 10 (.ev 1 (.ev 13 (.ev 15 (.ev 16 (.ev 17 (.ev 18 (.take 19 .done) .stop) .stop) .stop) .stop) .stop) (.ev 13 (.ev 1 (.ev 15 (.ev 16 (.ev 17 (.ev 18 (.take 19 .done) .stop) .stop) .stop) .stop) (.ev 15 (.ev 1 (.ev 16 (.ev 17 (.ev 18 (.take 19 .done) .stop) .stop) .stop) .stop) .stop)) .stop)) .stop)) .stop)) .stop)) (.ev 4 (.ev 0 (.ev 1 (.ev 7 (.ev 10 (.ev 13 (.ev 15 (.ev 16 (.ev 17 (.ev 18 (.take 19 .done) .stop) .stop) .stop) .stop) .stop) .stop) .stop) (.ev 7 (.ev 1 (.ev 10 (.ev 13 (.ev 15 (.ev 16 (.ev 17 (.ev 18 (.take 19 .done) .stop) .stop) .stop) .stop) .stop) .stop) (.ev 10 (.ev 1 (.ev 13 (.ev 15 (.ev 16 (.ev 17 (.ev 18 (.take 19 .done) .stop) .stop) .stop) .stop) .stop) (.ev 13 (.ev 1 (.ev 15 (.ev 16 (.ev 17 (.ev 18 (.take 19 .done) .stop) .stop) .stop) .stop) (.ev 15 (.ev 1 (.ev 16 (.ev 17 (.ev 18 (.take 19 .done) .stop) .stop) .stop) .stop) .stop)) .stop)) .stop)) .stop)) (.ev 7 (.ev 0 (.ev 1 (.ev 10 (.ev 13 (.ev 15 (.ev 16 (.ev 17 (.ev 18 (.take 19 .done) .stop) .stop) .stop) .stop) .stop) .stop) (.ev 10 (.ev 1 (.ev 13 (.ev 15 (.ev 16 (.ev 17 (.ev 18 (.take 19 .done) .stop) .stop) .stop) .stop) .stop) (.ev 13 (.ev 1 (.ev 15 (.ev 16 (.ev 17 (.ev 18 (.take 19 .done) .stop) .stop) .stop) .stop) (.ev 15 (.ev 1 (.ev 16 (.ev 17 (.ev 18 (.take 19 .done) .stop) .stop) .stop) .stop) .stop)) .stop)) .stop)) (.ev 10 (.ev 0 (.ev 1 (.ev 13 (.ev 15 (.ev 16 (.ev 17 (.ev 18 (.take 19 .done) .stop) .stop) .stop) .stop) .stop) (.ev 13 (.ev 1 (.ev 15 (.ev 16 (.ev 17 (.ev 18 (.take 19 .done) .stop) .stop) .stop) .stop) (.ev 15 (.ev 1 (.ev 16 (.ev 17 (.ev 18 (.take 19 .done) .stop) .stop) .stop) .stop) .stop)) .stop)) (.ev 13 (.ev 0 (.ev 1 (.ev 15 (.ev 16 (.ev 17 (.ev 18 (.take 19 .done) .stop) .stop) .stop) .stop) (.ev 15 (.ev 1 (.ev 16 (.ev 17 (.ev 18 (.take 19 .done) .stop) .stop) .stop) .stop) .stop)) (.ev 15 (.ev 0 (.ev 1 (.ev 16 (.ev 17 (.ev 18 (.take 19 .done) .stop) .stop) .stop) .stop) .stop) .stop)) .stop)) .stop)) .stop)) .stop)) { tmps := #[.agg #[.int .i64 g, .int .i64 l, .int .i64 d, .int .i64 r], .int .i64 cells, .pointer (some ⟨w.heap.size, 0, none⟩), undef, .slice none 0 0, x5, x6, .pointer (some ⟨w.heap.size, 0, none⟩), .int .i64 g, y 0, .pointer (some ⟨w.heap.size, 1, none⟩), .int .i64 l, y 1, .pointer (some ⟨w.heap.size, 2, none⟩), .int .i64 d, y 2, .pointer (some ⟨w.heap.size, 3, none⟩), .int .i64 r, y 3, .int .i64 cells, y 4, undef, undef, undef], defers := [] } w1 := by
    intro N x5 x6 y w1 hs
    rw [hW]
    refine wpWay_ev rfl (fun K hK => ?_) ?_
    · have q1 := hs.stepA0
      go_wp2_with fail
      refine ⟨hS _ q1.bl, ?_⟩
      rw [← hW]
      exact H10 _ _ _ _ _ q1
    · refine wpWay_ev rfl (fun K hK => ?_) wpWay_stop
      go_wp2_with fail
      refine (fPut_any g 4 _ (by decide) (by omega)).mono ?_
      rintro e w7 ⟨u, rfl, ho, hb⟩
      rw [show max 0 g = g by omega] at ho
      have q1 := hs.stepB hb ho
      go_wp2_with fail
      refine ⟨hS _ q1.bl, ?_⟩
      rw [← hW]
      exact H01 _ _ _ _ _ q1
  exact H00 0 _ _ (fun _ => undef) _ ⟨Bl.refl _, fun q => by omega, fun q => by omega, fun i hi => by omega⟩
end Go.Proofs.YtoocebghlchcoaaGreat.ExtW
