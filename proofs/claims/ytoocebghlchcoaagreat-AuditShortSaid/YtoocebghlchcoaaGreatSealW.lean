/- Contracts of sealed: sum, Seal, Open. -/
import Derived.Test.YtoocebghlchcoaaGreatOnceD
import Derived.Test.YtoocebghlchcoaaGreatFieldW
namespace Go.Proofs.YtoocebghlchcoaaGreat.ExtW
open Go.RowKit Go.Ov Go.Proofs.YtoocebghlchcoaaGreat.Need

set_option maxRecDepth 100000 in
set_option maxHeartbeats 1000000 in
theorem sesum_any (vb : Value) (l : List Int) (w : World) (hb : byteE.Is w vb l) (hl : l.length ≤ 1000000) (ho : okB l) :
    Calls Tryz.prog 87 #[vb] w fun e w' => ∃ u, e = .returned u ∧ byteE.Own 5 w' w.heap.size u (sum4 l) ∧ Bl w w' := by
  have HX := Lib.hid hb
  have HO := Lib.hid ho
  clear hb ho
  go_enter Tryz.func87, Tryz.ntmps87
  go_wp2_with fail
  refine (cnew_any _).mono ?_
  rintro e w1 ⟨rfl, hb1, hk1⟩
  have HB1 := Lib.hid hb1
  have HK1 := Lib.hid hk1
  clear hb1 hk1
  go_wp2_with fail
  refine (csum_any _ vb l _ (.inl HK1.out) ((sub_old HB1.out (fun k hk => by simp [nb1]; omega)).is HX.out) hl HO.out).mono ?_
  rintro e w2 ⟨rfl, -, hg⟩
  have HB2 := Lib.hid (HB1.out.grown hg (fun k hk => by injection hk with hk; omega))
  obtain ⟨q, hq⟩ : ∃ q, q = crcSum l := ⟨_, rfl⟩
  rw [← hq]
  have HQ := Lib.hid hq
  have hlt := q.isLt
  clear hg hq
  go_wp2
  go_ret
  refine ⟨_, rfl, Enc.Own.lit (E := byteE) w2 _ (sum4 l) _ ?_ 4 rfl HB2.out.size (by decide) rfl, HB2.out.alloc _⟩
  rw [byte_flat]
  unfold sum4
  rw [← HQ.out]
  simp

theorem lay_padS (l : List Int) (h : l.length ≤ 124) : lay (List.replicate 124 0) 0 (l.take (min l.length 124)) = padB l := by
  unfold lay padB
  rw [Nat.min_eq_left h, List.take_length, List.take_zero, List.nil_append, Nat.zero_add, List.drop_replicate]
theorem padS_ok {l : List Int} (h : okB l) : okB (padB l) := h.app (zeros_ok _)
theorem seal_ok {l : List Int} (h : okB l) : okB (sealM l) := (padS_ok h).app (sum4_ok _)
set_option maxRecDepth 100000 in
set_option maxHeartbeats 1000000 in
theorem seSeal_any (vb : Value) (l : List Int) (w : World) (hb : byteE.Is w vb l) (hl : l.length ≤ 124) (ho : okB l) (hne : l ≠ []) :
    Calls Tryz.prog 73 #[vb] w fun e w' => ∃ u, e = .returned u ∧ byteE.Own 5 w' w.heap.size u (sealM l) ∧ Bl w w' := by
  have HX := Lib.hid hb
  have HO := Lib.hid ho
  have HNE := Lib.hid hne
  obtain ⟨A, c, rfl, h1, h2, h3, h4⟩ := hb
  clear h1 h2 h3 h4 ho hne
  obtain ⟨Z, hZ⟩ : ∃ Z, Z = rowB (List.replicate 124 0) := ⟨_, rfl⟩
  have hmk : ∀ w, (Instr.makeSlice 25 (.int .i64 124) (.int .i64 124)).run Tryz.prog w = .ok (.slice (some ⟨w.heap.size, 0, none⟩) 124 124) (w.alloc (.cells Z 5)) := fun w => by
    have := run_make_row' (P := Tryz.prog) 25 5 (.int .u8 0) 1 Tryz.underlying25 infoByte rfl .i64 .i64 124 (by omega) (by omega) w
    rw [hZ, ← row_made]; exact this
  have HB1 := Lib.hid ((Bl.refl w).alloc (.cells Z 5))
  have HZ := Lib.hid (show Blk (w.alloc (.cells Z 5)) w.heap.size (rowB (List.replicate 124 0)) 5 by rw [← hZ]; exact Blk.new _ _ _)
  obtain ⟨R, hR⟩ : ∃ R, R = rowB (padB l) := ⟨_, rfl⟩
  have hcp : ∀ ty, (Builtin.copy_ #[25, 25] ty #[.slice (some ⟨w.heap.size, 0, none⟩) 124 124, .slice A l.length c]).run Tryz.prog (w.alloc (.cells Z 5)) = .ok (goInt (min l.length 124 : Nat)) ((w.alloc (.cells Z 5)).setRow w.heap.size R) := fun ty => by
    rw [hR, ← lay_padS l hl]
    exact byte_copy (P := Tryz.prog) _ _ _ _ 5 _ 0 124 124 A c (List.replicate 124 0) l _ Tryz.underlying25 (by kernel_rfl) HZ.out (HX.out.bl HB1.out) HNE.out (by rw [List.length_replicate]; omega)
  have HP := Lib.hid (show Blk ((w.alloc (.cells Z 5)).setRow w.heap.size R) w.heap.size (rowB (padB l)) 5 by rw [hR]; exact blk_setRow HZ.out)
  have HBl := Lib.hid (show Bl w ((w.alloc (.cells Z 5)).setRow w.heap.size R) from ⟨rfl, rfl, rfl, by rw [setRow_size]; exact HB1.out.size, fun k hk => by rw [setRow_other _ _ _ _ (by omega)]; exact HB1.out.block k hk⟩)
  clear hZ hR
  go_enter Tryz.func73, Tryz.ntmps73
  go_wp2_with fail
  generalize (w.alloc (.cells Z 5)).setRow w.heap.size R = w3 at *
  have HOw := Lib.hid (own_row (base := w.heap.size) HP.out (Nat.le_refl _) (n := 124) (padB_len hl).symm (by decide))
  refine (sesum_any _ (padB l) _ HOw.out.is (by rw [padB_len hl]; omega) (padS_ok HO.out)).mono ?_
  rintro e w4 ⟨u, rfl, hu, hb4⟩
  have HU := Lib.hid hu
  have HO4 := Lib.hid (HOw.out.bl hb4)
  have HB4 := Lib.hid (HBl.out.bl hb4)
  clear hu hb4
  go_wp2_with (at_builtin; refine Enc.Own.append (E := byteE) rfl _ _ 25 rfl w.heap.size 5 (.int .u8 0) 1 1 Tryz.underlying25 infoByte rfl rfl (by decide) (by decide) _ (padB l) rfl HO4.out _ _ rfl HU.out.is ?hlen HB4.out.size ?_; (case hlen => rw [padB_len hl]; simp [sum4]); intro u5 w5 ho hg)
  go_ret
  exact ⟨u5, rfl, ho, HB4.out.grown hg (fun k hk => (HO4.out.lt k hk).1)⟩

def OpnP (w w' : World) (l : List Int) (e : Ending) : Prop := Bl w w' ∧ ∃ u, e = .returned (.tuple #[u, .bool (whole l)]) ∧ (whole l = true → byteE.Own 5 w' w.heap.size u (l.take 124))
set_option maxRecDepth 100000 in
set_option maxHeartbeats 1000000 in
theorem seOpen_any (vb : Value) (l : List Int) (w : World) (hb : byteE.Is w vb l) (hl : l.length ≤ 1000000) (ho : okB l) :
    Calls Tryz.prog 53 #[vb] w fun e w' => OpnP w w' l e := by
  have HX := Lib.hid hb
  have HO := Lib.hid ho
  obtain ⟨A, c, rfl, h1, h2, h3, h4⟩ := hb
  have HCP := Lib.hid h1
  clear h1 h2 h3 h4 ho
  go_enter Tryz.func53, Tryz.ntmps53
  rcases (show l.length = 128 ∨ ¬ l.length = 128 by omega) with h128 | h128
  · have hn : (l.length : Int) = 128 := by omega
    obtain ⟨V1, hV1, hI1⟩ := slice_h (E := byteE) (P := Tryz.prog) (t := 25) (by kernel_rfl) (fun w => by kernel_rfl) A c l 124 (by omega) (by omega) HCP.out
    obtain ⟨V2, hV2, hI2⟩ := slice_l (E := byteE) (P := Tryz.prog) (t := 25) (by kernel_rfl) (fun w => by kernel_rfl) A c l 124 (by omega) (by omega)
    have HV1 := Lib.hid (show byteE.Is w V1 (l.take 124) from hI1 _ HX.out)
    have HV2 := Lib.hid (show byteE.Is w V2 (l.drop 124) from hI2 _ HX.out)
    have HW := Lib.hid (show whole l = decide (sum4 (l.take 124) = l.drop 124) by unfold whole; simp [h128])
    have HT := Lib.hid (show (l.take 124).length = 124 by rw [List.length_take]; omega)
    generalize hln : l.length = n at *
    subst h128
    clear hI1 hI2 hln
    go_wp2_with fail
    refine wp_region_ways (S := (fun w' => w.heap.size ≤ w'.heap.size)) [0, 1, 2, 3, 4, 5, 7, 8, 10, 11] (y := .take 0 (.take 1 (.take 2 (.take 3 (.take 4 (.take 5 (.take 7 (.take 8 (.ev 6 (.ev 9 (.take 10 (.take 11 (.done))) (.stop)) (.stop)))))))))) (by kernel_rfl) (by kernel_rfl) (by kernel_rfl) ?_ (fun hHeld => ?_)
    · exact Nat.le_refl _
    clear hHeld
    repeat (first | (refine wpWay_take rfl (by rfl) (by intro w hSw; (try dsimp only at hSw); first | (go_simp; done) | (go_simp; with_reducible rfl)) ?_; try simp only [Act.put, List.setIfInBounds_toArray, List.set_cons_zero, List.set_cons_succ]) | (refine wpWay_skip rfl (by rfl) ?_; try simp only [Act.put, List.setIfInBounds_toArray, List.set_cons_zero, List.set_cons_succ]))
    refine wpWay_ev rfl (fun K hK => ?_) wpWay_stop
    go_wp2_with fail
    refine (sesum_any _ (l.take 124) _ (HV1.out.bl (Bl.refl _).drew) (by have := HT.out; omega) (HO.out.take _)).mono ?_
    rintro e w1 ⟨u1, rfl, ho1, hb1⟩
    have HO1 := Lib.hid ho1
    have HB1 := Lib.hid ((Bl.refl w).drew.bl hb1)
    clear ho1 hb1
    go_wp2_with fail
    refine ⟨HB1.out.size, ?_⟩
    repeat (first | (refine wpWay_take rfl (by rfl) (by intro w hSw; (try dsimp only at hSw); first | (go_simp; done) | (go_simp; with_reducible rfl)) ?_; try simp only [Act.put, List.setIfInBounds_toArray, List.set_cons_zero, List.set_cons_succ]) | (refine wpWay_skip rfl (by rfl) ?_; try simp only [Act.put, List.setIfInBounds_toArray, List.set_cons_zero, List.set_cons_succ]))
    refine wpWay_ev rfl (fun K hK => ?_) wpWay_stop
    go_wp2_with fail
    refine (bEqual_any _ _ _ _ _ HO1.out.is (HV2.out.bl HB1.out) (sum4_ok _) (HO.out.drop _)).mono ?_
    rintro e w2 ⟨rfl, rfl⟩
    rw [← HW.out]
    cases hw : whole l
    · go_wp2_with fail
      refine ⟨HB1.out.size, ?_⟩
      repeat (first | (refine wpWay_take rfl (by rfl) (by intro w hSw; (try dsimp only at hSw); first | (go_simp; done) | (go_simp; with_reducible rfl)) ?_; try simp only [Act.put, List.setIfInBounds_toArray, List.set_cons_zero, List.set_cons_succ]) | (refine wpWay_skip rfl (by rfl) ?_; try simp only [Act.put, List.setIfInBounds_toArray, List.set_cons_zero, List.set_cons_succ]))
      refine wpWay_done ?_
      go_wp2
      go_ret2
      exact ⟨HB1.out, _, by rw [hw]; rfl, fun h => by rw [hw] at h; cases h⟩
    · go_wp2_with fail
      refine ⟨HB1.out.size, ?_⟩
      repeat (first | (refine wpWay_take rfl (by rfl) (by intro w hSw; (try dsimp only at hSw); first | (go_simp; done) | (go_simp; with_reducible rfl)) ?_; try simp only [Act.put, List.setIfInBounds_toArray, List.set_cons_zero, List.set_cons_succ]) | (refine wpWay_skip rfl (by rfl) ?_; try simp only [Act.put, List.setIfInBounds_toArray, List.set_cons_zero, List.set_cons_succ]))
      refine wpWay_done ?_
      go_wp2_with (at_builtin; refine Enc.Own.append (E := byteE) rfl _ _ 25 rfl w.heap.size 5 (.int .u8 0) 1 1 Tryz.underlying25 infoByte rfl rfl (by decide) (by decide) (.slice none 0 0) [] rfl (Enc.Own.nil _ _ _) _ _ rfl (HV1.out.bl HB1.out) (by have := HT.out; simp; omega) HB1.out.size ?_; intro u5 w5 ho hg)
      go_ret2
      exact ⟨HB1.out.grown hg (by simp [Value.ownBlock]), u5, by rw [hw]; rfl, fun _ => by simpa using ho⟩
  · have hn : ¬ (l.length : Int) = 128 := by omega
    have HW := Lib.hid (show whole l = false by unfold whole; simp [h128])
    go_wp2_with fail
    refine wp_region_ways (S := (fun w' => w.heap.size ≤ w'.heap.size)) [0, 1, 2, 3, 4, 5, 7, 8, 10, 11] (y := .take 0 (.take 1 (.take 2 (.take 3 (.take 4 (.take 5 (.take 7 (.take 8 (.ev 6 (.ev 9 (.take 10 (.take 11 (.done))) (.stop)) (.stop)))))))))) (by kernel_rfl) (by kernel_rfl) (by kernel_rfl) ?_ (fun hHeld => ?_)
    · exact Nat.le_refl _
    clear hHeld
    repeat (first | (refine wpWay_take rfl (by rfl) (by intro w hSw; (try dsimp only at hSw); first | (go_simp; done) | (go_simp; with_reducible rfl)) ?_; try simp only [Act.put, List.setIfInBounds_toArray, List.set_cons_zero, List.set_cons_succ]) | (refine wpWay_skip rfl (by rfl) ?_; try simp only [Act.put, List.setIfInBounds_toArray, List.set_cons_zero, List.set_cons_succ]))
    rw [show ((l.length : Int) != 128) = true by simp [hn]]
    repeat (first | (refine wpWay_take rfl (by rfl) (by intro w hSw; (try dsimp only at hSw); first | (go_simp; done) | (go_simp; with_reducible rfl)) ?_; try simp only [Act.put, List.setIfInBounds_toArray, List.set_cons_zero, List.set_cons_succ]) | (refine wpWay_skip rfl (by rfl) ?_; try simp only [Act.put, List.setIfInBounds_toArray, List.set_cons_zero, List.set_cons_succ]))
    refine wpWay_pass rfl (by rfl) (by exact Nat.le_refl _) ?_ wpWay_stop
    try simp only [Act.put, List.setIfInBounds_toArray, List.set_cons_zero, List.set_cons_succ]
    refine wpWay_pass rfl (by rfl) (by exact Nat.le_refl _) ?_ wpWay_stop
    try simp only [Act.put, List.setIfInBounds_toArray, List.set_cons_zero, List.set_cons_succ]
    repeat (first | (refine wpWay_take rfl (by rfl) (by intro w hSw; (try dsimp only at hSw); first | (go_simp; done) | (go_simp; with_reducible rfl)) ?_; try simp only [Act.put, List.setIfInBounds_toArray, List.set_cons_zero, List.set_cons_succ]) | (refine wpWay_skip rfl (by rfl) ?_; try simp only [Act.put, List.setIfInBounds_toArray, List.set_cons_zero, List.set_cons_succ]))
    refine wpWay_done ?_
    go_wp2
    go_ret2
    exact ⟨(Bl.refl _).drew, _, by rw [HW.out]; rfl, fun h => by rw [HW.out] at h; cases h⟩
end Go.Proofs.YtoocebghlchcoaaGreat.ExtW
