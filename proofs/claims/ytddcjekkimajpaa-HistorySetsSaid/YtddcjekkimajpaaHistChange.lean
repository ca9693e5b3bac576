/- history.Apply: a change of what is now. -/
import Derived.Test.YtddcjekkimajpaaHistApply
namespace Go.Ov
def stepH (m : HistM) (s : StM) : HistM := ⟨s, (m.undo ++ [m.now]).drop (m.undo.length + 1 - 4), []⟩
end Go.Ov
namespace Go.Proofs.Ytddcjekkimajpaa.ExtW
open Go.RowKit Go.Ov Go.Proofs.Ytddcjekkimajpaa.Need

set_option maxRecDepth 100000 in
set_option maxHeartbeats 1500000 in
theorem happly_change (B : Nat) (m : HistM) (rv : Value) (r : Rec) (w : World) (h : HistIs 95 w B m) (hr : RecIs w rv r) (hk : r.kind ≤ 3) (hv : validRec r = true) (hs : StOK m.now) (hn : m.undo.length ≤ 4) :
    Calls Try.prog 23 #[.pointer (some ⟨B, 0, none⟩), rv] w fun e w' => e = .returned (.int .i64 (applyR m.now r).2) ∧ ((applyR m.now r).2 ≠ 0 → Bl w w') ∧ ((applyR m.now r).2 = 0 → HistIs 95 w' B (stepH m (applyR m.now r).1) ∧ w.grownBy w' (some B)) := by
  have HR := Lib.hid hr
  have HV := Lib.hid hv
  have HOK := Lib.hid hs
  obtain ⟨n, u, q, us, rs, h0, h1, h2, h3, h4, h5⟩ := h
  obtain ⟨u2, rfl, hl⟩ := hr
  obtain ⟨A, c, rfl, _⟩ := hl
  have HBk := Lib.hid h0
  have hul := h4.1
  have HN := Lib.hid (show us.length ≤ 4 by omega)
  obtain ⟨kk, t, f, o, l⟩ := r
  dsimp only at hk HV
  have e4 : (kk == 4) = false := by rw [beq_eq_false_iff_ne]; omega
  have e5 : (kk == 5) = false := by rw [beq_eq_false_iff_ne]; omega
  obtain ⟨uA, un, uc⟩ := u
  obtain ⟨hU, _, hU1⟩ := id h2.1
  simp only [Head.v] at hU1 h2
  have hun : un = us.length := by simp at hU1; exact hU1.1.2.1
  subst hun
  have hB := h0.lt
  have HU := Lib.hid h2
  have HNow := Lib.hid h1
  have HSU := Lib.hid h4
  have HULen := Lib.hid hul
  clear h1 h2 h3 h4 h5 h0 hv hn hul hU1 hk hs
  have hur := Try.underlying33
  have huh := Try.underlying95
  go_enter Try.func23, Try.ntmps23
  go_wp2_with fail
  refine (rvalidRec_any _ _ _ (HR.out.bl ((Bl.refl _).alloc _))).mono ?_
  rintro e w1 ⟨rfl, hb⟩
  rw [HV.out]
  have b1 := (Blk.new w #[.int .i64 kk, .int .i64 t, .int .i64 f, .int .i64 o, .slice A l.length c] 33).bl hb
  have HRB := Lib.hid b1
  have d0 := b1.cell 0
  have d1 := b1.cell 1
  have d2 := b1.cell 2
  have d3 := b1.cell 3
  have d4 := b1.cell 4
  simp at d0 d1 d2 d3 d4
  have HB1 := Lib.hid (((Bl.refl w).alloc (.cells #[.int .i64 kk, .int .i64 t, .int .i64 f, .int .i64 o, .slice A l.length c] 33)).bl hb)
  have HBk1 := Lib.hid (HBk.out.bl HB1.out)
  have c0 := HBk1.out.cell 0
  simp [histC, Head.v] at c0
  clear hb b1
  go_wp2_with fail
  refine wp_region_ways (S := (fun w' => w'.cell? ⟨B, 0, none⟩ = some (.pointer (some ⟨n, 0, none⟩)) ∧ w'.cell? ⟨w.heap.size, 0, none⟩ = some (.int .i64 kk) ∧ w'.cell? ⟨w.heap.size, 1, none⟩ = some (.int .i64 t) ∧ w'.cell? ⟨w.heap.size, 2, none⟩ = some (.int .i64 f) ∧ w'.cell? ⟨w.heap.size, 3, none⟩ = some (.int .i64 o) ∧ w'.cell? ⟨w.heap.size, 4, none⟩ = some (.slice A l.length c))) [0, 1, 2, 3, 4, 6, 7, 8, 9, 10] (y := .take 0 (.take 1 (.take 2 (.take 3 (.take 4 (.ev 5 (.take 6 (.take 7 (.take 8 (.take 9 (.take 10 (.done)))))) (.stop))))))) (by kernel_rfl) (by kernel_rfl) (by kernel_rfl) ?_ (fun hHeld => ?_)
  · have hb := (Bl.refl w1).drew
    exact ⟨hb.cell c0, hb.cell d0, hb.cell d1, hb.cell d2, hb.cell d3, hb.cell d4⟩
  have HH := Lib.hid hHeld
  repeat (first | (refine wpWay_take rfl (by rfl) (by intro w hSw; (try dsimp only at hSw); first | (go_simp; done) | (go_simp; with_reducible rfl)) ?_; try simp only [Act.put, List.setIfInBounds_toArray, List.set_cons_zero, List.set_cons_succ]) | (refine wpWay_skip rfl (by rfl) ?_; try simp only [Act.put, List.setIfInBounds_toArray, List.set_cons_zero, List.set_cons_succ]))
  clear hHeld d0 d1 d2 d3 d4
  refine wpWay_ev rfl (fun K hK => ?_) wpWay_stop
  go_wp2_with fail
  refine (sapply_any _ _ m.now ⟨kk, t, f, o, l⟩ _ (HNow.out.bl HB1.out.drew) (HR.out.bl HB1.out.drew) HOK.out).mono ?_
  rintro e w3 ⟨hres, hb⟩
  have HB3 := Lib.hid ((HB1.out.drew).bl hb)
  have HBk3 := Lib.hid (HBk.out.bl HB3.out)
  have hh := HH.out
  replace HH := Lib.hid (show _ ∧ _ ∧ _ ∧ _ ∧ _ ∧ _ from ⟨hb.cell hh.1, hb.cell hh.2.1, hb.cell hh.2.2.1, hb.cell hh.2.2.2.1, hb.cell hh.2.2.2.2.1, hb.cell hh.2.2.2.2.2⟩)
  clear hb hh c0
  by_cases hz : (applyR m.now ⟨kk, t, f, o, l⟩).2 = 0
  · obtain ⟨u3, rfl, hst⟩ := hres.1 hz
    obtain ⟨bT, _, _, rfl, _⟩ := id hst
    have HST := Lib.hid hst
    have HZ := Lib.hid hz
    clear hres hst hz
    go_wp2_with fail
    refine ⟨HH.out, ?_⟩
    repeat (first | (refine wpWay_take rfl (by rfl) (by intro w hSw; (try dsimp only at hSw); first | (go_simp; done) | (go_simp; with_reducible rfl)) ?_; try simp only [Act.put, List.setIfInBounds_toArray, List.set_cons_zero, List.set_cons_succ]) | (refine wpWay_skip rfl (by rfl) ?_; try simp only [Act.put, List.setIfInBounds_toArray, List.set_cons_zero, List.set_cons_succ]))
    refine wpWay_done ?_
    have c0 := HBk3.out.cell 0
    have c1 := HBk3.out.cell 1
    simp [histC, Head.v] at c0 c1
    go_wp2_with fail
    refine wp_region_ways (S := (fun _ => True)) [0, 1, 2, 3, 4, 5, 7, 8, 9, 12, 13, 14, 16, 17, 19, 20] (y := .take 0 (.take 1 (.take 2 (.take 3 (.take 4 (.take 5 (.take 7 (.take 8 (.take 9 (.take 12 (.ev 6 (.ev 10 (.ev 11 (.take 13 (.take 14 (.ev 15 (.take 16 (.take 17 (.ev 18 (.take 19 (.take 20 (.ev 21 (.done) (.stop)))) (.stop)))) (.stop)))) (.stop)) (.stop)) (.ev 10 (.ev 6 (.ev 11 (.take 13 (.take 14 (.ev 15 (.take 16 (.take 17 (.ev 18 (.take 19 (.take 20 (.ev 21 (.done) (.stop)))) (.stop)))) (.stop)))) (.stop)) (.stop)) (.stop))))))))))))) (by kernel_rfl) (by kernel_rfl) (by kernel_rfl) ?_ (fun hHeld => ?_)
    · trivial
    repeat (first | (refine wpWay_take rfl (by rfl) (by intro w hSw; (try dsimp only at hSw); first | (go_simp; done) | (go_simp; with_reducible rfl)) ?_; try simp only [Act.put, List.setIfInBounds_toArray, List.set_cons_zero, List.set_cons_succ]) | (refine wpWay_skip rfl (by rfl) ?_; try simp only [Act.put, List.setIfInBounds_toArray, List.set_cons_zero, List.set_cons_succ]))
    refine wpWay_ev rfl (fun K hK => ?_) ?_
    · go_wp2_with fail
      refine ⟨trivial, ?_⟩
      repeat (first | (refine wpWay_take rfl (by rfl) (by intro w hSw; (try dsimp only at hSw); first | (go_simp; done) | (go_simp; with_reducible rfl)) ?_; try simp only [Act.put, List.setIfInBounds_toArray, List.set_cons_zero, List.set_cons_succ]) | (refine wpWay_skip rfl (by rfl) ?_; try simp only [Act.put, List.setIfInBounds_toArray, List.set_cons_zero, List.set_cons_succ]))
      refine wpWay_ev rfl (fun K hK => ?_) wpWay_stop
      go_wp2_with fail
      refine ⟨trivial, ?_⟩
      repeat (first | (refine wpWay_take rfl (by rfl) (by intro w hSw; (try dsimp only at hSw); first | (go_simp; done) | (go_simp; with_reducible rfl)) ?_; try simp only [Act.put, List.setIfInBounds_toArray, List.set_cons_zero, List.set_cons_succ]) | (refine wpWay_skip rfl (by rfl) ?_; try simp only [Act.put, List.setIfInBounds_toArray, List.set_cons_zero, List.set_cons_succ]))
      refine wpWay_ev rfl (fun K hK => ?_) wpWay_stop
      go_wp2_with fail
      refine (hpush_any _ us n _ (HU.out.1.bl HB3.out.drew) HN.out).mono ?_
      rintro e w4 ⟨u1, rfl, hf1, hb⟩
      have HBk4 := Lib.hid ((HBk3.out.bl (Bl.refl _).drew).bl hb)
      have HB4 := Lib.hid ((HB3.out.drew).bl hb)
      have HST4 := Lib.hid ((HST.out.bl (Bl.refl _).drew).bl hb)
      obtain ⟨A1, d1, z1, _⟩ := id hf1.1
      subst z1
      generalize hn1 : ((us ++ [n]).drop (us.length + 1 - 4)).length = n1 at *
      have HF1 := Lib.hid hf1
      clear hf1 hb hn1
      go_wp2_with fail
      refine ⟨trivial, ?_⟩
      repeat (first | (refine wpWay_take rfl (by rfl) (by intro w hSw; (try dsimp only at hSw); first | (go_simp; done) | (go_simp; with_reducible rfl)) ?_; try simp only [Act.put, List.setIfInBounds_toArray, List.set_cons_zero, List.set_cons_succ]) | (refine wpWay_skip rfl (by rfl) ?_; try simp only [Act.put, List.setIfInBounds_toArray, List.set_cons_zero, List.set_cons_succ]))
      refine wpWay_ev rfl (fun K hK => ?_) wpWay_stop
      have f1 := HBk4.out.frozen 1
      have g1 := HBk4.out.cell 1
      have l1 := HBk4.out.lt
      simp [histC] at g1
      go_wp2_with fail
      clear f1 g1 l1
      have HBk5 := Lib.hid (HBk4.out.set 1 (.slice A1 n1 d1))
      refine ⟨trivial, ?_⟩
      repeat (first | (refine wpWay_take rfl (by rfl) (by intro w hSw; (try dsimp only at hSw); first | (go_simp; done) | (go_simp; with_reducible rfl)) ?_; try simp only [Act.put, List.setIfInBounds_toArray, List.set_cons_zero, List.set_cons_succ]) | (refine wpWay_skip rfl (by rfl) ?_; try simp only [Act.put, List.setIfInBounds_toArray, List.set_cons_zero, List.set_cons_succ]))
      refine wpWay_ev rfl (fun K hK => ?_) wpWay_stop
      have f1 := HBk5.out.frozen 2
      have g1 := HBk5.out.cell 2
      have l1 := HBk5.out.lt
      simp [histC] at g1
      go_wp2_with fail
      clear f1 g1 l1
      have HBk6 := Lib.hid (HBk5.out.set 2 (.slice none 0 0))
      refine ⟨trivial, ?_⟩
      repeat (first | (refine wpWay_take rfl (by rfl) (by intro w hSw; (try dsimp only at hSw); first | (go_simp; done) | (go_simp; with_reducible rfl)) ?_; try simp only [Act.put, List.setIfInBounds_toArray, List.set_cons_zero, List.set_cons_succ]) | (refine wpWay_skip rfl (by rfl) ?_; try simp only [Act.put, List.setIfInBounds_toArray, List.set_cons_zero, List.set_cons_succ]))
      refine wpWay_ev rfl (fun K hK => ?_) wpWay_stop
      have f1 := HBk6.out.frozen 0
      have g1 := HBk6.out.cell 0
      have l1 := HBk6.out.lt
      simp [histC] at g1
      go_wp2_with fail
      clear f1 g1 l1
      have HBk7 := Lib.hid (HBk6.out.set 0 (.pointer (some ⟨bT, 0, none⟩)))
      refine ⟨trivial, ?_⟩
      repeat (first | (refine wpWay_take rfl (by rfl) (by intro w hSw; (try dsimp only at hSw); first | (go_simp; done) | (go_simp; with_reducible rfl)) ?_; try simp only [Act.put, List.setIfInBounds_toArray, List.set_cons_zero, List.set_cons_succ]) | (refine wpWay_skip rfl (by rfl) ?_; try simp only [Act.put, List.setIfInBounds_toArray, List.set_cons_zero, List.set_cons_succ]))
      refine wpWay_done ?_
      go_wp2_with fail
      go_ret
      refine ⟨by rw [HZ.out]; rfl, fun h => absurd HZ.out h, fun _ => hist_done (u' := ⟨A1, n1, d1⟩) (r' := nilH) HB4.out HBk4.out (((keepO_set _ _ _ _).trans (keepO_set _ _ _ _)).trans (keepO_set _ _ _ _)) HBk7.out (grown_trans (grown_trans (set_grownB _ _ _ _) (set_grownB _ _ _ _)) (set_grownB _ _ _ _)) HST4.out (HF1.out.low ?_) (FarIs.nil _ _) (((HSU.out.snoc HNow.out).bl HB4.out).drop' HULen.out) (SRows.nil _)⟩
      have := HB3.out.size; simp; omega
    · refine wpWay_ev rfl (fun K hK => ?_) wpWay_stop
      go_wp2_with fail
      refine ⟨trivial, ?_⟩
      repeat (first | (refine wpWay_take rfl (by rfl) (by intro w hSw; (try dsimp only at hSw); first | (go_simp; done) | (go_simp; with_reducible rfl)) ?_; try simp only [Act.put, List.setIfInBounds_toArray, List.set_cons_zero, List.set_cons_succ]) | (refine wpWay_skip rfl (by rfl) ?_; try simp only [Act.put, List.setIfInBounds_toArray, List.set_cons_zero, List.set_cons_succ]))
      refine wpWay_ev rfl (fun K hK => ?_) wpWay_stop
      go_wp2_with fail
      refine ⟨trivial, ?_⟩
      repeat (first | (refine wpWay_take rfl (by rfl) (by intro w hSw; (try dsimp only at hSw); first | (go_simp; done) | (go_simp; with_reducible rfl)) ?_; try simp only [Act.put, List.setIfInBounds_toArray, List.set_cons_zero, List.set_cons_succ]) | (refine wpWay_skip rfl (by rfl) ?_; try simp only [Act.put, List.setIfInBounds_toArray, List.set_cons_zero, List.set_cons_succ]))
      refine wpWay_ev rfl (fun K hK => ?_) wpWay_stop
      go_wp2_with fail
      refine (hpush_any _ us n _ (HU.out.1.bl HB3.out.drew) HN.out).mono ?_
      rintro e w4 ⟨u1, rfl, hf1, hb⟩
      have HBk4 := Lib.hid ((HBk3.out.bl (Bl.refl _).drew).bl hb)
      have HB4 := Lib.hid ((HB3.out.drew).bl hb)
      have HST4 := Lib.hid ((HST.out.bl (Bl.refl _).drew).bl hb)
      obtain ⟨A1, d1, z1, _⟩ := id hf1.1
      subst z1
      generalize hn1 : ((us ++ [n]).drop (us.length + 1 - 4)).length = n1 at *
      have HF1 := Lib.hid hf1
      clear hf1 hb hn1
      go_wp2_with fail
      refine ⟨trivial, ?_⟩
      repeat (first | (refine wpWay_take rfl (by rfl) (by intro w hSw; (try dsimp only at hSw); first | (go_simp; done) | (go_simp; with_reducible rfl)) ?_; try simp only [Act.put, List.setIfInBounds_toArray, List.set_cons_zero, List.set_cons_succ]) | (refine wpWay_skip rfl (by rfl) ?_; try simp only [Act.put, List.setIfInBounds_toArray, List.set_cons_zero, List.set_cons_succ]))
      refine wpWay_ev rfl (fun K hK => ?_) wpWay_stop
      have f1 := HBk4.out.frozen 1
      have g1 := HBk4.out.cell 1
      have l1 := HBk4.out.lt
      simp [histC] at g1
      go_wp2_with fail
      clear f1 g1 l1
      have HBk5 := Lib.hid (HBk4.out.set 1 (.slice A1 n1 d1))
      refine ⟨trivial, ?_⟩
      repeat (first | (refine wpWay_take rfl (by rfl) (by intro w hSw; (try dsimp only at hSw); first | (go_simp; done) | (go_simp; with_reducible rfl)) ?_; try simp only [Act.put, List.setIfInBounds_toArray, List.set_cons_zero, List.set_cons_succ]) | (refine wpWay_skip rfl (by rfl) ?_; try simp only [Act.put, List.setIfInBounds_toArray, List.set_cons_zero, List.set_cons_succ]))
      refine wpWay_ev rfl (fun K hK => ?_) wpWay_stop
      have f1 := HBk5.out.frozen 2
      have g1 := HBk5.out.cell 2
      have l1 := HBk5.out.lt
      simp [histC] at g1
      go_wp2_with fail
      clear f1 g1 l1
      have HBk6 := Lib.hid (HBk5.out.set 2 (.slice none 0 0))
      refine ⟨trivial, ?_⟩
      repeat (first | (refine wpWay_take rfl (by rfl) (by intro w hSw; (try dsimp only at hSw); first | (go_simp; done) | (go_simp; with_reducible rfl)) ?_; try simp only [Act.put, List.setIfInBounds_toArray, List.set_cons_zero, List.set_cons_succ]) | (refine wpWay_skip rfl (by rfl) ?_; try simp only [Act.put, List.setIfInBounds_toArray, List.set_cons_zero, List.set_cons_succ]))
      refine wpWay_ev rfl (fun K hK => ?_) wpWay_stop
      have f1 := HBk6.out.frozen 0
      have g1 := HBk6.out.cell 0
      have l1 := HBk6.out.lt
      simp [histC] at g1
      go_wp2_with fail
      clear f1 g1 l1
      have HBk7 := Lib.hid (HBk6.out.set 0 (.pointer (some ⟨bT, 0, none⟩)))
      refine ⟨trivial, ?_⟩
      repeat (first | (refine wpWay_take rfl (by rfl) (by intro w hSw; (try dsimp only at hSw); first | (go_simp; done) | (go_simp; with_reducible rfl)) ?_; try simp only [Act.put, List.setIfInBounds_toArray, List.set_cons_zero, List.set_cons_succ]) | (refine wpWay_skip rfl (by rfl) ?_; try simp only [Act.put, List.setIfInBounds_toArray, List.set_cons_zero, List.set_cons_succ]))
      refine wpWay_done ?_
      go_wp2_with fail
      go_ret
      refine ⟨by rw [HZ.out]; rfl, fun h => absurd HZ.out h, fun _ => hist_done (u' := ⟨A1, n1, d1⟩) (r' := nilH) HB4.out HBk4.out (((keepO_set _ _ _ _).trans (keepO_set _ _ _ _)).trans (keepO_set _ _ _ _)) HBk7.out (grown_trans (grown_trans (set_grownB _ _ _ _) (set_grownB _ _ _ _)) (set_grownB _ _ _ _)) HST4.out (HF1.out.low ?_) (FarIs.nil _ _) (((HSU.out.snoc HNow.out).bl HB4.out).drop' HULen.out) (SRows.nil _)⟩
      have := HB3.out.size; simp; omega
  · obtain rfl := hres.2 hz
    have HZ := Lib.hid hz
    have hzb : ((applyR m.now ⟨kk, t, f, o, l⟩).2 == 0) = false := by rw [beq_eq_false_iff_ne]; exact hz
    clear hres
    go_wp2_with fail
    refine ⟨HH.out, ?_⟩
    repeat (first | (refine wpWay_take rfl (by rfl) (by intro w hSw; (try dsimp only at hSw); first | (go_simp; done) | (go_simp; with_reducible rfl)) ?_; try simp only [Act.put, List.setIfInBounds_toArray, List.set_cons_zero, List.set_cons_succ]) | (refine wpWay_skip rfl (by rfl) ?_; try simp only [Act.put, List.setIfInBounds_toArray, List.set_cons_zero, List.set_cons_succ]))
    refine wpWay_done ?_
    go_wp2_with fail
    go_ret
    exact ⟨rfl, fun _ => HB3.out, fun h => absurd h HZ.out⟩
end Go.Proofs.Ytddcjekkimajpaa.ExtW
