/- Contract of overdubref14.Splice. -/
import Derived.Test.YtaedelhdandflaaRefW
namespace Go.Proofs.Ytaedelhdandflaa.ExtW
open Go.RowKit Go.Ov Go.Proofs.Ytaedelhdandflaa.Need

theorem rsplice_pure (l new : List Ext) (fr tt : Int) (hv : validFrom 0 l = true) (h0 : 0 ≤ fr) (h1 : fr ≤ tt) :
    (cutM tt (endM l) l = [] → spliceL l fr tt new = cutM 0 fr l ++ shiftM fr new) ∧
    (∀ c0 cl, cutM tt (endM l) l = c0 :: cl → tt < endM l ∧ c0.at_ = tt ∧ spliceL l fr tt new = (cutM 0 fr l ++ shiftM fr new) ++ shiftM (fr + endM new - tt) (c0 :: cl)) := by
  have hb := valid_bd l 0 (by decide) hv
  have he := cut_end l 0 tt (endM l) (Int.le_refl _) (by decide) hv
  refine ⟨fun h => ?_, fun c0 cl h => ?_⟩
  · rw [h] at he
    have : endM [] = 0 := rfl
    unfold spliceL
    rw [show min tt (endM l) = endM l by omega, cut_nil l 0 (endM l) (endM l) (Int.le_refl _) hv (by omega)]
    simp [shiftM]
  · have hcv := cut_valid l 0 tt (endM l) (Int.le_refl _) hv
    rw [h] at hcv he
    have hc := valid_cons hcv
    have hpos : 0 < endM (c0 :: cl) := by
      have := (validFrom_bd (c0 :: cl) (max 0 tt) ?_ hcv).1
      · simp only [List.length_cons] at this; omega
      · by_cases hm : max 0 tt ≤ 1000
        · exact hm
        · exfalso
          have := cut_nil l 0 tt (endM l) (Int.le_refl _) hv (by omega)
          rw [h] at this; cases this
    have ht : tt < endM l := by omega
    refine ⟨ht, by have := hc.1; omega, ?_⟩
    unfold spliceL
    rw [show min tt (endM l) = tt by omega, h]

theorem rcut_eq (v : Value) (l : List Ext) (a b : Int) (w : World) (h : extE.Is w v l) (hn : l.length * 40 ≤ 140737488355328) {X : List Ext} (hX : cutM (max a 0) (min b (wrap64 (endM l))) l = X) :
    Calls Try.prog 44 #[v, .int .i64 a, .int .i64 b] w fun e w' => ∃ u, e = .returned u ∧ extE.Own 34 w' w.heap.size u X ∧ Bl w w' := hX ▸ rcut_any v l a b w h hn
theorem rend_eq (v : Value) (l : List Ext) (w : World) (h : extE.Is w v l) {n : Int} (hm : wrap64 (endM l) = n) :
    Calls Try.prog 43 #[v] w fun e w' => e = .returned (.int .i64 n) ∧ w = w' := hm ▸ rend_any v l w h

set_option maxRecDepth 100000 in
set_option maxHeartbeats 2000000 in
theorem rsplice_any (v u : Value) (l new : List Ext) (fr tt : Int) (w : World) (h : extE.Is w v l) (hn : extE.Is w u new) (hv : validFrom 0 l = true) (hlen : new.length * 40 ≤ 100000000000000) :
    Calls Try.prog 30 #[v, .int .i64 fr, .int .i64 tt, u] w fun e w' => ∃ z, e = .returned (.tuple #[z, .int .i64 (spliceM l fr tt new).2]) ∧ extE.Own 34 w' w.heap.size z (spliceM l fr tt new).1 ∧ Bl w w' := by
  have hb := validFrom_bd l 0 (by decide) hv
  have HE := Lib.hid (show wrap64 (endM l) = endM l from wrap_id (by omega) (by omega))
  have HL := Lib.hid h
  have HN := Lib.hid hn
  have HV := Lib.hid hv
  clear h hn hv
  obtain ⟨hb1, hb2⟩ := hb
  by_cases hbad : spliceBad l fr tt new = true
  · have hm : spliceM l fr tt new = ([], 1) := if_pos hbad
    rw [hm]
    clear hm
    have hor : validFrom 0 new = false ∨ validFrom 0 new = true ∧ (fr < 0 ∨ ¬ fr < 0 ∧ (tt < fr ∨ ¬ tt < fr ∧ endM l < fr)) := by
      simp only [spliceBad, Bool.or_eq_true, Bool.not_eq_true', decide_eq_true_eq] at hbad
      cases hq : validFrom 0 new
      · exact .inl rfl
      · refine .inr ⟨rfl, ?_⟩
        simp [hq] at hbad; omega
    clear hbad
    rcases hor with hq | ⟨hq, h1 | ⟨h1, h2 | ⟨h2, h3⟩⟩⟩
    all_goals
      have HQ := Lib.hid hq
      clear hq
      go_enter Try.func30, Try.ntmps30
      go_wp2_with (first
        | (go_at_call 41; refine (rvalid_any _ _ _ HN.out).mono ?_; rintro e w1 ⟨rfl, hb⟩; rw [HQ.out])
        | (go_at_call 43; refine (rend_eq _ _ _ (HL.out.bl hb) HE.out).mono ?_; rintro e w2 ⟨rfl, rfl⟩))
      go_ret2
      exact ⟨_, rfl, Enc.Own.nil _ _ _, hb⟩
  · have hg : validFrom 0 new = true ∧ ¬ fr < 0 ∧ ¬ tt < fr ∧ ¬ endM l < fr := by
      simp only [spliceBad, Bool.or_eq_true, Bool.not_eq_true', decide_eq_true_eq, not_or] at hbad
      simp at hbad; exact ⟨hbad.1.1.1, by omega, by omega, by omega⟩
    have hm : spliceM l fr tt new = (if spliceLong l fr tt new then ([], 4) else (spliceL l fr tt new, 0)) := if_neg hbad
    clear hbad
    obtain ⟨hq, h1, h2, h3⟩ := hg
    have ⟨nb1, nb2⟩ := validFrom_bd new 0 (by decide) hq
    have HF := Lib.hid (show wrap64 (endM new) = endM new from wrap_id (by omega) (by omega))
    have HQ := Lib.hid hq
    clear hq
    have HP := Lib.hid (rsplice_pure l new fr tt HV.out (by omega) (by omega))
    have hse := splice_end l new fr tt HV.out (by omega) (by omega) (by omega)
    have HSE := Lib.hid (show wrap64 (endM (spliceL l fr tt new)) = fr + endM new + endM l - min tt (endM l) by rw [hse]; exact wrap_id (by omega) (by omega))
    have HY := Lib.hid (show spliceLong l fr tt new = decide (1000 < fr + endM new + endM l - min tt (endM l)) from rfl)
    have HM := Lib.hid hm
    rw [hm]
    clear hm hse
    have ln1 := cutM_len 0 fr l
    have ln2 := shiftM_len fr new
    have ln3 := cutM_len tt (endM l) l
    have HX1 := Lib.hid (show cutM (max 0 0) (min fr (wrap64 (endM l))) l = cutM 0 fr l by rw [HE.out, show (max 0 0 : Int) = 0 from rfl, show min fr (endM l) = fr by omega])
    have HX2 := Lib.hid (show cutM (max tt 0) (min (endM l) (wrap64 (endM l))) l = cutM tt (endM l) l by rw [HE.out, show (max tt 0 : Int) = tt by omega, show min (endM l) (endM l) = endM l by omega])
    generalize spliceL l fr tt new = R at *
    generalize cutM 0 fr l = C1 at *
    generalize hT : cutM tt (endM l) l = T at *
    have HT := Lib.hid hT
    clear hT
    have hlg : spliceLong l fr tt new = true ∧ 1000 < fr + endM new + endM l - min tt (endM l) ∨ spliceLong l fr tt new = false ∧ ¬ 1000 < fr + endM new + endM l - min tt (endM l) := by
      rw [HY.out]; simp; omega
    rcases hlg with ⟨hl1, hl2⟩ | ⟨hl1, hl2⟩
    all_goals
      simp only [hl1, if_true, Bool.false_eq_true, if_false]
      clear hl1
      go_enter Try.func30, Try.ntmps30
      go_wp2_with fail
      refine (rvalid_any _ _ _ HN.out).mono ?_
      rintro e w1 ⟨rfl, hb⟩
      rw [HQ.out]
      have HB := Lib.hid hb
      have HL1 := Lib.hid (HL.out.bl hb)
      have HN1 := Lib.hid (HN.out.bl hb)
      clear hb
      go_wp2_with fail
      refine (rend_eq _ _ _ HL1.out HE.out).mono ?_
      rintro e w2 ⟨rfl, rfl⟩
      go_wp2_with fail
      refine (rcut_eq _ _ _ _ _ HL1.out (by omega) HX1.out).mono ?_
      rintro e w4 ⟨u1, rfl, ho, hb⟩
      have HO1 := Lib.hid ho
      have HS1 := Lib.hid (HB.out.size)
      clear ho
      try replace HE := Lib.hid (HE.out.bl hb)
      try replace HL := Lib.hid (HL.out.bl hb)
      try replace HN := Lib.hid (HN.out.bl hb)
      try replace HV := Lib.hid (HV.out.bl hb)
      try replace HQ := Lib.hid (HQ.out.bl hb)
      try replace HF := Lib.hid (HF.out.bl hb)
      try replace HP := Lib.hid (HP.out.bl hb)
      try replace HSE := Lib.hid (HSE.out.bl hb)
      try replace HY := Lib.hid (HY.out.bl hb)
      try replace HM := Lib.hid (HM.out.bl hb)
      try replace HX1 := Lib.hid (HX1.out.bl hb)
      try replace HX2 := Lib.hid (HX2.out.bl hb)
      try replace HT := Lib.hid (HT.out.bl hb)
      try replace HB := Lib.hid (HB.out.bl hb)
      try replace HL1 := Lib.hid (HL1.out.bl hb)
      try replace HN1 := Lib.hid (HN1.out.bl hb)
      try replace HO1 := Lib.hid (HO1.out.bl hb)
      try replace HS1 := Lib.hid (HS1.out.bl hb)
      clear hb
      go_wp2_with fail
      refine (rshift_any _ _ _ _ HN1.out (by omega)).mono ?_
      rintro e w5 ⟨u2, rfl, ho, hb⟩
      have HO2 := Lib.hid ho
      clear ho
      try replace HE := Lib.hid (HE.out.bl hb)
      try replace HL := Lib.hid (HL.out.bl hb)
      try replace HN := Lib.hid (HN.out.bl hb)
      try replace HV := Lib.hid (HV.out.bl hb)
      try replace HQ := Lib.hid (HQ.out.bl hb)
      try replace HF := Lib.hid (HF.out.bl hb)
      try replace HP := Lib.hid (HP.out.bl hb)
      try replace HSE := Lib.hid (HSE.out.bl hb)
      try replace HY := Lib.hid (HY.out.bl hb)
      try replace HM := Lib.hid (HM.out.bl hb)
      try replace HX1 := Lib.hid (HX1.out.bl hb)
      try replace HX2 := Lib.hid (HX2.out.bl hb)
      try replace HT := Lib.hid (HT.out.bl hb)
      try replace HB := Lib.hid (HB.out.bl hb)
      try replace HL1 := Lib.hid (HL1.out.bl hb)
      try replace HN1 := Lib.hid (HN1.out.bl hb)
      try replace HO1 := Lib.hid (HO1.out.bl hb)
      try replace HS1 := Lib.hid (HS1.out.bl hb)
      try replace HO2 := Lib.hid (HO2.out.bl hb)
      clear hb
      go_wp2_with (at_builtin; refine Enc.Own.append (E := extE) rfl (.tmp 32) (.tmp 35) 28 rfl w.heap.size 34 (.agg #[.int .i64 0, .int .i64 0, .int .i64 0, .int .i64 0, .int .i64 0]) 5 40 Try.underlying28 infoExt rfl rfl (by decide) (by decide) u1 _ rfl (HO1.out.low HS1.out) u2 _ rfl HO2.out.is ?hlen HB.out.size ?_; (case hlen => omega); intro u3 w6 ho3 hg3)
      have HB6 := Lib.hid (HB.out.grown hg3 (fun k hk => Nat.le_trans HS1.out (Enc.Own.lt HO1.out k hk).1))
      have HO3 := Lib.hid ho3
      clear ho3 hg3 HO1 HO2 HB HL1 HN1
      have HL1 := Lib.hid (HL.out.bl HB6.out)
      have HN1 := Lib.hid (HN.out.bl HB6.out)
      go_wp2_with fail
      refine (rend_eq _ _ _ HL1.out HE.out).mono ?_
      rintro e w7 ⟨rfl, rfl⟩
      go_wp2_with fail
      refine (rcut_eq _ _ _ _ _ HL1.out (by omega) HX2.out).mono ?_
      rintro e w8 ⟨u4, rfl, ho, hb⟩
      have HO4 := Lib.hid ho
      have HS6 := Lib.hid HB6.out.size
      clear ho
      try replace HE := Lib.hid (HE.out.bl hb)
      try replace HL := Lib.hid (HL.out.bl hb)
      try replace HN := Lib.hid (HN.out.bl hb)
      try replace HV := Lib.hid (HV.out.bl hb)
      try replace HQ := Lib.hid (HQ.out.bl hb)
      try replace HF := Lib.hid (HF.out.bl hb)
      try replace HP := Lib.hid (HP.out.bl hb)
      try replace HSE := Lib.hid (HSE.out.bl hb)
      try replace HY := Lib.hid (HY.out.bl hb)
      try replace HM := Lib.hid (HM.out.bl hb)
      try replace HX1 := Lib.hid (HX1.out.bl hb)
      try replace HX2 := Lib.hid (HX2.out.bl hb)
      try replace HT := Lib.hid (HT.out.bl hb)
      try replace HB := Lib.hid (HB.out.bl hb)
      try replace HL1 := Lib.hid (HL1.out.bl hb)
      try replace HN1 := Lib.hid (HN1.out.bl hb)
      try replace HO1 := Lib.hid (HO1.out.bl hb)
      try replace HS1 := Lib.hid (HS1.out.bl hb)
      try replace HO2 := Lib.hid (HO2.out.bl hb)
      try replace HB6 := Lib.hid (HB6.out.bl hb)
      try replace HO3 := Lib.hid (HO3.out.bl hb)
      try replace HO4 := Lib.hid (HO4.out.bl hb)
      try replace HS6 := Lib.hid (HS6.out.bl hb)
      clear hb
      obtain ⟨A4, c4, rfl⟩ := Enc.Own.slice HO4.out
      cases T with
      | nil =>
        have HR := Lib.hid (HP.out.1 rfl)
        clear HP
        rw [← HR.out] at HO3
        go_wp2_with fail
        refine (rend_eq _ _ _ HO3.out.is HSE.out).mono ?_
        rintro e w9 ⟨rfl, rfl⟩
        go_wp2
        go_ret2
        first
          | exact ⟨_, rfl, Enc.Own.nil _ _ _, HB6.out⟩
          | exact ⟨_, rfl, HO3.out, HB6.out⟩
      | cons c0 cl =>
        obtain ⟨htt, hat, hR⟩ := HP.out.2 c0 cl rfl
        have HR := Lib.hid hR
        clear HP hR
        obtain ⟨_, _, e4, _, _, _, h4⟩ := HO4.out.is
        simp at e4
        obtain ⟨rfl, rfl⟩ := e4
        obtain ⟨ad, rfl, d0, _⟩ := ext_at h4 0 (by simp)
        have e0 : ad.add (0 * 5) = ad := rfl
        rw [e0] at d0
        simp only [List.getElem_cons_zero, hat] at d0
        clear h4 e0 hat
        have l5 : (shiftM (fr + endM new - tt) (c0 :: cl)).length = (c0 :: cl).length := shiftM_len _ _
        have hw : IntKind.i64.wrap (fr + endM new) = fr + endM new := IntWalk.i64_in _ (by omega)
        have hw' : IntKind.i64.wrap (fr + endM new - tt) = fr + endM new - tt := IntWalk.i64_in _ (by omega)
        go_wp2_with fail
        refine wp_region_ways (S := (fun _ => True)) [0, 1, 2, 3, 5, 6, 7, 8, 10, 13] (y := .take 0 (.take 1 (.take 2 (.take 3 (.take 6 (.take 7 (.take 8 (.ev 4 (.take 5 (.ev 9 (.take 10 (.ev 11 (.ev 12 (.take 13 (.done)) (.stop)) (.stop))) (.stop))) (.ev 9 (.ev 4 (.take 5 (.take 10 (.ev 11 (.ev 12 (.take 13 (.done)) (.stop)) (.stop)))) (.stop)) (.stop)))))))))) (by kernel_rfl) (by kernel_rfl) (by kernel_rfl) ?_ (fun hHeld => ?_)
        · trivial
        repeat (first | (refine wpWay_take rfl (by rfl) (by intro w hSw; (try dsimp only at hSw); first | (go_simp; done) | (go_simp; with_reducible rfl)) ?_; try simp only [Act.put, List.setIfInBounds_toArray, List.set_cons_zero, List.set_cons_succ]) | (refine wpWay_skip rfl (by rfl) ?_; try simp only [Act.put, List.setIfInBounds_toArray, List.set_cons_zero, List.set_cons_succ]))
        refine wpWay_ev rfl (fun K hK => ?_) ?_
        · go_wp2_with fail
          refine (rend_eq _ _ _ (HN1.out.bl (Bl.refl _).drew) HF.out).mono ?_
          rintro e w9 ⟨rfl, rfl⟩
          go_wp2_with fail
          (try refine ⟨trivial, ?_⟩)
          repeat (first | (refine wpWay_take rfl (by rfl) (by intro w hSw; (try dsimp only at hSw); first | (go_simp; done) | (go_simp; with_reducible rfl)) ?_; try simp only [Act.put, List.setIfInBounds_toArray, List.set_cons_zero, List.set_cons_succ]) | (refine wpWay_skip rfl (by rfl) ?_; try simp only [Act.put, List.setIfInBounds_toArray, List.set_cons_zero, List.set_cons_succ]))
          refine wpWay_ev rfl (fun K hK => ?_) wpWay_stop
          go_wp2_with fail
          (try refine ⟨trivial, ?_⟩)
          repeat (first | (refine wpWay_take rfl (by rfl) (by intro w hSw; (try dsimp only at hSw); first | (go_simp; done) | (go_simp; with_reducible rfl)) ?_; try simp only [Act.put, List.setIfInBounds_toArray, List.set_cons_zero, List.set_cons_succ]) | (refine wpWay_skip rfl (by rfl) ?_; try simp only [Act.put, List.setIfInBounds_toArray, List.set_cons_zero, List.set_cons_succ]))
          refine wpWay_ev rfl (fun K hK => ?_) wpWay_stop
          go_wp2_with fail
          refine (rshift_any _ _ _ _ (HO4.out.is.bl (Bl.refl _).drew) (by omega)).mono ?_
          rintro e w10 ⟨u5, rfl, ho5, hb5⟩
          go_wp2_with fail
          (try refine ⟨trivial, ?_⟩)
          repeat (first | (refine wpWay_take rfl (by rfl) (by intro w hSw; (try dsimp only at hSw); first | (go_simp; done) | (go_simp; with_reducible rfl)) ?_; try simp only [Act.put, List.setIfInBounds_toArray, List.set_cons_zero, List.set_cons_succ]) | (refine wpWay_skip rfl (by rfl) ?_; try simp only [Act.put, List.setIfInBounds_toArray, List.set_cons_zero, List.set_cons_succ]))
          refine wpWay_ev rfl (fun K hK => ?_) wpWay_stop
          go_wp2_with (at_builtin; refine Enc.Own.append (E := extE) rfl (.tmp 45) (.tmp 56) 28 rfl w.heap.size 34 (.agg #[.int .i64 0, .int .i64 0, .int .i64 0, .int .i64 0, .int .i64 0]) 5 40 Try.underlying28 infoExt rfl rfl (by decide) (by decide) u3 _ rfl (HO3.out.bl (Bl.trans (Bl.refl _).drew hb5)) u5 _ rfl ho5.is ?hlen (Nat.le_trans HB6.out.size hb5.size) ?_; (case hlen => rw [List.length_append]; omega); intro u6 w11 ho6 hg6)
          (try refine ⟨trivial, ?_⟩)
          repeat (first | (refine wpWay_take rfl (by rfl) (by intro w hSw; (try dsimp only at hSw); first | (go_simp; done) | (go_simp; with_reducible rfl)) ?_; try simp only [Act.put, List.setIfInBounds_toArray, List.set_cons_zero, List.set_cons_succ]) | (refine wpWay_skip rfl (by rfl) ?_; try simp only [Act.put, List.setIfInBounds_toArray, List.set_cons_zero, List.set_cons_succ]))
          refine wpWay_done ?_
          have HB9 := Lib.hid ((HB6.out.bl (Bl.trans (Bl.refl _).drew hb5)).grown hg6 (fun k hk => (Enc.Own.lt HO3.out k hk).1))
          have HO6 := Lib.hid ho6
          clear ho6 hg6 hb5 ho5 hw hw'
          rw [← HR.out] at HO6
          go_wp2_with fail
          refine (rend_eq _ _ _ HO6.out.is HSE.out).mono ?_
          rintro e w12 ⟨rfl, rfl⟩
          go_wp2
          go_ret2
          first
            | exact ⟨_, rfl, Enc.Own.nil _ _ _, HB9.out⟩
            | exact ⟨_, rfl, HO6.out, HB9.out⟩
        · refine wpWay_ev rfl (fun K hK => ?_) wpWay_stop
          go_wp2_with fail
          (try refine ⟨trivial, ?_⟩)
          repeat (first | (refine wpWay_take rfl (by rfl) (by intro w hSw; (try dsimp only at hSw); first | (go_simp; done) | (go_simp; with_reducible rfl)) ?_; try simp only [Act.put, List.setIfInBounds_toArray, List.set_cons_zero, List.set_cons_succ]) | (refine wpWay_skip rfl (by rfl) ?_; try simp only [Act.put, List.setIfInBounds_toArray, List.set_cons_zero, List.set_cons_succ]))
          refine wpWay_ev rfl (fun K hK => ?_) wpWay_stop
          go_wp2_with fail
          refine (rend_eq _ _ _ (HN1.out.bl (Bl.refl _).drew) HF.out).mono ?_
          rintro e w9 ⟨rfl, rfl⟩
          go_wp2_with fail
          (try refine ⟨trivial, ?_⟩)
          repeat (first | (refine wpWay_take rfl (by rfl) (by intro w hSw; (try dsimp only at hSw); first | (go_simp; done) | (go_simp; with_reducible rfl)) ?_; try simp only [Act.put, List.setIfInBounds_toArray, List.set_cons_zero, List.set_cons_succ]) | (refine wpWay_skip rfl (by rfl) ?_; try simp only [Act.put, List.setIfInBounds_toArray, List.set_cons_zero, List.set_cons_succ]))
          refine wpWay_ev rfl (fun K hK => ?_) wpWay_stop
          go_wp2_with fail
          refine (rshift_any _ _ _ _ (HO4.out.is.bl (Bl.refl _).drew) (by omega)).mono ?_
          rintro e w10 ⟨u5, rfl, ho5, hb5⟩
          go_wp2_with fail
          (try refine ⟨trivial, ?_⟩)
          repeat (first | (refine wpWay_take rfl (by rfl) (by intro w hSw; (try dsimp only at hSw); first | (go_simp; done) | (go_simp; with_reducible rfl)) ?_; try simp only [Act.put, List.setIfInBounds_toArray, List.set_cons_zero, List.set_cons_succ]) | (refine wpWay_skip rfl (by rfl) ?_; try simp only [Act.put, List.setIfInBounds_toArray, List.set_cons_zero, List.set_cons_succ]))
          refine wpWay_ev rfl (fun K hK => ?_) wpWay_stop
          go_wp2_with (at_builtin; refine Enc.Own.append (E := extE) rfl (.tmp 45) (.tmp 56) 28 rfl w.heap.size 34 (.agg #[.int .i64 0, .int .i64 0, .int .i64 0, .int .i64 0, .int .i64 0]) 5 40 Try.underlying28 infoExt rfl rfl (by decide) (by decide) u3 _ rfl (HO3.out.bl (Bl.trans (Bl.refl _).drew hb5)) u5 _ rfl ho5.is ?hlen (Nat.le_trans HB6.out.size hb5.size) ?_; (case hlen => rw [List.length_append]; omega); intro u6 w11 ho6 hg6)
          (try refine ⟨trivial, ?_⟩)
          repeat (first | (refine wpWay_take rfl (by rfl) (by intro w hSw; (try dsimp only at hSw); first | (go_simp; done) | (go_simp; with_reducible rfl)) ?_; try simp only [Act.put, List.setIfInBounds_toArray, List.set_cons_zero, List.set_cons_succ]) | (refine wpWay_skip rfl (by rfl) ?_; try simp only [Act.put, List.setIfInBounds_toArray, List.set_cons_zero, List.set_cons_succ]))
          refine wpWay_done ?_
          have HB9 := Lib.hid ((HB6.out.bl (Bl.trans (Bl.refl _).drew hb5)).grown hg6 (fun k hk => (Enc.Own.lt HO3.out k hk).1))
          have HO6 := Lib.hid ho6
          clear ho6 hg6 hb5 ho5 hw hw'
          rw [← HR.out] at HO6
          go_wp2_with fail
          refine (rend_eq _ _ _ HO6.out.is HSE.out).mono ?_
          rintro e w12 ⟨rfl, rfl⟩
          go_wp2
          go_ret2
          first
            | exact ⟨_, rfl, Enc.Own.nil _ _ _, HB9.out⟩
            | exact ⟨_, rfl, HO6.out, HB9.out⟩
theorem rsplice_eq (v u : Value) (l new : List Ext) (fr tt : Int) (w : World) (h : extE.Is w v l) (hn : extE.Is w u new) (hv : validFrom 0 l = true) (hlen : new.length * 40 ≤ 100000000000000) {R : List Ext} {c : Int} (hm : spliceM l fr tt new = (R, c)) :
    Calls Try.prog 30 #[v, .int .i64 fr, .int .i64 tt, u] w fun e w' => ∃ z, e = .returned (.tuple #[z, .int .i64 c]) ∧ extE.Own 34 w' w.heap.size z R ∧ Bl w w' := by
  have := rsplice_any v u l new fr tt w h hn hv hlen
  rw [hm] at this; exact this
end Go.Proofs.Ytaedelhdandflaa.ExtW
