/- The walk of overdublaw18.ExtentSamples. -/
import Derived.Test.YtaedelhdandflaaExtNothing
import Derived.Test.YtaedelhdandflaaCanon
namespace Go.Proofs.Ytaedelhdandflaa.ExtW
open Go.RowKit Go.Ov Go.Proofs.Ytaedelhdandflaa.Need

theorem samples_pure (R M : List Ext) (fr tt : Int) (hR : validFrom 0 R = true) (hM : validFrom 0 M = true) (h0 : 0 ≤ fr) (h1 : fr ≤ endM R) (h2 : fr ≤ tt) :
    spliceM R fr tt M = (if 1000 < fr + endM M + endM R - min tt (endM R) then ([], 4) else (spliceL R fr tt M, 0)) ∧
    (((spotsM R).take fr.toNat ++ spotsM M ++ (spotsM R).drop (min tt (endM R)).toNat).length : Int) = fr + endM M + endM R - min tt (endM R) ∧
    spotsM (spliceL R fr tt M) = (spotsM R).take fr.toNat ++ spotsM M ++ (spotsM R).drop (min tt (endM R)).toNat ∧
    spotsM (cutM fr tt R) = ((spotsM R).take (min tt (endM R)).toNat).drop fr.toNat ∧
    validFrom fr (cutM fr tt R) = true := by
  have b1 := valid_bd R 0 (by decide) hR
  have b2 := valid_bd M 0 (by decide) hM
  have l1 := spotsM_len R 0 hR
  have l2 := spotsM_len M 0 hM
  refine ⟨?_, ?_, splice_spots R M fr tt hR h0 h2 h1, ?_, ?_⟩
  · unfold spliceM spliceBad spliceLong
    rw [if_neg (by simp [hM]; omega)]
    simp
  · simp only [List.length_append, List.length_take, List.length_drop]
    omega
  · rw [cut_spots R 0 fr tt (by decide) hR, List.drop_take]
    rw [show (fr - 0).toNat = fr.toNat by omega]
    apply List.take_eq_take_iff.2
    rw [List.length_drop]; omega
  · have := cut_valid R 0 fr tt (by decide) hR
    rwa [show max 0 fr = fr by omega] at this

set_option maxRecDepth 100000 in
set_option maxHeartbeats 4000000 in
theorem samples_walk (v : Value) (l : List Ext) (u : Value) (m : List Ext) (fr_ tt_ : Int) (w : World) (h : ArgExts w v l) (h' : ArgExts w u m) (_ : -9223372036854775808 ≤ fr_ ∧ fr_ ≤ 9223372036854775807) (_ : -9223372036854775808 ≤ tt_ ∧ tt_ ≤ 9223372036854775807) :
    Calls Try.prog 7 #[v, u, .int .i64 fr_, .int .i64 tt_] w fun e w' => e = .returned (.bool true) ∧ Bl w w' := by
  have HL := Lib.hid h.1
  have HM := Lib.hid h'.1
  clear h h'
  have HB2 := Lib.hid (Bl.refl w)
  go_enter Try.func7, Try.ntmps7
  go_wp2_with fail
  refine (row16_any _ _ 16 _ HL.out (by decide)).mono ?_
  rintro e x_1 ⟨r, rfl, ho, hb⟩
  have HR2 := Lib.hid (ho.is)
  have HB2_ := Lib.hid (HB2.out.bl hb)
  have HL_ := Lib.hid (HL.out.bl hb)
  have HM_ := Lib.hid (HM.out.bl hb)
  clear HB2 HL HM
  have HB2 := Lib.hid HB2_.out
  clear HB2_
  have HL := Lib.hid HL_.out
  clear HL_
  have HM := Lib.hid HM_.out
  clear HM_
  clear ho
  clear hb
  go_wp2_with fail
  refine (row16_any _ _ 6 _ HM.out (by decide)).mono ?_
  rintro e x_2 ⟨s, rfl, ho, hb⟩
  have HSM := Lib.hid (ho.is)
  have HB2_ := Lib.hid (HB2.out.bl hb)
  have HL_ := Lib.hid (HL.out.bl hb)
  have HM_ := Lib.hid (HM.out.bl hb)
  have HR2_ := Lib.hid (HR2.out.bl hb)
  clear HB2 HL HM HR2
  have HB2 := Lib.hid HB2_.out
  clear HB2_
  have HL := Lib.hid HL_.out
  clear HL_
  have HM := Lib.hid HM_.out
  clear HM_
  have HR2 := Lib.hid HR2_.out
  clear HR2_
  clear ho
  clear hb
  have hRv := rowM_valid l 16
  have hMv := rowM_valid m 6
  generalize rowM l 16 = R at *
  generalize rowM m 6 = M at *
  clear HL HM
  have b1 := valid_bd R 0 (by decide) hRv
  have b2 := valid_bd M 0 (by decide) hMv
  have ml := valid_len M hMv
  have rl := valid_len R hRv
  have hE := Lib.hid (show wrap64 (endM R) = endM R from wrap_id (by omega) (by omega))
  have w1 := within_bd fr_ (endM R + 1) (by omega)
  generalize hfr : within fr_ (endM R + 1) = fr at *
  have w2 := within_bd tt_ (endM R + 9 - fr) (by omega)
  generalize htt : within tt_ (endM R + 9 - fr) = td at *
  obtain ⟨q1, q2, q3, q4, q5⟩ := samples_pure R M fr (fr + td) hRv hMv w1.1 (by omega) (by omega)
  have hS := Lib.hid (spotsM_len R 0 hRv)
  have Hfr := Lib.hid hfr
  have Htt := Lib.hid htt
  have Q1 := Lib.hid q1
  have Q2 := Lib.hid q2
  have Q3 := Lib.hid q3
  have Q4 := Lib.hid q4
  have Q5 := Lib.hid q5
  have HRv := Lib.hid hRv
  have HMv := Lib.hid hMv
  clear hfr htt q1 q2 q3 q4 q5 hRv hMv
  go_wp2_with fail
  refine (end_eq _ _ _ HR2.out hE.out).mono ?_
  rintro e x_3 ⟨rfl, hb⟩
  have HB2_ := Lib.hid (HB2.out.bl hb)
  have HR2_ := Lib.hid (HR2.out.bl hb)
  have HSM_ := Lib.hid (HSM.out.bl hb)
  clear HB2 HR2 HSM
  have HB2 := Lib.hid HB2_.out
  clear HB2_
  have HR2 := Lib.hid HR2_.out
  clear HR2_
  have HSM := Lib.hid HSM_.out
  clear HSM_
  clear hb
  go_wp2_with fail
  refine (within_any _ _ _ (by omega)).mono ?_
  rintro e x_4 ⟨rfl, rfl⟩
  rw [Hfr.out]
  go_wp2_with fail
  refine (within_any _ _ _ (by omega)).mono ?_
  rintro e x_5 ⟨rfl, rfl⟩
  rw [Htt.out]
  go_wp2_with fail
  generalize htt : fr + td = tt at *
  have htt2 : fr ≤ tt ∧ tt ≤ 9223372036854775807 := by omega
  clear htt w2
  obtain ⟨RS, code, hrs⟩ : ∃ RS code, spliceM R fr tt M = (RS, code) := ⟨_, _, rfl⟩
  have HS1 := Lib.hid hrs
  clear hrs
  refine (splice_eq _ _ _ _ _ _ _ HR2.out HSM.out HRv.out (by omega) HS1.out).mono ?_
  rintro e y_1 ⟨za, rfl, ho, hb⟩
  have HOza := Lib.hid (ho.is)
  have HB2_ := Lib.hid (HB2.out.bl hb)
  have HR2_ := Lib.hid (HR2.out.bl hb)
  have HSM_ := Lib.hid (HSM.out.bl hb)
  clear HB2 HR2 HSM
  have HB2 := Lib.hid HB2_.out
  clear HB2_
  have HR2 := Lib.hid HR2_.out
  clear HR2_
  have HSM := Lib.hid HSM_.out
  clear HSM_
  clear ho
  clear hb
  go_wp2_with fail
  refine (spots_any _ _ _ HR2.out (valid_small _ 0 HRv.out) (by omega)).mono ?_
  rintro e y_2 ⟨ys, rfl, ho, hb⟩
  have HYs := Lib.hid (ho.is)
  have HB2_ := Lib.hid (HB2.out.bl hb)
  have HR2_ := Lib.hid (HR2.out.bl hb)
  have HSM_ := Lib.hid (HSM.out.bl hb)
  have HOza_ := Lib.hid (HOza.out.bl hb)
  clear HB2 HR2 HSM HOza
  have HB2 := Lib.hid HB2_.out
  clear HB2_
  have HR2 := Lib.hid HR2_.out
  clear HR2_
  have HSM := Lib.hid HSM_.out
  clear HSM_
  have HOza := Lib.hid HOza_.out
  clear HOza_
  clear ho
  clear hb
  obtain ⟨As, cs, hs0, hs1, hs2, hs3, hs4⟩ := HYs.out
  subst hs0
  have HYC := Lib.hid hs1
  clear hs1 hs2 hs3 hs4
  obtain ⟨V1, hV1, hI1⟩ := slice_h (E := pairE) (P := Try.prog) (t := 45) (by kernel_rfl) (fun w => by kernel_rfl) As cs (spotsM R) fr (by omega) (by have := hS.out; omega) HYC.out
  obtain ⟨V2, hV2, hI2⟩ := slice_l (E := pairE) (P := Try.prog) (t := 45) (by kernel_rfl) (fun w => by kernel_rfl) As cs (spotsM R) (min tt (endM R)) (by omega) (by have := hS.out; omega)
  have HI1 := Lib.hid hI1
  have HI2 := Lib.hid hI2
  clear hI1 hI2
  have hSb : (spotsM R).length ≤ 1000 := by have := hS.out; omega
  have hSM : (spotsM M).length ≤ 1000 := by have := spotsM_len M 0 HMv.out; omega
  have t1 : ((spotsM R).take fr.toNat).length ≤ 1000 := by rw [List.length_take]; omega
  have t2 : ((spotsM R).drop (min tt (endM R)).toNat).length ≤ 1000 := by rw [List.length_drop]; omega
  go_upto_region 7 with (fail)
  go_cut [13] (fun v13 wc => Hid (pairE.Is wc v13 ((spotsM R).take fr.toNat ++ spotsM M ++ (spotsM R).drop (min tt (endM R)).toNat)) ∧ Hid (Bl y_2 wc))
  case first =>
    refine wp_region_ways (S := (fun _ => True)) [0, 1, 2, 4, 7, 8, 9, 10, 11, 13] (y := .take 0 (.take 1 (.take 2 (.take 4 (.take 7 (.take 8 (.take 9 (.take 10 (.take 11 (.ev 3 (.ev 5 (.ev 6 (.ev 12 (.take 13 (.done)) (.stop)) (.stop)) (.stop)) (.stop))))))))))) (by kernel_rfl) (by kernel_rfl) (by kernel_rfl) ?_ (fun hHeld => ?_)
    · trivial
    repeat (first | (refine wpWay_take rfl (by rfl) (by intro w hSw; (try dsimp only at hSw); first | (go_simp; done) | (go_simp; with_reducible rfl)) ?_; try simp only [Act.put, List.setIfInBounds_toArray, List.set_cons_zero, List.set_cons_succ]) | (refine wpWay_skip rfl (by rfl) ?_; try simp only [Act.put, List.setIfInBounds_toArray, List.set_cons_zero, List.set_cons_succ]))
    refine wpWay_ev rfl (fun K hK => ?_) wpWay_stop
    go_wp2_with fail
    refine (copyPair_any V1 ((spotsM R).take fr.toNat) _ (HI1.out _ (HYs.out.bl (Bl.refl _).drew)) (by omega)).mono ?_
    rintro e z1 ⟨c1, rfl, ho1, hb1⟩
    go_wp2_with fail
    (try refine ⟨trivial, ?_⟩)
    repeat (first | (refine wpWay_take rfl (by rfl) (by intro w hSw; (try dsimp only at hSw); first | (go_simp; done) | (go_simp; with_reducible rfl)) ?_; try simp only [Act.put, List.setIfInBounds_toArray, List.set_cons_zero, List.set_cons_succ]) | (refine wpWay_skip rfl (by rfl) ?_; try simp only [Act.put, List.setIfInBounds_toArray, List.set_cons_zero, List.set_cons_succ]))
    refine wpWay_ev rfl (fun K hK => ?_) wpWay_stop
    go_wp2_with fail
    refine (spots_any s M _ (HSM.out.bl (Bl.trans (Bl.refl _).drew hb1)) (valid_small _ 0 HMv.out) (by omega)).mono ?_
    rintro e z2 ⟨c2, rfl, ho2, hb2⟩
    go_wp2_with fail
    (try refine ⟨trivial, ?_⟩)
    repeat (first | (refine wpWay_take rfl (by rfl) (by intro w hSw; (try dsimp only at hSw); first | (go_simp; done) | (go_simp; with_reducible rfl)) ?_; try simp only [Act.put, List.setIfInBounds_toArray, List.set_cons_zero, List.set_cons_succ]) | (refine wpWay_skip rfl (by rfl) ?_; try simp only [Act.put, List.setIfInBounds_toArray, List.set_cons_zero, List.set_cons_succ]))
    refine wpWay_ev rfl (fun K hK => ?_) wpWay_stop
    go_wp2_with (at_builtin; refine Enc.Own.append (E := pairE) rfl (.tmp 46) (.tmp 48) 45 rfl y_2.heap.size 44 (.agg #[.int .i64 0, .int .i64 0]) 2 16 Try.underlying45 infoPair rfl rfl (by decide) (by decide) c1 _ rfl (ho1.bl hb2) c2 _ rfl ho2.is ?hlen (Nat.le_trans hb1.size hb2.size) ?_; (case hlen => omega); intro c3 z3 ho3 hg3)
    (try refine ⟨trivial, ?_⟩)
    repeat (first | (refine wpWay_take rfl (by rfl) (by intro w hSw; (try dsimp only at hSw); first | (go_simp; done) | (go_simp; with_reducible rfl)) ?_; try simp only [Act.put, List.setIfInBounds_toArray, List.set_cons_zero, List.set_cons_succ]) | (refine wpWay_skip rfl (by rfl) ?_; try simp only [Act.put, List.setIfInBounds_toArray, List.set_cons_zero, List.set_cons_succ]))
    refine wpWay_ev rfl (fun K hK => ?_) wpWay_stop
    go_wp2_with (at_builtin; refine Enc.Own.append (E := pairE) rfl (.tmp 49) (.tmp 54) 45 rfl y_2.heap.size 44 (.agg #[.int .i64 0, .int .i64 0]) 2 16 Try.underlying45 infoPair rfl rfl (by decide) (by decide) c3 _ rfl ho3 V2 _ rfl (HI2.out _ (HYs.out.bl ((Bl.trans (Bl.trans (Bl.refl _).drew hb1) hb2).grown hg3 (fun k hk => (Enc.Own.lt ho1 k hk).1)))) ?hlen (Nat.le_trans (Nat.le_trans hb1.size hb2.size) hg3.size) ?_; (case hlen => rw [List.length_append]; omega); intro c4 z4 ho4 hg4)
    (try refine ⟨trivial, ?_⟩)
    repeat (first | (refine wpWay_take rfl (by rfl) (by intro w hSw; (try dsimp only at hSw); first | (go_simp; done) | (go_simp; with_reducible rfl)) ?_; try simp only [Act.put, List.setIfInBounds_toArray, List.set_cons_zero, List.set_cons_succ]) | (refine wpWay_skip rfl (by rfl) ?_; try simp only [Act.put, List.setIfInBounds_toArray, List.set_cons_zero, List.set_cons_succ]))
    refine wpWay_done ?_
    all_goals
      go_wp2_with fail
      go_meet
      exact ⟨Lib.hid ho4.is, Lib.hid (((Bl.trans (Bl.trans (Bl.refl y_2).drew hb1) hb2).grown hg3 (fun k hk => (Enc.Own.lt ho1 k hk).1)).grown hg4 (fun k hk => Nat.le_trans ((Bl.refl y_2).drew).size (Enc.Own.lt ho3 k hk).1))⟩
  case rest =>
    obtain ⟨HW, hb4⟩ := hcut
    have HB3 := Lib.hid (HB2.out.trans hb4.out)
    have HRR := Lib.hid (HR2.out.bl hb4.out)
    have HZA := Lib.hid (HOza.out.bl hb4.out)
    have HYY := Lib.hid (HYs.out.bl hb4.out)
    clear hb4 HR2 HOza HSM HB2 HYs hV1 hV2 HI1 HI2 t1 t2 hSM
    generalize hWW : (spotsM R).take fr.toNat ++ spotsM M ++ (spotsM R).drop (min tt (endM R)).toNat = W at *
    have HWW := Lib.hid hWW
    clear hWW
    obtain ⟨A4, cc4, rfl, _⟩ := HW.out
    by_cases hlong : 1000 < fr + endM M + endM R - min tt (endM R)
    · have hp : RS = [] ∧ code = 4 := by
        have := HS1.out.symm.trans (Q1.out.trans (if_pos hlong)); simpa using this
      obtain ⟨rfl, rfl⟩ := hp
      have hgt : 1000 < (W.length : Int) := by have := Q2.out; omega
      obtain ⟨Az, cz, rfl, _⟩ := HZA.out
      clear hlong
      go_wp2_with fail
      refine (wakes18_any _).mono ?_
      rintro e z__1 ⟨rfl, hb⟩
      have HB3_ := Lib.hid (HB3.out.bl hb)
      have HW_ := Lib.hid (HW.out.bl hb)
      have HZA_ := Lib.hid (HZA.out.bl hb)
      clear HB3 HW HZA
      have HB3 := Lib.hid HB3_.out
      clear HB3_
      have HW := Lib.hid HW_.out
      clear HW_
      have HZA := Lib.hid HZA_.out
      clear HZA_
      clear hb
      go_wp2
      go_ret
      exact ⟨rfl, HB3.out⟩
    · have hp : RS = spliceL R fr tt M ∧ code = 0 := by
        have := HS1.out.symm.trans (Q1.out.trans (if_neg hlong)); simpa [eq_comm] using this
      obtain ⟨hp, rfl⟩ := hp
      have HP := Lib.hid hp
      have hgt : ¬ 1000 < (W.length : Int) := by have := Q2.out; omega
      have HV := Lib.hid (show validFrom 0 RS = true by rw [hp]; exact splice_valid R M fr tt HRv.out HMv.out w1.1 htt2.1 (by omega) (by omega))
      have HQ3 := Lib.hid (show spotsM RS = W by rw [hp, Q3.out])
      clear hp hlong
      go_wp2_with fail
      refine (cut_any _ _ _ _ _ HRR.out (by omega)).mono ?_
      rintro e z__1 ⟨zc, rfl, ho, hb⟩
      have HCC := Lib.hid (ho.is)
      have HB3_ := Lib.hid (HB3.out.bl hb)
      have HW_ := Lib.hid (HW.out.bl hb)
      have HZA_ := Lib.hid (HZA.out.bl hb)
      have HRR_ := Lib.hid (HRR.out.bl hb)
      have HYY_ := Lib.hid (HYY.out.bl hb)
      clear HB3 HW HZA HRR HYY
      have HB3 := Lib.hid HB3_.out
      clear HB3_
      have HW := Lib.hid HW_.out
      clear HW_
      have HZA := Lib.hid HZA_.out
      clear HZA_
      have HRR := Lib.hid HRR_.out
      clear HRR_
      have HYY := Lib.hid HYY_.out
      clear HYY_
      clear ho
      clear hb
      have HC1 := Lib.hid (valid_small _ fr Q5.out)
      have hcl := Nat.le_trans (cutM_len fr tt R) rl
      have HC2 := Lib.hid hcl
      have HQ5 := Lib.hid Q5.out
      generalize hCM : cutM fr tt R = CM at *
      have HCM := Lib.hid hCM
      clear hCM
      obtain ⟨Ac, cc, hc0, hc1, hc2, hc3, hc4⟩ := HCC.out
      subst hc0
      have hbYY : min tt (endM R) ≤ (spotsM R).length := by have := hS.out; omega
      obtain ⟨V3, hV3, hI3⟩ := slice_lh (E := pairE) (P := Try.prog) (t := 45) (by kernel_rfl) (fun w => by kernel_rfl) As cs (spotsM R) fr (min tt (endM R)) (by omega) (by omega) hbYY HYC.out
      have HI3 := Lib.hid hI3
      have HQ4 := Lib.hid Q4.out
      clear hI3 hbYY hc1 hc2 hc3 hcl
      obtain ⟨cn, hcn⟩ : ∃ cn, cn = CM.length := ⟨_, rfl⟩
      rw [← hcn] at HCC ⊢
      cases CM with
      | nil =>
        clear hc4
        simp only [List.length_nil] at hcn
        subst hcn
        go_wp2_with fail
        refine wp_region_ways (S := (fun _ => True)) [0, 1, 2, 3, 5, 6, 7, 9, 11, 12, 13, 15, 16, 17, 18, 19, 20, 22, 23, 24, 25, 26, 27, 28, 29, 30, 31, 32, 33, 34, 35, 36, 38, 39] (y := .take 0 (.take 1 (.take 2 (.take 3 (.ev 4 (.take 5 (.take 6 (.take 7 (.take 9 (.ev 8 (.ev 10 (.take 11 (.take 12 (.take 13 (.take 15 (.take 16 (.take 17 (.take 18 (.take 19 (.take 20 (.ev 14 (.ev 21 (.take 22 (.take 23 (.take 24 (.take 25 (.take 26 (.take 27 (.take 28 (.take 29 (.take 30 (.take 31 (.take 32 (.take 33 (.take 34 (.take 35 (.take 36 (.ev 37 (.take 38 (.take 39 (.done))) (.stop))))))))))))))))) (.stop)) (.stop))))))))))) (.stop)) (.stop)))))) (.stop)))))) (by kernel_rfl) (by kernel_rfl) (by kernel_rfl) ?_ (fun hHeld => ?_)
        · trivial
        repeat (first | (refine wpWay_take rfl (by rfl) (by intro w hSw; (try dsimp only at hSw); first | (go_simp; done) | (go_simp; with_reducible rfl)) ?_; try simp only [Act.put, List.setIfInBounds_toArray, List.set_cons_zero, List.set_cons_succ]) | (refine wpWay_skip rfl (by rfl) ?_; try simp only [Act.put, List.setIfInBounds_toArray, List.set_cons_zero, List.set_cons_succ]))
        refine wpWay_ev rfl (fun K hK => ?_) wpWay_stop
        go_wp2_with fail
        refine (valid_any _ _ _ (HZA.out.bl ((Bl.refl _).drew))).mono ?_
        rintro e a1 ⟨rfl, hbA⟩
        rw [HV.out]
        go_wp2_with fail
        (try refine ⟨trivial, ?_⟩)
        repeat (first | (refine wpWay_take rfl (by rfl) (by intro w hSw; (try dsimp only at hSw); first | (go_simp; done) | (go_simp; with_reducible rfl)) ?_; try simp only [Act.put, List.setIfInBounds_toArray, List.set_cons_zero, List.set_cons_succ]) | (refine wpWay_skip rfl (by rfl) ?_; try simp only [Act.put, List.setIfInBounds_toArray, List.set_cons_zero, List.set_cons_succ]))
        refine wpWay_ev rfl (fun K hK => ?_) wpWay_stop
        go_wp2_with fail
        refine (spots_any za RS _ (HZA.out.bl (Bl.trans (Bl.refl _).drew hbA)) (valid_small _ 0 HV.out) (Nat.le_trans (valid_len _ HV.out) (by decide))).mono ?_
        rintro e a2 ⟨s1, rfl, hoB, hbB⟩
        go_wp2_with fail
        (try refine ⟨trivial, ?_⟩)
        repeat (first | (refine wpWay_take rfl (by rfl) (by intro w hSw; (try dsimp only at hSw); first | (go_simp; done) | (go_simp; with_reducible rfl)) ?_; try simp only [Act.put, List.setIfInBounds_toArray, List.set_cons_zero, List.set_cons_succ]) | (refine wpWay_skip rfl (by rfl) ?_; try simp only [Act.put, List.setIfInBounds_toArray, List.set_cons_zero, List.set_cons_succ]))
        refine wpWay_ev rfl (fun K hK => ?_) wpWay_stop
        go_wp2_with fail
        refine (samePair_any s1 (.slice A4 W.length cc4) _ _ _ hoB.is (HW.out.bl (Bl.trans (Bl.trans (Bl.refl _).drew hbA) hbB))).mono ?_
        rintro e a3 ⟨rfl, hbC⟩
        rw [decide_eq_true HQ3.out]
        go_wp2_with fail
        (try refine ⟨trivial, ?_⟩)
        repeat (first | (refine wpWay_take rfl (by rfl) (by intro w hSw; (try dsimp only at hSw); first | (go_simp; done) | (go_simp; with_reducible rfl)) ?_; try simp only [Act.put, List.setIfInBounds_toArray, List.set_cons_zero, List.set_cons_succ]) | (refine wpWay_skip rfl (by rfl) ?_; try simp only [Act.put, List.setIfInBounds_toArray, List.set_cons_zero, List.set_cons_succ]))
        refine wpWay_ev rfl (fun K hK => ?_) wpWay_stop
        go_wp2_with fail
        refine (spots_any (.slice Ac 0 cc) [] _ (HCC.out.bl (Bl.trans (Bl.trans (Bl.trans (Bl.refl _).drew hbA) hbB) hbC)) HC1.out (by have := HC2.out; omega)).mono ?_
        rintro e a4 ⟨s2, rfl, hoD, hbD⟩
        go_wp2_with fail
        (try refine ⟨trivial, ?_⟩)
        repeat (first | (refine wpWay_take rfl (by rfl) (by intro w hSw; (try dsimp only at hSw); first | (go_simp; done) | (go_simp; with_reducible rfl)) ?_; try simp only [Act.put, List.setIfInBounds_toArray, List.set_cons_zero, List.set_cons_succ]) | (refine wpWay_skip rfl (by rfl) ?_; try simp only [Act.put, List.setIfInBounds_toArray, List.set_cons_zero, List.set_cons_succ]))
        refine wpWay_ev rfl (fun K hK => ?_) wpWay_stop
        go_wp2_with fail
        refine (samePair_any s2 V3 _ _ _ hoD.is (HI3.out _ (HYY.out.bl (Bl.trans (Bl.trans (Bl.trans (Bl.trans (Bl.refl _).drew hbA) hbB) hbC) hbD)))).mono ?_
        rintro e a5 ⟨rfl, hbE⟩
        rw [decide_eq_true HQ4.out]
        go_wp2_with fail
        (try refine ⟨trivial, ?_⟩)
        repeat (first | (refine wpWay_take rfl (by rfl) (by intro w hSw; (try dsimp only at hSw); first | (go_simp; done) | (go_simp; with_reducible rfl)) ?_; try simp only [Act.put, List.setIfInBounds_toArray, List.set_cons_zero, List.set_cons_succ]) | (refine wpWay_skip rfl (by rfl) ?_; try simp only [Act.put, List.setIfInBounds_toArray, List.set_cons_zero, List.set_cons_succ]))
        refine wpWay_ev rfl (fun K hK => ?_) wpWay_stop
        go_wp2_with fail
        refine (wakes18_any _).mono ?_
        rintro e a6 ⟨rfl, hbF⟩
        go_wp2_with fail
        (try refine ⟨trivial, ?_⟩)
        repeat (first | (refine wpWay_take rfl (by rfl) (by intro w hSw; (try dsimp only at hSw); first | (go_simp; done) | (go_simp; with_reducible rfl)) ?_; try simp only [Act.put, List.setIfInBounds_toArray, List.set_cons_zero, List.set_cons_succ]) | (refine wpWay_skip rfl (by rfl) ?_; try simp only [Act.put, List.setIfInBounds_toArray, List.set_cons_zero, List.set_cons_succ]))
        refine wpWay_done ?_
        all_goals
          go_wp2
          go_ret
          exact ⟨rfl, HB3.out.trans (Bl.trans (Bl.trans (Bl.trans (Bl.trans (Bl.trans (Bl.trans (Bl.refl _).drew hbA) hbB) hbC) hbD) hbE) hbF)⟩
      | cons c0 cl =>
        obtain ⟨ad, rfl, d0, _⟩ := ext_at hc4 0 (by simp)
        have hat : c0.at_ = fr := (valid_cons HQ5.out).1
        have e0 : ad.add (0 * 5) = ad := rfl
        rw [e0] at d0
        simp only [List.getElem_cons_zero, hat] at d0
        have hla := World.block_lt_of_cell? _ _ d0
        have hlen0 : 0 < cn := by rw [hcn]; simp
        have hlen0' : (0 : Int) < cn := by omega
        have hlen1 : ((cn : Int) == 0) = false := by simp only [beq_eq_false_iff_ne]; omega
        have HCN := Lib.hid hcn
        clear hcn
        clear hc4 hat e0
        go_wp2_with fail
        refine wp_region_ways (S := (fun w' => w'.cell? ad = some (.int .i64 fr))) [0, 1, 2, 3, 5, 6, 7, 9, 11, 12, 13, 15, 16, 17, 18, 19, 20, 22, 23, 24, 25, 26, 27, 28, 29, 30, 31, 32, 33, 34, 35, 36, 38, 39] (y := .take 0 (.take 1 (.take 2 (.take 3 (.ev 4 (.take 5 (.take 6 (.take 7 (.take 9 (.ev 8 (.ev 10 (.take 11 (.take 12 (.take 13 (.take 15 (.take 16 (.take 17 (.take 18 (.take 19 (.take 20 (.ev 14 (.ev 21 (.take 22 (.take 23 (.take 24 (.take 25 (.take 26 (.take 27 (.take 28 (.take 29 (.take 30 (.take 31 (.take 32 (.take 33 (.take 34 (.take 35 (.take 36 (.ev 37 (.take 38 (.take 39 (.done))) (.stop))))))))))))))))) (.stop)) (.stop))))))))))) (.stop)) (.stop)))))) (.stop)))))) (by kernel_rfl) (by kernel_rfl) (by kernel_rfl) ?_ (fun hHeld => ?_)
        · exact Bl.cell (Bl.refl _).drew d0
        have dd0 := Bl.cell (Bl.refl z__1).drew d0
        repeat (first | (refine wpWay_take rfl (by rfl) (by intro w hSw; (try dsimp only at hSw); first | (go_simp; done) | (go_simp; with_reducible rfl)) ?_; try simp only [Act.put, List.setIfInBounds_toArray, List.set_cons_zero, List.set_cons_succ]) | (refine wpWay_skip rfl (by rfl) ?_; try simp only [Act.put, List.setIfInBounds_toArray, List.set_cons_zero, List.set_cons_succ]))
        refine wpWay_ev rfl (fun K hK => ?_) wpWay_stop
        go_wp2_with fail
        refine (valid_any _ _ _ (HZA.out.bl ((Bl.refl _).drew))).mono ?_
        rintro e a1 ⟨rfl, hbA⟩
        rw [HV.out]
        go_wp2_with fail
        have dd1 := Bl.cell hbA dd0
        refine ⟨dd1, ?_⟩
        repeat (first | (refine wpWay_take rfl (by rfl) (by intro w hSw; (try dsimp only at hSw); first | (go_simp; done) | (go_simp; with_reducible rfl)) ?_; try simp only [Act.put, List.setIfInBounds_toArray, List.set_cons_zero, List.set_cons_succ]) | (refine wpWay_skip rfl (by rfl) ?_; try simp only [Act.put, List.setIfInBounds_toArray, List.set_cons_zero, List.set_cons_succ]))
        refine wpWay_ev rfl (fun K hK => ?_) wpWay_stop
        go_wp2_with fail
        refine (spots_any za RS _ (HZA.out.bl (Bl.trans (Bl.refl _).drew hbA)) (valid_small _ 0 HV.out) (Nat.le_trans (valid_len _ HV.out) (by decide))).mono ?_
        rintro e a2 ⟨s1, rfl, hoB, hbB⟩
        go_wp2_with fail
        have dd2 := Bl.cell hbB dd1
        refine ⟨dd2, ?_⟩
        repeat (first | (refine wpWay_take rfl (by rfl) (by intro w hSw; (try dsimp only at hSw); first | (go_simp; done) | (go_simp; with_reducible rfl)) ?_; try simp only [Act.put, List.setIfInBounds_toArray, List.set_cons_zero, List.set_cons_succ]) | (refine wpWay_skip rfl (by rfl) ?_; try simp only [Act.put, List.setIfInBounds_toArray, List.set_cons_zero, List.set_cons_succ]))
        refine wpWay_ev rfl (fun K hK => ?_) wpWay_stop
        go_wp2_with fail
        refine (samePair_any s1 (.slice A4 W.length cc4) _ _ _ hoB.is (HW.out.bl (Bl.trans (Bl.trans (Bl.refl _).drew hbA) hbB))).mono ?_
        rintro e a3 ⟨rfl, hbC⟩
        rw [decide_eq_true HQ3.out]
        go_wp2_with fail
        have dd3 := Bl.cell hbC dd2
        refine ⟨dd3, ?_⟩
        repeat (first | (refine wpWay_take rfl (by rfl) (by intro w hSw; (try dsimp only at hSw); first | (go_simp; done) | (go_simp; with_reducible rfl)) ?_; try simp only [Act.put, List.setIfInBounds_toArray, List.set_cons_zero, List.set_cons_succ]) | (refine wpWay_skip rfl (by rfl) ?_; try simp only [Act.put, List.setIfInBounds_toArray, List.set_cons_zero, List.set_cons_succ]))
        refine wpWay_ev rfl (fun K hK => ?_) wpWay_stop
        go_wp2_with fail
        refine (spots_any (.slice (some ad) cn cc) (c0 :: cl) _ (HCC.out.bl (Bl.trans (Bl.trans (Bl.trans (Bl.refl _).drew hbA) hbB) hbC)) HC1.out (by have := HC2.out; omega)).mono ?_
        rintro e a4 ⟨s2, rfl, hoD, hbD⟩
        go_wp2_with fail
        have dd4 := Bl.cell hbD dd3
        refine ⟨dd4, ?_⟩
        repeat (first | (refine wpWay_take rfl (by rfl) (by intro w hSw; (try dsimp only at hSw); first | (go_simp; done) | (go_simp; with_reducible rfl)) ?_; try simp only [Act.put, List.setIfInBounds_toArray, List.set_cons_zero, List.set_cons_succ]) | (refine wpWay_skip rfl (by rfl) ?_; try simp only [Act.put, List.setIfInBounds_toArray, List.set_cons_zero, List.set_cons_succ]))
        refine wpWay_ev rfl (fun K hK => ?_) wpWay_stop
        go_wp2_with fail
        refine (samePair_any s2 V3 _ _ _ hoD.is (HI3.out _ (HYY.out.bl (Bl.trans (Bl.trans (Bl.trans (Bl.trans (Bl.refl _).drew hbA) hbB) hbC) hbD)))).mono ?_
        rintro e a5 ⟨rfl, hbE⟩
        rw [decide_eq_true HQ4.out]
        go_wp2_with fail
        have dd5 := Bl.cell hbE dd4
        refine ⟨dd5, ?_⟩
        repeat (first | (refine wpWay_take rfl (by rfl) (by intro w hSw; (try dsimp only at hSw); first | (go_simp; done) | (go_simp; with_reducible rfl)) ?_; try simp only [Act.put, List.setIfInBounds_toArray, List.set_cons_zero, List.set_cons_succ]) | (refine wpWay_skip rfl (by rfl) ?_; try simp only [Act.put, List.setIfInBounds_toArray, List.set_cons_zero, List.set_cons_succ]))
        refine wpWay_ev rfl (fun K hK => ?_) wpWay_stop
        go_wp2_with fail
        refine (wakes18_any _).mono ?_
        rintro e a6 ⟨rfl, hbF⟩
        go_wp2_with fail
        have dd6 := Bl.cell hbF dd5
        refine ⟨dd6, ?_⟩
        repeat (first | (refine wpWay_take rfl (by rfl) (by intro w hSw; (try dsimp only at hSw); first | (go_simp; done) | (go_simp; with_reducible rfl)) ?_; try simp only [Act.put, List.setIfInBounds_toArray, List.set_cons_zero, List.set_cons_succ]) | (refine wpWay_skip rfl (by rfl) ?_; try simp only [Act.put, List.setIfInBounds_toArray, List.set_cons_zero, List.set_cons_succ]))
        refine wpWay_done ?_
        all_goals
          go_wp2
          go_ret
          exact ⟨rfl, HB3.out.trans (Bl.trans (Bl.trans (Bl.trans (Bl.trans (Bl.trans (Bl.trans (Bl.refl _).drew hbA) hbB) hbC) hbD) hbE) hbF)⟩
end Go.Proofs.Ytaedelhdandflaa.ExtW
