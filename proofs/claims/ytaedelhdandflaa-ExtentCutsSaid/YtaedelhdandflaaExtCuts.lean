/- The walk of overdublaw18.ExtentCuts. -/
import Derived.Test.YtaedelhdandflaaFindEq
import Derived.Test.YtaedelhdandflaaSameInt
import Derived.Test.YtaedelhdandflaaRefSpliceW
namespace Go.Proofs.Ytaedelhdandflaa.ExtW
open Go.RowKit Go.Ov Go.Proofs.Ytaedelhdandflaa.Need

set_option maxRecDepth 100000 in
set_option maxHeartbeats 4000000 in
theorem cuts_walk (v : Value) (l : List Ext) (fr tt by_ : Int) (raw : Bool) (w : World) (h : ArgExts w v l) (hfr : -9223372036854775808 ≤ fr ∧ fr ≤ 9223372036854775807) (_ : -9223372036854775808 ≤ tt ∧ tt ≤ 9223372036854775807) (_ : -9223372036854775808 ≤ by_ ∧ by_ ≤ 9223372036854775807) :
    Calls Try.prog 10 #[v, .int .i64 fr, .int .i64 tt, .int .i64 by_, .bool raw] w fun e w' => e = .returned (.bool true) ∧ Bl w w' := by
  have HL := Lib.hid h.1
  clear h
  have HB := Lib.hid (Bl.refl w)
  cases raw with
  | true =>
    go_enter Try.func10, Try.ntmps10
    go_wp2_with fail
    refine (kcutExt_any _ _ 10 _ HL.out (by decide)).mono ?_
    rintro e x_2 ⟨s0, rfl, ho, rfl⟩
    have HS0 := Lib.hid ho
    clear ho
    go_wp2_with fail
    refine (copyExt_any _ _ _ HS0.out (by rw [List.length_take]; omega)).mono ?_
    rintro e x_3 ⟨s, rfl, ho, hb⟩
    have HS := Lib.hid ho.is
    clear ho
    try replace HL := Lib.hid (HL.out.bl hb)
    try replace HB := Lib.hid (HB.out.bl hb)
    try replace HS0 := Lib.hid (HS0.out.bl hb)
    try replace HS := Lib.hid (HS.out.bl hb)
    clear hb
    generalize l.take 10 = m at *
    go_wp2_with fail
    refine (valid_any _ _ _ HS.out).mono ?_
    rintro e x_4 ⟨rfl, hb⟩
    try replace HL := Lib.hid (HL.out.bl hb)
    try replace HB := Lib.hid (HB.out.bl hb)
    try replace HS0 := Lib.hid (HS0.out.bl hb)
    try replace HS := Lib.hid (HS.out.bl hb)
    clear hb
    go_wp2_with fail
    refine (rvalid_any _ _ _ HS.out).mono ?_
    rintro e x_5 ⟨rfl, hb⟩
    try replace HL := Lib.hid (HL.out.bl hb)
    try replace HB := Lib.hid (HB.out.bl hb)
    try replace HS0 := Lib.hid (HS0.out.bl hb)
    try replace HS := Lib.hid (HS.out.bl hb)
    clear hb
    go_wp2_with fail
    refine (wakes18_any _).mono ?_
    rintro e x_6 ⟨rfl, hb⟩
    try replace HL := Lib.hid (HL.out.bl hb)
    try replace HB := Lib.hid (HB.out.bl hb)
    try replace HS0 := Lib.hid (HS0.out.bl hb)
    try replace HS := Lib.hid (HS.out.bl hb)
    clear hb
    go_wp2
    go_ret
    exact ⟨rfl, HB.out⟩
  | false =>
    go_enter Try.func10, Try.ntmps10
    go_wp2_with fail
    refine (row16_any _ _ 16 _ HL.out (by decide)).mono ?_
    rintro e x_1 ⟨r, rfl, ho, hb⟩
    have HR := Lib.hid ho.is
    clear ho
    try replace HL := Lib.hid (HL.out.bl hb)
    try replace HB := Lib.hid (HB.out.bl hb)
    try replace HS0 := Lib.hid (HS0.out.bl hb)
    try replace HS := Lib.hid (HS.out.bl hb)
    try replace HR := Lib.hid (HR.out.bl hb)
    clear hb
    have hRv := rowM_valid l 16
    generalize rowM l 16 = R at *
    have HRv := Lib.hid hRv
    have rl := valid_len R hRv
    have b1 := valid_bd R 0 (by decide) hRv
    have HE := Lib.hid (show wrap64 (endM R) = endM R from wrap_id (by omega) (by omega))
    have HF := Lib.hid (find_same R 0 fr 0 (by decide) (by decide) hfr.2 hRv)
    have HX2 := Lib.hid (show cutM (max fr 0) (min tt (wrap64 (endM R))) R = cutM fr tt R by rw [wrap_id (by omega) (by omega)]; exact cut_clamp R 0 fr tt (endM R) (by decide) (by decide) hRv (by omega))
    clear hRv HL
    go_upto_region 5 with (fail)
    go_cut [38] (fun v3 wc => ∃ b, v3 = .bool b ∧ wc = x_1)
    case first =>
      go_wp2_with fail
      all_goals
        go_meet
        exact ⟨_, rfl, rfl⟩
    case rest =>
    obtain ⟨b, rfl, rfl⟩ := hcut
    go_upto_if 38 with (fail)
    go_cut [3] (fun v3 wd => ∃ b, v3 = .int .i64 b ∧ wd = wc)
    case first =>
      cases b with
      | true =>
        go_wp2_with fail
        refine (within_any _ _ _ (by omega)).mono ?_
        rintro e x_4 ⟨rfl, rfl⟩
        go_wp2_with fail
        go_meet
        exact ⟨_, rfl, rfl⟩
      | false =>
        go_wp2_with fail
        go_meet
        exact ⟨_, rfl, rfl⟩
    case rest =>
    obtain ⟨by2, rfl, rfl⟩ := hcut
    go_wp2_with fail
    refine (copyExt_any _ _ _ HR.out (by omega)).mono ?_
    rintro e y_1 ⟨x, rfl, ho, hb⟩
    have HX := Lib.hid ho.is
    clear ho
    try replace HL := Lib.hid (HL.out.bl hb)
    try replace HB := Lib.hid (HB.out.bl hb)
    try replace HS0 := Lib.hid (HS0.out.bl hb)
    try replace HS := Lib.hid (HS.out.bl hb)
    try replace HR := Lib.hid (HR.out.bl hb)
    try replace HRv := Lib.hid (HRv.out.bl hb)
    try replace HE := Lib.hid (HE.out.bl hb)
    try replace HF := Lib.hid (HF.out.bl hb)
    try replace HX2 := Lib.hid (HX2.out.bl hb)
    try replace HX := Lib.hid (HX.out.bl hb)
    clear hb
    have KX := HX
    have KR := HR
    have KB := HB
    have HD := Lib.hid (Bl.refl y_1)
    go_wp2_with fail
    refine (cut_any _ _ _ _ _ HX.out (by omega)).mono ?_
    rintro e y_2 ⟨a, rfl, ho, hb⟩
    have HA := Lib.hid ho
    clear ho
    try replace HL := Lib.hid (HL.out.bl hb)
    try replace HB := Lib.hid (HB.out.bl hb)
    try replace HS0 := Lib.hid (HS0.out.bl hb)
    try replace HS := Lib.hid (HS.out.bl hb)
    try replace HR := Lib.hid (HR.out.bl hb)
    try replace HRv := Lib.hid (HRv.out.bl hb)
    try replace HE := Lib.hid (HE.out.bl hb)
    try replace HF := Lib.hid (HF.out.bl hb)
    try replace HX2 := Lib.hid (HX2.out.bl hb)
    try replace HX := Lib.hid (HX.out.bl hb)
    try replace HD := Lib.hid (HD.out.bl hb)
    try replace HA := Lib.hid (HA.out.bl hb)
    clear hb
    go_wp2_with fail
    refine (find_any _ _ _ _ HX.out).mono ?_
    rintro e y_3 ⟨rfl, hb⟩
    try replace HL := Lib.hid (HL.out.bl hb)
    try replace HB := Lib.hid (HB.out.bl hb)
    try replace HS0 := Lib.hid (HS0.out.bl hb)
    try replace HS := Lib.hid (HS.out.bl hb)
    try replace HR := Lib.hid (HR.out.bl hb)
    try replace HRv := Lib.hid (HRv.out.bl hb)
    try replace HE := Lib.hid (HE.out.bl hb)
    try replace HF := Lib.hid (HF.out.bl hb)
    try replace HX2 := Lib.hid (HX2.out.bl hb)
    try replace HX := Lib.hid (HX.out.bl hb)
    try replace HD := Lib.hid (HD.out.bl hb)
    try replace HA := Lib.hid (HA.out.bl hb)
    clear hb
    go_wp2_with fail
    refine (rfind_any _ _ _ _ HR.out).mono ?_
    rintro e y_4 ⟨rfl, hb⟩
    rw [← HF.out]
    try replace HL := Lib.hid (HL.out.bl hb)
    try replace HB := Lib.hid (HB.out.bl hb)
    try replace HS0 := Lib.hid (HS0.out.bl hb)
    try replace HS := Lib.hid (HS.out.bl hb)
    try replace HR := Lib.hid (HR.out.bl hb)
    try replace HRv := Lib.hid (HRv.out.bl hb)
    try replace HE := Lib.hid (HE.out.bl hb)
    try replace HF := Lib.hid (HF.out.bl hb)
    try replace HX2 := Lib.hid (HX2.out.bl hb)
    try replace HX := Lib.hid (HX.out.bl hb)
    try replace HD := Lib.hid (HD.out.bl hb)
    try replace HA := Lib.hid (HA.out.bl hb)
    clear hb
    go_wp2_with fail
    refine (valid_any _ _ _ HX.out).mono ?_
    rintro e y_5 ⟨rfl, hb⟩
    rw [HRv.out]
    try replace HL := Lib.hid (HL.out.bl hb)
    try replace HB := Lib.hid (HB.out.bl hb)
    try replace HS0 := Lib.hid (HS0.out.bl hb)
    try replace HS := Lib.hid (HS.out.bl hb)
    try replace HR := Lib.hid (HR.out.bl hb)
    try replace HRv := Lib.hid (HRv.out.bl hb)
    try replace HE := Lib.hid (HE.out.bl hb)
    try replace HF := Lib.hid (HF.out.bl hb)
    try replace HX2 := Lib.hid (HX2.out.bl hb)
    try replace HX := Lib.hid (HX.out.bl hb)
    try replace HD := Lib.hid (HD.out.bl hb)
    try replace HA := Lib.hid (HA.out.bl hb)
    clear hb
    go_wp2_with fail
    refine (end_eq _ _ _ HX.out HE.out).mono ?_
    rintro e y_6 ⟨rfl, hb⟩
    try replace HL := Lib.hid (HL.out.bl hb)
    try replace HB := Lib.hid (HB.out.bl hb)
    try replace HS0 := Lib.hid (HS0.out.bl hb)
    try replace HS := Lib.hid (HS.out.bl hb)
    try replace HR := Lib.hid (HR.out.bl hb)
    try replace HRv := Lib.hid (HRv.out.bl hb)
    try replace HE := Lib.hid (HE.out.bl hb)
    try replace HF := Lib.hid (HF.out.bl hb)
    try replace HX2 := Lib.hid (HX2.out.bl hb)
    try replace HX := Lib.hid (HX.out.bl hb)
    try replace HD := Lib.hid (HD.out.bl hb)
    try replace HA := Lib.hid (HA.out.bl hb)
    clear hb
    go_wp2_with fail
    refine (rend_eq _ _ _ HR.out HE.out).mono ?_
    rintro e y_7 ⟨rfl, rfl⟩
    go_wp2_with fail
    refine (rcut_eq _ _ _ _ _ HR.out (by omega) HX2.out).mono ?_
    rintro e z_1 ⟨a2, rfl, ho, hb⟩
    have HA2 := Lib.hid ho.is
    clear ho
    try replace HL := Lib.hid (HL.out.bl hb)
    try replace HB := Lib.hid (HB.out.bl hb)
    try replace HS0 := Lib.hid (HS0.out.bl hb)
    try replace HS := Lib.hid (HS.out.bl hb)
    try replace HR := Lib.hid (HR.out.bl hb)
    try replace HRv := Lib.hid (HRv.out.bl hb)
    try replace HE := Lib.hid (HE.out.bl hb)
    try replace HF := Lib.hid (HF.out.bl hb)
    try replace HX2 := Lib.hid (HX2.out.bl hb)
    try replace HX := Lib.hid (HX.out.bl hb)
    try replace HD := Lib.hid (HD.out.bl hb)
    try replace HA := Lib.hid (HA.out.bl hb)
    try replace HA2 := Lib.hid (HA2.out.bl hb)
    clear hb
    go_wp2_with fail
    refine (sameExt_any _ _ _ _ _ HA.out.is HA2.out).mono ?_
    rintro e z_2 ⟨rfl, hb⟩
    rw [decide_eq_true (show cutM fr tt R = cutM fr tt R from rfl)]
    try replace HL := Lib.hid (HL.out.bl hb)
    try replace HB := Lib.hid (HB.out.bl hb)
    try replace HS0 := Lib.hid (HS0.out.bl hb)
    try replace HS := Lib.hid (HS.out.bl hb)
    try replace HR := Lib.hid (HR.out.bl hb)
    try replace HRv := Lib.hid (HRv.out.bl hb)
    try replace HE := Lib.hid (HE.out.bl hb)
    try replace HF := Lib.hid (HF.out.bl hb)
    try replace HX2 := Lib.hid (HX2.out.bl hb)
    try replace HX := Lib.hid (HX.out.bl hb)
    try replace HD := Lib.hid (HD.out.bl hb)
    try replace HA := Lib.hid (HA.out.bl hb)
    try replace HA2 := Lib.hid (HA2.out.bl hb)
    clear hb
    go_wp2_with fail
    refine (shift_any _ _ _ _ HX.out (by omega)).mono ?_
    rintro e z_3 ⟨a3, rfl, ho, hb⟩
    have HA3 := Lib.hid ho.is
    clear ho
    try replace HL := Lib.hid (HL.out.bl hb)
    try replace HB := Lib.hid (HB.out.bl hb)
    try replace HS0 := Lib.hid (HS0.out.bl hb)
    try replace HS := Lib.hid (HS.out.bl hb)
    try replace HR := Lib.hid (HR.out.bl hb)
    try replace HRv := Lib.hid (HRv.out.bl hb)
    try replace HE := Lib.hid (HE.out.bl hb)
    try replace HF := Lib.hid (HF.out.bl hb)
    try replace HX2 := Lib.hid (HX2.out.bl hb)
    try replace HX := Lib.hid (HX.out.bl hb)
    try replace HD := Lib.hid (HD.out.bl hb)
    try replace HA := Lib.hid (HA.out.bl hb)
    try replace HA2 := Lib.hid (HA2.out.bl hb)
    try replace HA3 := Lib.hid (HA3.out.bl hb)
    clear hb
    go_wp2_with fail
    refine (rshift_any _ _ _ _ HR.out (by omega)).mono ?_
    rintro e z_4 ⟨a4, rfl, ho, hb⟩
    have HA4 := Lib.hid ho.is
    clear ho
    try replace HL := Lib.hid (HL.out.bl hb)
    try replace HB := Lib.hid (HB.out.bl hb)
    try replace HS0 := Lib.hid (HS0.out.bl hb)
    try replace HS := Lib.hid (HS.out.bl hb)
    try replace HR := Lib.hid (HR.out.bl hb)
    try replace HRv := Lib.hid (HRv.out.bl hb)
    try replace HE := Lib.hid (HE.out.bl hb)
    try replace HF := Lib.hid (HF.out.bl hb)
    try replace HX2 := Lib.hid (HX2.out.bl hb)
    try replace HX := Lib.hid (HX.out.bl hb)
    try replace HD := Lib.hid (HD.out.bl hb)
    try replace HA := Lib.hid (HA.out.bl hb)
    try replace HA2 := Lib.hid (HA2.out.bl hb)
    try replace HA3 := Lib.hid (HA3.out.bl hb)
    try replace HA4 := Lib.hid (HA4.out.bl hb)
    clear hb
    go_wp2_with fail
    refine (sameExt_any _ _ _ _ _ HA3.out HA4.out).mono ?_
    rintro e z_5 ⟨rfl, hb⟩
    rw [decide_eq_true (show shiftM by2 R = shiftM by2 R from rfl)]
    try replace HL := Lib.hid (HL.out.bl hb)
    try replace HB := Lib.hid (HB.out.bl hb)
    try replace HS0 := Lib.hid (HS0.out.bl hb)
    try replace HS := Lib.hid (HS.out.bl hb)
    try replace HR := Lib.hid (HR.out.bl hb)
    try replace HRv := Lib.hid (HRv.out.bl hb)
    try replace HE := Lib.hid (HE.out.bl hb)
    try replace HF := Lib.hid (HF.out.bl hb)
    try replace HX2 := Lib.hid (HX2.out.bl hb)
    try replace HX := Lib.hid (HX.out.bl hb)
    try replace HD := Lib.hid (HD.out.bl hb)
    try replace HA := Lib.hid (HA.out.bl hb)
    try replace HA2 := Lib.hid (HA2.out.bl hb)
    try replace HA3 := Lib.hid (HA3.out.bl hb)
    try replace HA4 := Lib.hid (HA4.out.bl hb)
    clear hb
    go_wp2_with fail
    refine (sectors_any _ _ _ HX.out (by omega)).mono ?_
    rintro e z_6 ⟨a5, rfl, ho, hb⟩
    have HA5 := Lib.hid ho.is
    clear ho
    try replace HL := Lib.hid (HL.out.bl hb)
    try replace HB := Lib.hid (HB.out.bl hb)
    try replace HS0 := Lib.hid (HS0.out.bl hb)
    try replace HS := Lib.hid (HS.out.bl hb)
    try replace HR := Lib.hid (HR.out.bl hb)
    try replace HRv := Lib.hid (HRv.out.bl hb)
    try replace HE := Lib.hid (HE.out.bl hb)
    try replace HF := Lib.hid (HF.out.bl hb)
    try replace HX2 := Lib.hid (HX2.out.bl hb)
    try replace HX := Lib.hid (HX.out.bl hb)
    try replace HD := Lib.hid (HD.out.bl hb)
    try replace HA := Lib.hid (HA.out.bl hb)
    try replace HA2 := Lib.hid (HA2.out.bl hb)
    try replace HA3 := Lib.hid (HA3.out.bl hb)
    try replace HA4 := Lib.hid (HA4.out.bl hb)
    try replace HA5 := Lib.hid (HA5.out.bl hb)
    clear hb
    go_wp2_with fail
    refine (rsectors_any _ _ _ HR.out (by omega)).mono ?_
    rintro e z_7 ⟨a6, rfl, ho, hb⟩
    have HA6 := Lib.hid ho
    clear ho
    try replace HL := Lib.hid (HL.out.bl hb)
    try replace HB := Lib.hid (HB.out.bl hb)
    try replace HS0 := Lib.hid (HS0.out.bl hb)
    try replace HS := Lib.hid (HS.out.bl hb)
    try replace HR := Lib.hid (HR.out.bl hb)
    try replace HRv := Lib.hid (HRv.out.bl hb)
    try replace HE := Lib.hid (HE.out.bl hb)
    try replace HF := Lib.hid (HF.out.bl hb)
    try replace HX2 := Lib.hid (HX2.out.bl hb)
    try replace HX := Lib.hid (HX.out.bl hb)
    try replace HD := Lib.hid (HD.out.bl hb)
    try replace HA := Lib.hid (HA.out.bl hb)
    try replace HA2 := Lib.hid (HA2.out.bl hb)
    try replace HA3 := Lib.hid (HA3.out.bl hb)
    try replace HA4 := Lib.hid (HA4.out.bl hb)
    try replace HA5 := Lib.hid (HA5.out.bl hb)
    try replace HA6 := Lib.hid (HA6.out.bl hb)
    clear hb
    go_wp2_with fail
    refine (sameInt_any _ _ _ _ _ HA5.out HA6.out).mono ?_
    rintro e z_8 ⟨rfl, hb⟩
    rw [decide_eq_true (show sortedM (R.map Ext.sector) = sortedM (R.map Ext.sector) from rfl)]
    try replace HL := Lib.hid (HL.out.bl hb)
    try replace HB := Lib.hid (HB.out.bl hb)
    try replace HS0 := Lib.hid (HS0.out.bl hb)
    try replace HS := Lib.hid (HS.out.bl hb)
    try replace HR := Lib.hid (HR.out.bl hb)
    try replace HRv := Lib.hid (HRv.out.bl hb)
    try replace HE := Lib.hid (HE.out.bl hb)
    try replace HF := Lib.hid (HF.out.bl hb)
    try replace HX2 := Lib.hid (HX2.out.bl hb)
    try replace HX := Lib.hid (HX.out.bl hb)
    try replace HD := Lib.hid (HD.out.bl hb)
    try replace HA := Lib.hid (HA.out.bl hb)
    try replace HA2 := Lib.hid (HA2.out.bl hb)
    try replace HA3 := Lib.hid (HA3.out.bl hb)
    try replace HA4 := Lib.hid (HA4.out.bl hb)
    try replace HA5 := Lib.hid (HA5.out.bl hb)
    try replace HA6 := Lib.hid (HA6.out.bl hb)
    clear hb
    have hcl := Nat.le_trans (cutM_len fr tt R) rl
    have hcut := Enc.Own.parts HA.out
    generalize cutM fr tt R = CM at *
    clear HA HA2 HA3 HA4 HA5 HA6 HX HR HB HF HX2
    rcases hcut with ⟨rfl, h0⟩ | ⟨g, ca, rfl, hO⟩
    · clear h0
      go_wp2_with fail
      go_loopg [104] 0 (fun gk i wr => i = .int .i64 0 ∧ Hid (Bl y_1 wr))
      case atStart => exact ⟨rfl, HD⟩
      case round =>
        obtain ⟨rfl, HDD⟩ := hrel
        go_wp2_with fail
        refine (sameExt_any _ _ _ _ _ (KX.out.bl HDD.out) (KR.out.bl HDD.out)).mono ?_
        rintro e t_1 ⟨rfl, hb⟩
        rw [decide_eq_true (show R = R from rfl)]
        have HD1 := Lib.hid (HDD.out.bl hb)
        clear hb
        go_wp2_with fail
        refine (wakes18_any _).mono ?_
        rintro e t_2 ⟨rfl, hb⟩
        go_wp2
        go_ret
        exact ⟨rfl, KB.out.trans (HD1.out.trans hb)⟩
    · have HO := Lib.hid hO
      clear hO
      obtain ⟨n, hn⟩ : ∃ n, CM.length = n := ⟨_, rfl⟩
      have hnb : n ≤ 1000 := by omega
      have HO1 := Lib.hid (show OwnBlk 34 z_8 y_1.heap.size g (n * extE.sz) by rw [← hn]; exact HO.out)
      rw [hn]
      clear hn hcl HO
      have HO := Lib.hid HO1.out
      clear HO1
      go_wp2_with fail
      go_loopg [104] n (fun gk i wr => ∃ k : Nat, k ≤ n ∧ gk = n - k ∧ i = .int .i64 k ∧ Hid (OwnBlk 34 wr y_1.heap.size g (n * extE.sz)) ∧ Hid (Bl y_1 wr))
      case atStart => exact ⟨0, by omega, rfl, rfl, HO, HD⟩
      case round =>
        obtain ⟨k, hk, rfl, rfl, HO2, HDD⟩ := hrel
        clear HO HD
        by_cases hlt : k < n
        · have hlti : (k : Int) < n := by omega
          obtain ⟨⟨u, hu⟩, hf⟩ := HO2.out.cell (k * 5 + 4) (by show k * 5 + 4 < n * 5; omega)
          go_wp2
          go_roundg (n - (k + 1))
          case measure => omega
          case rel => exact ⟨k + 1, by omega, rfl, by go_num, HO2.out.set _ _, HDD.out.set _ _ _ HO2.out.1⟩
        · skip
          go_wp2_with fail
          refine (sameExt_any _ _ _ _ _ (KX.out.bl HDD.out) (KR.out.bl HDD.out)).mono ?_
          rintro e t_1 ⟨rfl, hb⟩
          rw [decide_eq_true (show R = R from rfl)]
          have HD1 := Lib.hid (HDD.out.bl hb)
          clear hb
          go_wp2_with fail
          refine (wakes18_any _).mono ?_
          rintro e t_2 ⟨rfl, hb⟩
          go_wp2
          go_ret
          exact ⟨rfl, KB.out.trans (HD1.out.trans hb)⟩
end Go.Proofs.Ytaedelhdandflaa.ExtW
