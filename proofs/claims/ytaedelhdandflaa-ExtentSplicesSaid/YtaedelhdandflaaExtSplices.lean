/- The walk of overdublaw18.ExtentSplices. -/
import Derived.Test.YtaedelhdandflaaRefSpliceW
namespace Go.Proofs.Ytaedelhdandflaa.ExtW
open Go.RowKit Go.Ov Go.Proofs.Ytaedelhdandflaa.Need

set_option maxRecDepth 100000 in
set_option maxHeartbeats 4000000 in
theorem splices_walk (v : Value) (l : List Ext) (u : Value) (m : List Ext) (fr tt : Int) (raw : Bool) (w : World) (h : ArgExts w v l) (h' : ArgExts w u m) (_ : -9223372036854775808 ≤ fr ∧ fr ≤ 9223372036854775807) (_ : -9223372036854775808 ≤ tt ∧ tt ≤ 9223372036854775807) :
    Calls Try.prog 6 #[v, u, .int .i64 fr, .int .i64 tt, .bool raw] w fun e w' => e = .returned (.bool true) ∧ Bl w w' := by
  have HL := Lib.hid h.1
  have HM := Lib.hid h'.1
  clear h h'
  have HB := Lib.hid (Bl.refl w)
  go_enter Try.func6, Try.ntmps6
  go_wp2_with fail
  refine (row16_any _ _ 16 _ HL.out (by decide)).mono ?_
  rintro e x_1 ⟨r, rfl, ho, hb⟩
  have HR := Lib.hid ho.is
  clear ho
  try replace HL := Lib.hid (HL.out.bl hb)
  try replace HM := Lib.hid (HM.out.bl hb)
  try replace HB := Lib.hid (HB.out.bl hb)
  try replace HR := Lib.hid (HR.out.bl hb)
  clear hb
  go_upto_if 19 with (fail)
  go_cut [1] (fun v1 wc => ∃ M, Hid (extE.Is wc v1 M ∧ M.length ≤ 1000) ∧ Hid (Bl x_1 wc))
  case first =>
    cases raw with
    | true =>
      go_wp2_with fail
      refine (kcutExt_any _ _ 5 _ HM.out (by decide)).mono ?_
      rintro e x_2 ⟨s0, rfl, ho, rfl⟩
      have HS0 := Lib.hid ho
      clear ho
      go_wp2_with fail
      refine (copyExt_any _ _ _ HS0.out (by rw [List.length_take]; omega)).mono ?_
      rintro e x_3 ⟨s, rfl, ho, hb⟩
      have HS := Lib.hid ho.is
      go_wp2_with fail
      go_meet
      exact ⟨_, Lib.hid ⟨HS.out, by rw [List.length_take]; omega⟩, Lib.hid hb⟩
    | false =>
      go_wp2_with fail
      refine (row16_any _ _ 6 _ HM.out (by decide)).mono ?_
      rintro e x_3 ⟨s, rfl, ho, hb⟩
      have HS := Lib.hid ho.is
      go_wp2_with fail
      go_meet
      exact ⟨_, Lib.hid ⟨HS.out, Nat.le_trans (rowM_len _ _) (by decide)⟩, Lib.hid hb⟩
  case rest =>
    obtain ⟨M, HS', hb⟩ := hcut
    have HS := Lib.hid HS'.out.1
    have hml := HS'.out.2
    clear HS' HM HL
    replace hb := hb.out
    try replace HL := Lib.hid (HL.out.bl hb)
    try replace HM := Lib.hid (HM.out.bl hb)
    try replace HB := Lib.hid (HB.out.bl hb)
    try replace HR := Lib.hid (HR.out.bl hb)
    try replace HS0 := Lib.hid (HS0.out.bl hb)
    try replace HS := Lib.hid (HS.out.bl hb)
    clear hb
    have hRv := rowM_valid l 16
    generalize rowM l 16 = R at *
    have HRv := Lib.hid hRv
    have rl := valid_len R hRv
    clear hRv
    go_wp2_with fail
    refine (copyExt_any _ _ _ HR.out (by omega)).mono ?_
    rintro e x_4 ⟨x, rfl, ho, hb⟩
    have HX := Lib.hid ho.is
    clear ho
    try replace HL := Lib.hid (HL.out.bl hb)
    try replace HM := Lib.hid (HM.out.bl hb)
    try replace HB := Lib.hid (HB.out.bl hb)
    try replace HR := Lib.hid (HR.out.bl hb)
    try replace HS0 := Lib.hid (HS0.out.bl hb)
    try replace HS := Lib.hid (HS.out.bl hb)
    try replace HRv := Lib.hid (HRv.out.bl hb)
    try replace HX := Lib.hid (HX.out.bl hb)
    clear hb
    go_wp2_with fail
    refine (copyExt_any _ _ _ HS.out (by omega)).mono ?_
    rintro e x_5 ⟨y, rfl, ho, hb⟩
    have HY := Lib.hid ho.is
    clear ho
    try replace HL := Lib.hid (HL.out.bl hb)
    try replace HM := Lib.hid (HM.out.bl hb)
    try replace HB := Lib.hid (HB.out.bl hb)
    try replace HR := Lib.hid (HR.out.bl hb)
    try replace HS0 := Lib.hid (HS0.out.bl hb)
    try replace HS := Lib.hid (HS.out.bl hb)
    try replace HRv := Lib.hid (HRv.out.bl hb)
    try replace HX := Lib.hid (HX.out.bl hb)
    try replace HY := Lib.hid (HY.out.bl hb)
    clear hb
    obtain ⟨RS, code, hrs⟩ : ∃ RS code, spliceM R fr tt M = (RS, code) := ⟨_, _, rfl⟩
    have HP := Lib.hid hrs
    clear hrs
    go_wp2_with fail
    refine (splice_eq _ _ _ _ _ _ _ HX.out HY.out HRv.out (by omega) HP.out).mono ?_
    rintro e x_6 ⟨z, rfl, ho, hb⟩
    have HZ := Lib.hid ho.is
    clear ho
    try replace HL := Lib.hid (HL.out.bl hb)
    try replace HM := Lib.hid (HM.out.bl hb)
    try replace HB := Lib.hid (HB.out.bl hb)
    try replace HR := Lib.hid (HR.out.bl hb)
    try replace HS0 := Lib.hid (HS0.out.bl hb)
    try replace HS := Lib.hid (HS.out.bl hb)
    try replace HRv := Lib.hid (HRv.out.bl hb)
    try replace HX := Lib.hid (HX.out.bl hb)
    try replace HY := Lib.hid (HY.out.bl hb)
    try replace HP := Lib.hid (HP.out.bl hb)
    try replace HZ := Lib.hid (HZ.out.bl hb)
    clear hb
    go_wp2_with fail
    refine (rsplice_eq _ _ _ _ _ _ _ HR.out HS.out HRv.out (by omega) HP.out).mono ?_
    rintro e x_7 ⟨z', rfl, ho, hb⟩
    have HZ' := Lib.hid ho.is
    clear ho
    try replace HL := Lib.hid (HL.out.bl hb)
    try replace HM := Lib.hid (HM.out.bl hb)
    try replace HB := Lib.hid (HB.out.bl hb)
    try replace HR := Lib.hid (HR.out.bl hb)
    try replace HS0 := Lib.hid (HS0.out.bl hb)
    try replace HS := Lib.hid (HS.out.bl hb)
    try replace HRv := Lib.hid (HRv.out.bl hb)
    try replace HX := Lib.hid (HX.out.bl hb)
    try replace HY := Lib.hid (HY.out.bl hb)
    try replace HP := Lib.hid (HP.out.bl hb)
    try replace HZ := Lib.hid (HZ.out.bl hb)
    try replace HZ' := Lib.hid (HZ'.out.bl hb)
    clear hb
    go_wp2_with fail
    refine (sameExt_any _ _ _ _ _ HZ.out HZ'.out).mono ?_
    rintro e a1 ⟨rfl, hb1⟩
    rw [decide_eq_true (show RS = RS from rfl)]
    go_wp2_with fail
    refine (sameExt_any _ _ _ _ _ (HX.out.bl hb1) (HR.out.bl hb1)).mono ?_
    rintro e a2 ⟨rfl, hb2⟩
    rw [decide_eq_true (show R = R from rfl)]
    go_wp2_with fail
    refine (sameExt_any _ _ _ _ _ (HY.out.bl (Bl.trans hb1 hb2)) (HS.out.bl (Bl.trans hb1 hb2))).mono ?_
    rintro e a3 ⟨rfl, hb3⟩
    rw [decide_eq_true (show M = M from rfl)]
    go_wp2_with fail
    refine (wakes18_any _).mono ?_
    rintro e a4 ⟨rfl, hb4⟩
    go_wp2
    go_ret
    exact ⟨rfl, HB.out.trans (hb1.trans (hb2.trans (hb3.trans hb4)))⟩
end Go.Proofs.Ytaedelhdandflaa.ExtW
