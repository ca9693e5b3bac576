/- The walk of overdublaw18.ExtentNothing. -/
import Derived.Test.YtaedelhdandflaaSpotsW
import Derived.Test.YtaedelhdandflaaOpenExt
namespace Go.Proofs.Ytaedelhdandflaa.ExtW
open Go.RowKit Go.Ov Go.Proofs.Ytaedelhdandflaa.Need

theorem splice_eq (v u : Value) (l new : List Ext) (fr tt : Int) (w : World) (h : extE.Is w v l) (hn : extE.Is w u new) (hv : validFrom 0 l = true) (hlen : new.length * 40 ≤ 100000000000000) {R : List Ext} {c : Int} (hm : spliceM l fr tt new = (R, c)) :
    Calls Try.prog 24 #[v, .int .i64 fr, .int .i64 tt, u] w fun e w' => ∃ z, e = .returned (.tuple #[z, .int .i64 c]) ∧ extE.Own 34 w' w.heap.size z R ∧ Bl w w' := by
  have := splice_any v u l new fr tt w h hn hv hlen
  rw [hm] at this; exact this
theorem end_eq (v : Value) (l : List Ext) (w : World) (h : extE.Is w v l) {n : Int} (hm : wrap64 (endM l) = n) :
    Calls Try.prog 23 #[v] w fun e w' => e = .returned (.int .i64 n) ∧ Bl w w' := by
  have := end_any v l w h
  rw [hm] at this; exact this

theorem valid_small : ∀ (l : List Ext) (a : Int), validFrom a l = true → ∀ e ∈ l, small e = true
  | [], _, _ => fun e h => by simp at h
  | x :: l, a, hv => by
    obtain ⟨e0, e1, e2, e3, e4, e5, e6, e7, e8, e9⟩ := valid_cons hv
    intro e he
    rcases List.mem_cons.1 he with rfl | he
    · simp [small]; omega
    · exact valid_small l _ e9 e he
theorem valid_len (l : List Ext) (h : validFrom 0 l = true) : l.length ≤ 1000 := by have := validFrom_bd l 0 (by decide) h; omega
theorem shift_zero : ∀ (l : List Ext) (a : Int), 0 ≤ a → a ≤ 1000 → validFrom a l = true → shiftM 0 l = l
  | [], _, _, _, _ => rfl
  | x :: l, a, h0, h1, hv => by
    obtain ⟨e0, e1, e2, e3, e4, e5, e6, e7, e8, e9⟩ := valid_cons hv
    show shiftE 0 x :: shiftM 0 l = x :: l
    rw [shift_zero l (a + x.take) (by omega) e8 e9]
    obtain ⟨x0, x1, x2, x3, x4⟩ := x
    simp only at e0
    simp only [shiftE, Int.add_zero]
    rw [wrap_id (by omega) (by omega)]

set_option maxHeartbeats 1000000 in
theorem wakes18_any (w : World) : Calls Try.prog 28 #[] w fun e w' => e = .returned (.bool true) ∧ Bl w w' := by
  have hu := Try.underlying34
  have hv : validFrom 0 [⟨0, 5, 10, 0, 10⟩] = true := by decide +kernel
  have hm : spliceM [⟨0, 5, 10, 0, 10⟩] 4 6 [] = ([⟨0, 5, 10, 0, 4⟩, ⟨4, 5, 10, 6, 4⟩], 0) := by decide +kernel
  have he : wrap64 (endM [⟨0, 5, 10, 0, 4⟩, ⟨4, 5, 10, 6, 4⟩]) = 8 := by decide +kernel
  have HV := Lib.hid hv
  have HM := Lib.hid hm
  have HE := Lib.hid he
  clear hv hm he
  go_enter Try.func28, Try.ntmps28
  go_wp2_with fail
  refine (splice_eq _ _ [⟨0, 5, 10, 0, 10⟩] [] 4 6 _ (Enc.Own.lit (E := extE) (e := 34) w 0 [⟨0, 5, 10, 0, 10⟩] _ rfl 1 rfl (Nat.zero_le _) (by decide) rfl).is (Enc.Is.nil _) HV.out (by decide) HM.out).mono ?_
  rintro e w1 ⟨z, rfl, ho, hb⟩
  have HO := Lib.hid ho
  have HB := Lib.hid (((Bl.refl w).alloc _).trans hb)
  clear ho hb
  obtain ⟨A, c, rfl⟩ := HO.out.slice
  go_wp2_with fail
  refine (end_eq _ _ _ HO.out.is HE.out).mono ?_
  rintro e w2 ⟨rfl, hb⟩
  go_wp2
  go_ret
  exact ⟨rfl, HB.out.trans hb⟩

/-- what the statement says, of the model -/
theorem nothing_pure (R M : List Ext) (at_ : Int) (hR : validFrom 0 R = true) (hM : validFrom 0 M = true) (h0 : 0 ≤ at_) (h1 : at_ ≤ endM R) :
    spliceM R at_ at_ [] = (spliceL R at_ at_ [], 0) ∧ validFrom 0 (spliceL R at_ at_ []) = true ∧ spotsM (spliceL R at_ at_ []) = spotsM R ∧
    spliceM R 0 (endM R) M = (M, 0) ∧ spliceM R 0 (endM R) [] = ([], 0) ∧ spliceM [] 0 0 M = (M, 0) ∧ spliceM R (endM R + 1) (endM R + 1) [] = ([], 1) ∧ spliceM R 0 (-1) [] = ([], 1) := by
  have b1 := valid_bd R 0 (by decide) hR
  have b2 := valid_bd M 0 (by decide) hM
  have hn : endM [] = 0 := rfl
  have good : ∀ (l : List Ext) (fr tt : Int) (new : List Ext), validFrom 0 new = true → 0 ≤ fr → fr ≤ tt → fr ≤ endM l → fr + endM new + endM l - min tt (endM l) ≤ 1000 → spliceM l fr tt new = (spliceL l fr tt new, 0) := by
    intro l fr tt new h1 h2 h3 h4 h5
    unfold spliceM spliceBad spliceLong
    rw [if_neg (by simp [h1]; omega), if_neg (by simp; omega)]
  have whole : ∀ (l new : List Ext), validFrom 0 l = true → validFrom 0 new = true → spliceL l 0 (endM l) new = new := by
    intro l new hl hn
    unfold spliceL
    rw [cut_nil l 0 0 0 (by decide) hl (by decide), shift_zero new 0 (by decide) (by decide) hn, Int.min_self, cut_nil l 0 _ _ (by decide) hl (by omega)]
    simp [shiftM]
  refine ⟨good _ _ _ _ rfl h0 (Int.le_refl _) h1 (by omega), splice_valid R [] _ _ hR rfl h0 (Int.le_refl _) h1 (by omega), ?_, ?_, ?_, ?_, ?_, ?_⟩
  · rw [splice_spots R [] _ _ hR h0 (Int.le_refl _) h1, Int.min_eq_left h1]
    simp [spotsM]
  · rw [good _ _ _ _ hM (by decide) (by omega) (by omega) (by omega), whole R M hR hM]
  · rw [good _ _ _ _ rfl (by decide) (by omega) (by omega) (by omega), whole R [] hR rfl]
  · rw [good [] 0 0 M hM (by decide) (by decide) (by decide) (by rw [hn]; omega)]; exact congrArg (·, 0) (whole [] M rfl hM)
  · unfold spliceM spliceBad; rw [if_pos (by simp; omega)]
  · unfold spliceM spliceBad; rw [if_pos (by simp)]

set_option maxRecDepth 100000 in
set_option maxHeartbeats 4000000 in
theorem nothing_walk (v : Value) (l : List Ext) (u : Value) (m : List Ext) (at_ : Int) (w : World) (h : ArgExts w v l) (h' : ArgExts w u m) (_ : -9223372036854775808 ≤ at_ ∧ at_ ≤ 9223372036854775807) :
    Calls Try.prog 5 #[v, u, .int .i64 at_] w fun e w' => e = .returned (.bool true) ∧ Bl w w' := by
  have HL := Lib.hid h.1
  have HM := Lib.hid h'.1
  clear h h'
  go_enter Try.func5, Try.ntmps5
  go_wp2_with fail
  refine (row16_any _ _ 12 _ HL.out (by decide)).mono ?_
  rintro e w1 ⟨r, rfl, ho, hb⟩
  have HR := Lib.hid ho
  have HB := Lib.hid hb
  clear ho hb
  go_wp2_with fail
  refine (row16_any _ _ 12 _ (HM.out.bl HB.out) (by decide)).mono ?_
  rintro e w2 ⟨s, rfl, ho, hb⟩
  have HS := Lib.hid ho
  have HB2 := Lib.hid (HB.out.trans hb)
  have HR2 := Lib.hid (HR.out.is.bl hb)
  clear ho hb HB HR HL HM
  have hRv := rowM_valid l 12
  have hMv := rowM_valid m 12
  generalize rowM l 12 = R at *
  generalize rowM m 12 = M at *
  have b1 := valid_bd R 0 (by decide) hRv
  have hE := Lib.hid (show wrap64 (endM R) = endM R from wrap_id (by omega) (by omega))
  have hw := within_bd at_ (endM R + 1) (by omega)
  obtain ⟨q1, q2, q3, q4, q5, q6, q7, q8⟩ := nothing_pure R M (within at_ (endM R + 1)) hRv hMv hw.1 (by omega)
  have Q1 := Lib.hid q1
  have Q2 := Lib.hid q2
  have Q3 := Lib.hid q3
  have Q4 := Lib.hid q4
  have Q5 := Lib.hid q5
  have Q6 := Lib.hid q6
  have Q7 := Lib.hid q7
  have Q8 := Lib.hid q8
  have HRv := Lib.hid hRv
  have HMv := Lib.hid hMv
  have ml := valid_len M hMv
  clear q1 q2 q3 q4 q5 q6 q7 q8 hRv hMv
  generalize haa : within at_ (endM R + 1) = a at *
  have HA := Lib.hid haa
  clear haa
  generalize spliceL R a a [] = SA at *
  have HSM := Lib.hid HS.out.is
  go_wp2_with fail
  refine (end_eq _ _ _ HR2.out hE.out).mono ?_
  rintro e x_1 ⟨rfl, hb⟩
  have HB2_ := Lib.hid (HB2.out.bl hb)
  have HR2_ := Lib.hid (HR2.out.bl hb)
  have HSM_ := Lib.hid (HSM.out.bl hb)
  clear HB2 HR2 HSM
  have HB2 := Lib.hid HB2_.out
  clear HB2_
  have HR2 := Lib.hid HR2_.out
  clear HR2_
  have HSM := Lib.hid HSM_.out
  clear HSM_
  clear hb
  go_wp2_with fail
  refine (within_any _ _ _ (by omega)).mono ?_
  rintro e x_2 ⟨rfl, rfl⟩
  rw [HA.out]
  go_wp2_with fail
  refine (splice_eq _ _ _ _ _ _ _ HR2.out (Enc.Is.nil _) HRv.out (by decide) Q1.out).mono ?_
  rintro e x_3 ⟨za, rfl, ho, hb⟩
  have HOza := Lib.hid (ho.is)
  have HB2_ := Lib.hid (HB2.out.bl hb)
  have HR2_ := Lib.hid (HR2.out.bl hb)
  have HSM_ := Lib.hid (HSM.out.bl hb)
  clear HB2 HR2 HSM
  have HB2 := Lib.hid HB2_.out
  clear HB2_
  have HR2 := Lib.hid HR2_.out
  clear HR2_
  have HSM := Lib.hid HSM_.out
  clear HSM_
  clear ho
  clear hb
  go_wp2_with fail
  refine (end_eq _ _ _ HR2.out hE.out).mono ?_
  rintro e x_4 ⟨rfl, hb⟩
  have HB2_ := Lib.hid (HB2.out.bl hb)
  have HR2_ := Lib.hid (HR2.out.bl hb)
  have HSM_ := Lib.hid (HSM.out.bl hb)
  have HOza_ := Lib.hid (HOza.out.bl hb)
  clear HB2 HR2 HSM HOza
  have HB2 := Lib.hid HB2_.out
  clear HB2_
  have HR2 := Lib.hid HR2_.out
  clear HR2_
  have HSM := Lib.hid HSM_.out
  clear HSM_
  have HOza := Lib.hid HOza_.out
  clear HOza_
  clear hb
  go_wp2_with fail
  refine (splice_eq _ _ _ _ _ _ _ HR2.out HSM.out HRv.out (by omega) Q4.out).mono ?_
  rintro e x_5 ⟨zb, rfl, ho, hb⟩
  have HOzb := Lib.hid (ho.is)
  have HB2_ := Lib.hid (HB2.out.bl hb)
  have HR2_ := Lib.hid (HR2.out.bl hb)
  have HSM_ := Lib.hid (HSM.out.bl hb)
  have HOza_ := Lib.hid (HOza.out.bl hb)
  clear HB2 HR2 HSM HOza
  have HB2 := Lib.hid HB2_.out
  clear HB2_
  have HR2 := Lib.hid HR2_.out
  clear HR2_
  have HSM := Lib.hid HSM_.out
  clear HSM_
  have HOza := Lib.hid HOza_.out
  clear HOza_
  clear ho
  clear hb
  go_wp2_with fail
  refine (end_eq _ _ _ HR2.out hE.out).mono ?_
  rintro e x_6 ⟨rfl, hb⟩
  have HB2_ := Lib.hid (HB2.out.bl hb)
  have HR2_ := Lib.hid (HR2.out.bl hb)
  have HSM_ := Lib.hid (HSM.out.bl hb)
  have HOza_ := Lib.hid (HOza.out.bl hb)
  have HOzb_ := Lib.hid (HOzb.out.bl hb)
  clear HB2 HR2 HSM HOza HOzb
  have HB2 := Lib.hid HB2_.out
  clear HB2_
  have HR2 := Lib.hid HR2_.out
  clear HR2_
  have HSM := Lib.hid HSM_.out
  clear HSM_
  have HOza := Lib.hid HOza_.out
  clear HOza_
  have HOzb := Lib.hid HOzb_.out
  clear HOzb_
  clear hb
  go_wp2_with fail
  refine (splice_eq _ _ _ _ _ _ _ HR2.out (Enc.Is.nil _) HRv.out (by decide) Q5.out).mono ?_
  rintro e x_7 ⟨zc, rfl, ho, hb⟩
  have HOzc := Lib.hid (ho.is)
  have HB2_ := Lib.hid (HB2.out.bl hb)
  have HR2_ := Lib.hid (HR2.out.bl hb)
  have HSM_ := Lib.hid (HSM.out.bl hb)
  have HOza_ := Lib.hid (HOza.out.bl hb)
  have HOzb_ := Lib.hid (HOzb.out.bl hb)
  clear HB2 HR2 HSM HOza HOzb
  have HB2 := Lib.hid HB2_.out
  clear HB2_
  have HR2 := Lib.hid HR2_.out
  clear HR2_
  have HSM := Lib.hid HSM_.out
  clear HSM_
  have HOza := Lib.hid HOza_.out
  clear HOza_
  have HOzb := Lib.hid HOzb_.out
  clear HOzb_
  clear ho
  clear hb
  go_wp2_with fail
  refine (splice_eq _ _ _ _ _ _ _ (Enc.Is.nil _) HSM.out rfl (by omega) Q6.out).mono ?_
  rintro e x_8 ⟨zd, rfl, ho, hb⟩
  have HOzd := Lib.hid (ho.is)
  have HB2_ := Lib.hid (HB2.out.bl hb)
  have HR2_ := Lib.hid (HR2.out.bl hb)
  have HSM_ := Lib.hid (HSM.out.bl hb)
  have HOza_ := Lib.hid (HOza.out.bl hb)
  have HOzb_ := Lib.hid (HOzb.out.bl hb)
  have HOzc_ := Lib.hid (HOzc.out.bl hb)
  clear HB2 HR2 HSM HOza HOzb HOzc
  have HB2 := Lib.hid HB2_.out
  clear HB2_
  have HR2 := Lib.hid HR2_.out
  clear HR2_
  have HSM := Lib.hid HSM_.out
  clear HSM_
  have HOza := Lib.hid HOza_.out
  clear HOza_
  have HOzb := Lib.hid HOzb_.out
  clear HOzb_
  have HOzc := Lib.hid HOzc_.out
  clear HOzc_
  clear ho
  clear hb
  go_wp2_with fail
  refine (end_eq _ _ _ HR2.out hE.out).mono ?_
  rintro e x_9 ⟨rfl, hb⟩
  have HB2_ := Lib.hid (HB2.out.bl hb)
  have HR2_ := Lib.hid (HR2.out.bl hb)
  have HSM_ := Lib.hid (HSM.out.bl hb)
  have HOza_ := Lib.hid (HOza.out.bl hb)
  have HOzb_ := Lib.hid (HOzb.out.bl hb)
  have HOzc_ := Lib.hid (HOzc.out.bl hb)
  have HOzd_ := Lib.hid (HOzd.out.bl hb)
  clear HB2 HR2 HSM HOza HOzb HOzc HOzd
  have HB2 := Lib.hid HB2_.out
  clear HB2_
  have HR2 := Lib.hid HR2_.out
  clear HR2_
  have HSM := Lib.hid HSM_.out
  clear HSM_
  have HOza := Lib.hid HOza_.out
  clear HOza_
  have HOzb := Lib.hid HOzb_.out
  clear HOzb_
  have HOzc := Lib.hid HOzc_.out
  clear HOzc_
  have HOzd := Lib.hid HOzd_.out
  clear HOzd_
  clear hb
  go_wp2_with fail
  refine (end_eq _ _ _ HR2.out hE.out).mono ?_
  rintro e x_10 ⟨rfl, hb⟩
  have HB2_ := Lib.hid (HB2.out.bl hb)
  have HR2_ := Lib.hid (HR2.out.bl hb)
  have HSM_ := Lib.hid (HSM.out.bl hb)
  have HOza_ := Lib.hid (HOza.out.bl hb)
  have HOzb_ := Lib.hid (HOzb.out.bl hb)
  have HOzc_ := Lib.hid (HOzc.out.bl hb)
  have HOzd_ := Lib.hid (HOzd.out.bl hb)
  clear HB2 HR2 HSM HOza HOzb HOzc HOzd
  have HB2 := Lib.hid HB2_.out
  clear HB2_
  have HR2 := Lib.hid HR2_.out
  clear HR2_
  have HSM := Lib.hid HSM_.out
  clear HSM_
  have HOza := Lib.hid HOza_.out
  clear HOza_
  have HOzb := Lib.hid HOzb_.out
  clear HOzb_
  have HOzc := Lib.hid HOzc_.out
  clear HOzc_
  have HOzd := Lib.hid HOzd_.out
  clear HOzd_
  clear hb
  go_wp2_with fail
  refine (splice_eq _ _ _ _ _ _ _ HR2.out (Enc.Is.nil _) HRv.out (by decide) Q7.out).mono ?_
  rintro e x_11 ⟨ze, rfl, ho, hb⟩
  have HOze := Lib.hid (ho.is)
  have HB2_ := Lib.hid (HB2.out.bl hb)
  have HR2_ := Lib.hid (HR2.out.bl hb)
  have HSM_ := Lib.hid (HSM.out.bl hb)
  have HOza_ := Lib.hid (HOza.out.bl hb)
  have HOzb_ := Lib.hid (HOzb.out.bl hb)
  have HOzc_ := Lib.hid (HOzc.out.bl hb)
  have HOzd_ := Lib.hid (HOzd.out.bl hb)
  clear HB2 HR2 HSM HOza HOzb HOzc HOzd
  have HB2 := Lib.hid HB2_.out
  clear HB2_
  have HR2 := Lib.hid HR2_.out
  clear HR2_
  have HSM := Lib.hid HSM_.out
  clear HSM_
  have HOza := Lib.hid HOza_.out
  clear HOza_
  have HOzb := Lib.hid HOzb_.out
  clear HOzb_
  have HOzc := Lib.hid HOzc_.out
  clear HOzc_
  have HOzd := Lib.hid HOzd_.out
  clear HOzd_
  clear ho
  clear hb
  go_wp2_with fail
  refine (splice_eq _ _ _ _ _ _ _ HR2.out (Enc.Is.nil _) HRv.out (by decide) Q8.out).mono ?_
  rintro e x_12 ⟨zf, rfl, ho, hb⟩
  have HOzf := Lib.hid (ho.is)
  have HB2_ := Lib.hid (HB2.out.bl hb)
  have HR2_ := Lib.hid (HR2.out.bl hb)
  have HSM_ := Lib.hid (HSM.out.bl hb)
  have HOza_ := Lib.hid (HOza.out.bl hb)
  have HOzb_ := Lib.hid (HOzb.out.bl hb)
  have HOzc_ := Lib.hid (HOzc.out.bl hb)
  have HOzd_ := Lib.hid (HOzd.out.bl hb)
  have HOze_ := Lib.hid (HOze.out.bl hb)
  clear HB2 HR2 HSM HOza HOzb HOzc HOzd HOze
  have HB2 := Lib.hid HB2_.out
  clear HB2_
  have HR2 := Lib.hid HR2_.out
  clear HR2_
  have HSM := Lib.hid HSM_.out
  clear HSM_
  have HOza := Lib.hid HOza_.out
  clear HOza_
  have HOzb := Lib.hid HOzb_.out
  clear HOzb_
  have HOzc := Lib.hid HOzc_.out
  clear HOzc_
  have HOzd := Lib.hid HOzd_.out
  clear HOzd_
  have HOze := Lib.hid HOze_.out
  clear HOze_
  clear ho
  clear hb
  obtain ⟨Ac, cc, rfl, _⟩ := HOzc.out
  go_wp2_with fail
  refine (spots_any _ _ _ HOza.out (valid_small _ 0 Q2.out) (Nat.le_trans (valid_len _ Q2.out) (by decide))).mono ?_
  rintro e x_13 ⟨ya, rfl, ho, hb⟩
  have HYa := Lib.hid (ho.is)
  have HB2_ := Lib.hid (HB2.out.bl hb)
  have HR2_ := Lib.hid (HR2.out.bl hb)
  have HSM_ := Lib.hid (HSM.out.bl hb)
  have HOza_ := Lib.hid (HOza.out.bl hb)
  have HOzb_ := Lib.hid (HOzb.out.bl hb)
  have HOzc_ := Lib.hid (HOzc.out.bl hb)
  have HOzd_ := Lib.hid (HOzd.out.bl hb)
  have HOze_ := Lib.hid (HOze.out.bl hb)
  have HOzf_ := Lib.hid (HOzf.out.bl hb)
  clear HB2 HR2 HSM HOza HOzb HOzc HOzd HOze HOzf
  have HB2 := Lib.hid HB2_.out
  clear HB2_
  have HR2 := Lib.hid HR2_.out
  clear HR2_
  have HSM := Lib.hid HSM_.out
  clear HSM_
  have HOza := Lib.hid HOza_.out
  clear HOza_
  have HOzb := Lib.hid HOzb_.out
  clear HOzb_
  have HOzc := Lib.hid HOzc_.out
  clear HOzc_
  have HOzd := Lib.hid HOzd_.out
  clear HOzd_
  have HOze := Lib.hid HOze_.out
  clear HOze_
  have HOzf := Lib.hid HOzf_.out
  clear HOzf_
  clear ho
  clear hb
  go_wp2_with fail
  refine (spots_any _ _ _ HR2.out (valid_small _ 0 HRv.out) (Nat.le_trans (valid_len _ HRv.out) (by decide))).mono ?_
  rintro e x_14 ⟨yb, rfl, ho, hb⟩
  have HYb := Lib.hid (ho.is)
  have HB2_ := Lib.hid (HB2.out.bl hb)
  have HR2_ := Lib.hid (HR2.out.bl hb)
  have HSM_ := Lib.hid (HSM.out.bl hb)
  have HOza_ := Lib.hid (HOza.out.bl hb)
  have HOzb_ := Lib.hid (HOzb.out.bl hb)
  have HOzc_ := Lib.hid (HOzc.out.bl hb)
  have HOzd_ := Lib.hid (HOzd.out.bl hb)
  have HOze_ := Lib.hid (HOze.out.bl hb)
  have HOzf_ := Lib.hid (HOzf.out.bl hb)
  have HYa_ := Lib.hid (HYa.out.bl hb)
  clear HB2 HR2 HSM HOza HOzb HOzc HOzd HOze HOzf HYa
  have HB2 := Lib.hid HB2_.out
  clear HB2_
  have HR2 := Lib.hid HR2_.out
  clear HR2_
  have HSM := Lib.hid HSM_.out
  clear HSM_
  have HOza := Lib.hid HOza_.out
  clear HOza_
  have HOzb := Lib.hid HOzb_.out
  clear HOzb_
  have HOzc := Lib.hid HOzc_.out
  clear HOzc_
  have HOzd := Lib.hid HOzd_.out
  clear HOzd_
  have HOze := Lib.hid HOze_.out
  clear HOze_
  have HOzf := Lib.hid HOzf_.out
  clear HOzf_
  have HYa := Lib.hid HYa_.out
  clear HYa_
  clear ho
  clear hb
  go_wp2_with fail
  refine (samePair_any _ _ _ _ _ HYa.out HYb.out).mono ?_
  rintro e x_15 ⟨rfl, hb⟩
  have HB2_ := Lib.hid (HB2.out.bl hb)
  have HR2_ := Lib.hid (HR2.out.bl hb)
  have HSM_ := Lib.hid (HSM.out.bl hb)
  have HOza_ := Lib.hid (HOza.out.bl hb)
  have HOzb_ := Lib.hid (HOzb.out.bl hb)
  have HOzc_ := Lib.hid (HOzc.out.bl hb)
  have HOzd_ := Lib.hid (HOzd.out.bl hb)
  have HOze_ := Lib.hid (HOze.out.bl hb)
  have HOzf_ := Lib.hid (HOzf.out.bl hb)
  have HYa_ := Lib.hid (HYa.out.bl hb)
  have HYb_ := Lib.hid (HYb.out.bl hb)
  clear HB2 HR2 HSM HOza HOzb HOzc HOzd HOze HOzf HYa HYb
  have HB2 := Lib.hid HB2_.out
  clear HB2_
  have HR2 := Lib.hid HR2_.out
  clear HR2_
  have HSM := Lib.hid HSM_.out
  clear HSM_
  have HOza := Lib.hid HOza_.out
  clear HOza_
  have HOzb := Lib.hid HOzb_.out
  clear HOzb_
  have HOzc := Lib.hid HOzc_.out
  clear HOzc_
  have HOzd := Lib.hid HOzd_.out
  clear HOzd_
  have HOze := Lib.hid HOze_.out
  clear HOze_
  have HOzf := Lib.hid HOzf_.out
  clear HOzf_
  have HYa := Lib.hid HYa_.out
  clear HYa_
  have HYb := Lib.hid HYb_.out
  clear HYb_
  rw [decide_eq_true Q3.out]
  clear hb
  go_wp2_with fail
  refine (sameExt_any _ _ _ _ _ HOzb.out HSM.out).mono ?_
  rintro e x_16 ⟨rfl, hb⟩
  have HB2_ := Lib.hid (HB2.out.bl hb)
  have HR2_ := Lib.hid (HR2.out.bl hb)
  have HSM_ := Lib.hid (HSM.out.bl hb)
  have HOza_ := Lib.hid (HOza.out.bl hb)
  have HOzb_ := Lib.hid (HOzb.out.bl hb)
  have HOzc_ := Lib.hid (HOzc.out.bl hb)
  have HOzd_ := Lib.hid (HOzd.out.bl hb)
  have HOze_ := Lib.hid (HOze.out.bl hb)
  have HOzf_ := Lib.hid (HOzf.out.bl hb)
  have HYa_ := Lib.hid (HYa.out.bl hb)
  have HYb_ := Lib.hid (HYb.out.bl hb)
  clear HB2 HR2 HSM HOza HOzb HOzc HOzd HOze HOzf HYa HYb
  have HB2 := Lib.hid HB2_.out
  clear HB2_
  have HR2 := Lib.hid HR2_.out
  clear HR2_
  have HSM := Lib.hid HSM_.out
  clear HSM_
  have HOza := Lib.hid HOza_.out
  clear HOza_
  have HOzb := Lib.hid HOzb_.out
  clear HOzb_
  have HOzc := Lib.hid HOzc_.out
  clear HOzc_
  have HOzd := Lib.hid HOzd_.out
  clear HOzd_
  have HOze := Lib.hid HOze_.out
  clear HOze_
  have HOzf := Lib.hid HOzf_.out
  clear HOzf_
  have HYa := Lib.hid HYa_.out
  clear HYa_
  have HYb := Lib.hid HYb_.out
  clear HYb_
  rw [decide_eq_true rfl]
  clear hb
  go_wp2_with fail
  refine (sameExt_any _ _ _ _ _ HOzd.out HSM.out).mono ?_
  rintro e x_17 ⟨rfl, hb⟩
  have HB2_ := Lib.hid (HB2.out.bl hb)
  have HR2_ := Lib.hid (HR2.out.bl hb)
  have HSM_ := Lib.hid (HSM.out.bl hb)
  have HOza_ := Lib.hid (HOza.out.bl hb)
  have HOzb_ := Lib.hid (HOzb.out.bl hb)
  have HOzc_ := Lib.hid (HOzc.out.bl hb)
  have HOzd_ := Lib.hid (HOzd.out.bl hb)
  have HOze_ := Lib.hid (HOze.out.bl hb)
  have HOzf_ := Lib.hid (HOzf.out.bl hb)
  have HYa_ := Lib.hid (HYa.out.bl hb)
  have HYb_ := Lib.hid (HYb.out.bl hb)
  clear HB2 HR2 HSM HOza HOzb HOzc HOzd HOze HOzf HYa HYb
  have HB2 := Lib.hid HB2_.out
  clear HB2_
  have HR2 := Lib.hid HR2_.out
  clear HR2_
  have HSM := Lib.hid HSM_.out
  clear HSM_
  have HOza := Lib.hid HOza_.out
  clear HOza_
  have HOzb := Lib.hid HOzb_.out
  clear HOzb_
  have HOzc := Lib.hid HOzc_.out
  clear HOzc_
  have HOzd := Lib.hid HOzd_.out
  clear HOzd_
  have HOze := Lib.hid HOze_.out
  clear HOze_
  have HOzf := Lib.hid HOzf_.out
  clear HOzf_
  have HYa := Lib.hid HYa_.out
  clear HYa_
  have HYb := Lib.hid HYb_.out
  clear HYb_
  rw [decide_eq_true rfl]
  clear hb
  go_wp2_with fail
  refine (wakes18_any _).mono ?_
  rintro e x_18 ⟨rfl, hb⟩
  have HB2_ := Lib.hid (HB2.out.bl hb)
  have HR2_ := Lib.hid (HR2.out.bl hb)
  have HSM_ := Lib.hid (HSM.out.bl hb)
  have HOza_ := Lib.hid (HOza.out.bl hb)
  have HOzb_ := Lib.hid (HOzb.out.bl hb)
  have HOzc_ := Lib.hid (HOzc.out.bl hb)
  have HOzd_ := Lib.hid (HOzd.out.bl hb)
  have HOze_ := Lib.hid (HOze.out.bl hb)
  have HOzf_ := Lib.hid (HOzf.out.bl hb)
  have HYa_ := Lib.hid (HYa.out.bl hb)
  have HYb_ := Lib.hid (HYb.out.bl hb)
  clear HB2 HR2 HSM HOza HOzb HOzc HOzd HOze HOzf HYa HYb
  have HB2 := Lib.hid HB2_.out
  clear HB2_
  have HR2 := Lib.hid HR2_.out
  clear HR2_
  have HSM := Lib.hid HSM_.out
  clear HSM_
  have HOza := Lib.hid HOza_.out
  clear HOza_
  have HOzb := Lib.hid HOzb_.out
  clear HOzb_
  have HOzc := Lib.hid HOzc_.out
  clear HOzc_
  have HOzd := Lib.hid HOzd_.out
  clear HOzd_
  have HOze := Lib.hid HOze_.out
  clear HOze_
  have HOzf := Lib.hid HOzf_.out
  clear HOzf_
  have HYa := Lib.hid HYa_.out
  clear HYa_
  have HYb := Lib.hid HYb_.out
  clear HYb_
  clear hb
  go_wp2
  go_ret
  exact ⟨rfl, HB2.out⟩
end Go.Proofs.Ytaedelhdandflaa.ExtW
