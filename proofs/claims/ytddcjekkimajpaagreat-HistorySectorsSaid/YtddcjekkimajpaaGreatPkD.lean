/- Several texts joined (see each one's head). -/
import Derived.Test.YtddcjekkimajpaaGreatPkC
import Derived.IntWalk
import Derived.Test.YtddcjekkimajpaaGreatPkB
import Derived.Test.YtddcjekkimajpaaGreatPkA
/- Contract of ref14.ValidRecord. -/
namespace Go.Proofs.YtddcjekkimajpaaGreat.ExtW
open Go.RowKit Go.Ov Go.Proofs.YtddcjekkimajpaaGreat.Need

set_option maxRecDepth 100000 in
set_option maxHeartbeats 4000000 in
theorem rvalidR_any (v : Value) (r : Rec) (w : World) (h : RecIs w v r) :
    Calls Tryz.prog 42 #[v] w fun e w' => e = .returned (.bool (validRec r)) ∧ Bl w w' := by
  obtain ⟨u, rfl, hl⟩ := h
  have HL := Lib.hid hl
  obtain ⟨A, c, rfl, _⟩ := hl
  have hu := Tryz.underlying46
  have hw : ∃ vr, vr = validRec r := ⟨_, rfl⟩
  obtain ⟨vr, hvr⟩ := hw
  rw [← hvr]
  have HVR := Lib.hid hvr
  clear hvr
  have hnb : ∃ nb, nb = noneB r := ⟨_, rfl⟩
  obtain ⟨nb, hnb⟩ := hnb
  have HNB := Lib.hid hnb
  clear hnb
  have htb : ∃ tb, tb = trackB r := ⟨_, rfl⟩
  obtain ⟨tb, htb⟩ := htb
  have HTB := Lib.hid htb
  clear htb
  go_enter Tryz.func42, Tryz.ntmps42
  go_upto_region 1 with (fail)
  go_cut [3] (fun v3 wc => v3 = .bool nb ∧ wc = w.alloc (.cells #[.int .i64 r.kind, .int .i64 r.track, .int .i64 r.fr, .int .i64 r.tt, .slice A r.l.length c] 46))
  case first =>
    by_cases h1 : r.fr = 0
    · have f1 : (r.fr == 0) = true := by rw [h1]; rfl
      by_cases h2 : r.tt = 0
      · have f2 : (r.tt == 0) = true := by rw [h2]; rfl
        by_cases h3 : r.l.length = 0
        · have f3 : ((r.l.length : Int) == 0) = true := by rw [h3]; rfl
          have hr : nb = true := by rw [HNB.out]; simp [noneB, h1, h2]; exact List.eq_nil_of_length_eq_zero h3
          have HR := Lib.hid hr
          clear h1 h2 h3 hr
          go_wp2_with fail
          go_meet
          exact ⟨by rw [HR.out], rfl⟩
        · have hr : nb = false := by rw [HNB.out]; simp [noneB, h1, h2]; intro e; rw [e] at h3; simp at h3
          have h4 : ((r.l.length : Int) == 0) = false := by rw [beq_eq_false_iff_ne]; omega
          have HR := Lib.hid hr
          clear h1 h2 h3 hr
          go_wp2_with fail
          go_meet
          exact ⟨by rw [HR.out], rfl⟩
      · have hr : nb = false := by rw [HNB.out]; simp [noneB, h2]
        have h4 : (r.tt == 0) = false := by rw [beq_eq_false_iff_ne]; exact h2
        have HR := Lib.hid hr
        clear h1 h2 hr
        go_wp2_with fail
        go_meet
        exact ⟨by rw [HR.out], rfl⟩
    · have hr : nb = false := by rw [HNB.out]; simp [noneB, h1]
      have h4 : (r.fr == 0) = false := by rw [beq_eq_false_iff_ne]; exact h1
      have HR := Lib.hid hr
      clear h1 hr
      go_wp2_with fail
      go_meet
      exact ⟨by rw [HR.out], rfl⟩
  case rest =>
  obtain ⟨rfl, rfl⟩ := hcut
  rcases (show r.track < 0 ∨ (0 ≤ r.track ∧ r.track ≤ 99) ∨ (0 ≤ r.track ∧ 99 < r.track) from by omega) with t1 | ⟨t1, t2⟩ | ⟨t1, t2⟩
  · have htb : tb = false := by rw [HTB.out]; simp [trackB]; omega
    subst htb
    by_cases k1 : r.kind = 1
    · have hr : vr = (nb && false) := by rw [HVR.out, HNB.out, HTB.out]; simp [validRec, k1]
      have HR := Lib.hid hr
      rw [k1]
      clear hr k1
      cases nb <;> (go_wp2_with fail; go_ret; first | exact ⟨ret_bool HR.out.symm, (Bl.refl _).alloc _⟩ | exact ⟨ret_bool (by rw [HR.out]; simp; omega), (Bl.refl _).alloc _⟩)
    · by_cases k2 : r.kind = 2
      · have hr : vr = (nb && false) := by rw [HVR.out, HNB.out, HTB.out]; simp [validRec, k2]
        have HR := Lib.hid hr
        rw [k2]
        clear hr k1 k2
        cases nb <;> (go_wp2_with fail; go_ret; first | exact ⟨ret_bool HR.out.symm, (Bl.refl _).alloc _⟩ | exact ⟨ret_bool (by rw [HR.out]; simp; omega), (Bl.refl _).alloc _⟩)
      · have e1 : (r.kind == 1) = false := by rw [beq_eq_false_iff_ne]; exact k1
        have e2 : (r.kind == 2) = false := by rw [beq_eq_false_iff_ne]; exact k2
        by_cases k4 : r.kind = 4 ∨ r.kind = 5
        · have hr : vr = (nb && decide (r.track = 0)) := by rw [HVR.out, HNB.out]; unfold validRec; rw [if_neg (by omega), if_pos k4]
          have HR := Lib.hid hr
          clear hr k1 k2 e1 e2
          have ht : (r.track == 0) = decide (r.track = 0) := rfl
          rcases k4 with k4 | k4
          all_goals
            rw [k4]
            clear k4
            cases nb with
            | false => go_wp2_with fail; go_ret; exact ⟨ret_bool HR.out.symm, (Bl.refl _).alloc _⟩
            | true => go_wp2_with fail; go_ret; exact ⟨ret_bool (by rw [HR.out]; simp), (Bl.refl _).alloc _⟩
        · have e4 : (r.kind == 4) = false := by rw [beq_eq_false_iff_ne]; omega
          have e5 : (r.kind == 5) = false := by rw [beq_eq_false_iff_ne]; omega
          by_cases k3 : r.kind = 3
          · have hr : vr = spliceB r := by rw [HVR.out]; unfold validRec; rw [if_neg (by omega), if_neg k4, if_pos k3]
            have HR := Lib.hid hr
            clear hr k1 k2 k4
            rw [k3]
            clear k3 e1 e2 e4 e5
            have hs : spliceB r = false := by unfold spliceB; rw [← HTB.out]; rfl
            have HS := Lib.hid hs
            clear hs
            go_wp2_with fail
            go_ret
            exact ⟨ret_bool (by rw [HR.out, HS.out]), (Bl.refl _).alloc _⟩
          · have hr : vr = false := by rw [HVR.out]; unfold validRec; rw [if_neg (by omega), if_neg k4, if_neg k3]
            have e3 : (r.kind == 3) = false := by rw [beq_eq_false_iff_ne]; omega
            have HR := Lib.hid hr
            clear hr k1 k2 k3 k4
            go_wp2_with fail
            go_ret
            exact ⟨ret_bool HR.out.symm, (Bl.refl _).alloc _⟩
  · have htb : tb = true := by rw [HTB.out]; simp [trackB, t1, t2]
    subst htb
    by_cases k1 : r.kind = 1
    · have hr : vr = (nb && true) := by rw [HVR.out, HNB.out, HTB.out]; simp [validRec, k1]
      have HR := Lib.hid hr
      rw [k1]
      clear hr k1
      cases nb <;> (go_wp2_with fail; go_ret; first | exact ⟨ret_bool HR.out.symm, (Bl.refl _).alloc _⟩ | exact ⟨ret_bool (by rw [HR.out]; simp; omega), (Bl.refl _).alloc _⟩)
    · by_cases k2 : r.kind = 2
      · have hr : vr = (nb && true) := by rw [HVR.out, HNB.out, HTB.out]; simp [validRec, k2]
        have HR := Lib.hid hr
        rw [k2]
        clear hr k1 k2
        cases nb <;> (go_wp2_with fail; go_ret; first | exact ⟨ret_bool HR.out.symm, (Bl.refl _).alloc _⟩ | exact ⟨ret_bool (by rw [HR.out]; simp; omega), (Bl.refl _).alloc _⟩)
      · have e1 : (r.kind == 1) = false := by rw [beq_eq_false_iff_ne]; exact k1
        have e2 : (r.kind == 2) = false := by rw [beq_eq_false_iff_ne]; exact k2
        by_cases k4 : r.kind = 4 ∨ r.kind = 5
        · have hr : vr = (nb && decide (r.track = 0)) := by rw [HVR.out, HNB.out]; unfold validRec; rw [if_neg (by omega), if_pos k4]
          have HR := Lib.hid hr
          clear hr k1 k2 e1 e2
          have ht : (r.track == 0) = decide (r.track = 0) := rfl
          rcases k4 with k4 | k4
          all_goals
            rw [k4]
            clear k4
            cases nb with
            | false => go_wp2_with fail; go_ret; exact ⟨ret_bool HR.out.symm, (Bl.refl _).alloc _⟩
            | true => go_wp2_with fail; go_ret; exact ⟨ret_bool (by rw [HR.out]; simp), (Bl.refl _).alloc _⟩
        · have e4 : (r.kind == 4) = false := by rw [beq_eq_false_iff_ne]; omega
          have e5 : (r.kind == 5) = false := by rw [beq_eq_false_iff_ne]; omega
          by_cases k3 : r.kind = 3
          · have hr : vr = spliceB r := by rw [HVR.out]; unfold validRec; rw [if_neg (by omega), if_neg k4, if_pos k3]
            have HR := Lib.hid hr
            clear hr k1 k2 k4
            rw [k3]
            clear k3 e1 e2 e4 e5
            by_cases q : (0 ≤ r.fr ∧ r.fr ≤ r.tt) ∧ r.tt ≤ 1000
            · have hs : spliceB r = validFrom 0 r.l := by unfold spliceB; rw [← HTB.out]; simp [q.1.1, q.1.2, q.2]
              have HS := Lib.hid hs
              obtain ⟨⟨q1, q2⟩, q3⟩ := q
              clear hs
              go_wp2_with fail
              refine (rvalid_any _ _ _ (HL.out.bl ((Bl.refl _).alloc _))).mono ?_
              rintro e w1 ⟨rfl, hb⟩
              go_wp2_with fail
              go_ret
              exact ⟨ret_bool (by rw [HR.out, HS.out]), ((Bl.refl _).alloc _).bl hb⟩
            · have hs : spliceB r = false := by
                unfold spliceB
                by_cases a1 : 0 ≤ r.fr
                · by_cases a2 : r.fr ≤ r.tt
                  · have a3 : ¬ r.tt ≤ 1000 := fun a3 => q ⟨⟨a1, a2⟩, a3⟩
                    simp [a3]
                  · simp [a2]
                · simp [a1]
              have HS := Lib.hid hs
              rcases (show r.fr < 0 ∨ (0 ≤ r.fr ∧ r.tt < r.fr) ∨ ((0 ≤ r.fr ∧ r.fr ≤ r.tt) ∧ 1000 < r.tt) from by omega) with q1 | ⟨q1, q2⟩ | ⟨⟨q1, q2⟩, q3⟩
              all_goals
                clear hs q
                go_wp2_with fail
                go_ret
                exact ⟨ret_bool (by rw [HR.out, HS.out]), (Bl.refl _).alloc _⟩
          · have hr : vr = false := by rw [HVR.out]; unfold validRec; rw [if_neg (by omega), if_neg k4, if_neg k3]
            have e3 : (r.kind == 3) = false := by rw [beq_eq_false_iff_ne]; omega
            have HR := Lib.hid hr
            clear hr k1 k2 k3 k4
            go_wp2_with fail
            go_ret
            exact ⟨ret_bool HR.out.symm, (Bl.refl _).alloc _⟩
  · have htb : tb = false := by rw [HTB.out]; simp [trackB]; omega
    subst htb
    by_cases k1 : r.kind = 1
    · have hr : vr = (nb && false) := by rw [HVR.out, HNB.out, HTB.out]; simp [validRec, k1]
      have HR := Lib.hid hr
      rw [k1]
      clear hr k1
      cases nb <;> (go_wp2_with fail; go_ret; first | exact ⟨ret_bool HR.out.symm, (Bl.refl _).alloc _⟩ | exact ⟨ret_bool (by rw [HR.out]; simp; omega), (Bl.refl _).alloc _⟩)
    · by_cases k2 : r.kind = 2
      · have hr : vr = (nb && false) := by rw [HVR.out, HNB.out, HTB.out]; simp [validRec, k2]
        have HR := Lib.hid hr
        rw [k2]
        clear hr k1 k2
        cases nb <;> (go_wp2_with fail; go_ret; first | exact ⟨ret_bool HR.out.symm, (Bl.refl _).alloc _⟩ | exact ⟨ret_bool (by rw [HR.out]; simp; omega), (Bl.refl _).alloc _⟩)
      · have e1 : (r.kind == 1) = false := by rw [beq_eq_false_iff_ne]; exact k1
        have e2 : (r.kind == 2) = false := by rw [beq_eq_false_iff_ne]; exact k2
        by_cases k4 : r.kind = 4 ∨ r.kind = 5
        · have hr : vr = (nb && decide (r.track = 0)) := by rw [HVR.out, HNB.out]; unfold validRec; rw [if_neg (by omega), if_pos k4]
          have HR := Lib.hid hr
          clear hr k1 k2 e1 e2
          have ht : (r.track == 0) = decide (r.track = 0) := rfl
          rcases k4 with k4 | k4
          all_goals
            rw [k4]
            clear k4
            cases nb with
            | false => go_wp2_with fail; go_ret; exact ⟨ret_bool HR.out.symm, (Bl.refl _).alloc _⟩
            | true => go_wp2_with fail; go_ret; exact ⟨ret_bool (by rw [HR.out]; simp), (Bl.refl _).alloc _⟩
        · have e4 : (r.kind == 4) = false := by rw [beq_eq_false_iff_ne]; omega
          have e5 : (r.kind == 5) = false := by rw [beq_eq_false_iff_ne]; omega
          by_cases k3 : r.kind = 3
          · have hr : vr = spliceB r := by rw [HVR.out]; unfold validRec; rw [if_neg (by omega), if_neg k4, if_pos k3]
            have HR := Lib.hid hr
            clear hr k1 k2 k4
            rw [k3]
            clear k3 e1 e2 e4 e5
            have hs : spliceB r = false := by unfold spliceB; rw [← HTB.out]; rfl
            have HS := Lib.hid hs
            clear hs
            go_wp2_with fail
            go_ret
            exact ⟨ret_bool (by rw [HR.out, HS.out]), (Bl.refl _).alloc _⟩
          · have hr : vr = false := by rw [HVR.out]; unfold validRec; rw [if_neg (by omega), if_neg k4, if_neg k3]
            have e3 : (r.kind == 3) = false := by rw [beq_eq_false_iff_ne]; omega
            have HR := Lib.hid hr
            clear hr k1 k2 k3 k4
            go_wp2_with fail
            go_ret
            exact ⟨ret_bool HR.out.symm, (Bl.refl _).alloc _⟩
end Go.Proofs.YtddcjekkimajpaaGreat.ExtW

/- Contract of overdubref14.Splice. -/
namespace Go.Proofs.YtddcjekkimajpaaGreat.ExtW
open Go.RowKit Go.Ov Go.Proofs.YtddcjekkimajpaaGreat.Need

theorem rsplice_pure (l new : List Ext) (fr tt : Int) (hv : validFrom 0 l = true) (h0 : 0 ≤ fr) (h1 : fr ≤ tt) :
    (cutM tt (endM l) l = [] → spliceL l fr tt new = cutM 0 fr l ++ shiftM fr new) ∧
    (∀ c0 cl, cutM tt (endM l) l = c0 :: cl → tt < endM l ∧ c0.at_ = tt ∧ spliceL l fr tt new = (cutM 0 fr l ++ shiftM fr new) ++ shiftM (fr + endM new - tt) (c0 :: cl)) := by
  have hb := valid_bd l 0 (by decide) hv
  have he := cut_end l 0 tt (endM l) (Int.le_refl _) (by decide) hv
  refine ⟨fun h => ?_, fun c0 cl h => ?_⟩
  · rw [h] at he
    have : endM [] = 0 := rfl
    unfold spliceL
    rw [show min tt (endM l) = endM l by omega, cut_nil l 0 (endM l) (endM l) (Int.le_refl _) hv (by omega)]
    simp [shiftM]
  · have hcv := cut_valid l 0 tt (endM l) (Int.le_refl _) hv
    rw [h] at hcv he
    have hc := valid_cons hcv
    have hpos : 0 < endM (c0 :: cl) := by
      have := (validFrom_bd (c0 :: cl) (max 0 tt) ?_ hcv).1
      · simp only [List.length_cons] at this; omega
      · by_cases hm : max 0 tt ≤ 1000
        · exact hm
        · exfalso
          have := cut_nil l 0 tt (endM l) (Int.le_refl _) hv (by omega)
          rw [h] at this; cases this
    have ht : tt < endM l := by omega
    refine ⟨ht, by have := hc.1; omega, ?_⟩
    unfold spliceL
    rw [show min tt (endM l) = tt by omega, h]

theorem rcut_eq (v : Value) (l : List Ext) (a b : Int) (w : World) (h : extE.Is w v l) (hn : l.length * 40 ≤ 140737488355328) {X : List Ext} (hX : cutM (max a 0) (min b (wrap64 (endM l))) l = X) :
    Calls Tryz.prog 96 #[v, .int .i64 a, .int .i64 b] w fun e w' => ∃ u, e = .returned u ∧ extE.Own 81 w' w.heap.size u X ∧ Bl w w' := hX ▸ rcut_any v l a b w h hn
theorem rend_eq (v : Value) (l : List Ext) (w : World) (h : extE.Is w v l) {n : Int} (hm : wrap64 (endM l) = n) :
    Calls Tryz.prog 69 #[v] w fun e w' => e = .returned (.int .i64 n) ∧ w = w' := hm ▸ rend_any v l w h

set_option maxRecDepth 100000 in
set_option maxHeartbeats 2000000 in
theorem rsplice_any (v u : Value) (l new : List Ext) (fr tt : Int) (w : World) (h : extE.Is w v l) (hn : extE.Is w u new) (hv : validFrom 0 l = true) (hlen : new.length * 40 ≤ 100000000000000) :
    Calls Tryz.prog 70 #[v, .int .i64 fr, .int .i64 tt, u] w fun e w' => ∃ z, e = .returned (.tuple #[z, .int .i64 (spliceM l fr tt new).2]) ∧ extE.Own 81 w' w.heap.size z (spliceM l fr tt new).1 ∧ Bl w w' := by
  have hb := validFrom_bd l 0 (by decide) hv
  have HE := Lib.hid (show wrap64 (endM l) = endM l from wrap_id (by omega) (by omega))
  have HL := Lib.hid h
  have HN := Lib.hid hn
  have HV := Lib.hid hv
  clear h hn hv
  obtain ⟨hb1, hb2⟩ := hb
  by_cases hbad : spliceBad l fr tt new = true
  · have hm : spliceM l fr tt new = ([], 1) := if_pos hbad
    rw [hm]
    clear hm
    have hor : validFrom 0 new = false ∨ validFrom 0 new = true ∧ (fr < 0 ∨ ¬ fr < 0 ∧ (tt < fr ∨ ¬ tt < fr ∧ endM l < fr)) := by
      simp only [spliceBad, Bool.or_eq_true, Bool.not_eq_true', decide_eq_true_eq] at hbad
      cases hq : validFrom 0 new
      · exact .inl rfl
      · refine .inr ⟨rfl, ?_⟩
        simp [hq] at hbad; omega
    clear hbad
    rcases hor with hq | ⟨hq, h1 | ⟨h1, h2 | ⟨h2, h3⟩⟩⟩
    all_goals
      have HQ := Lib.hid hq
      clear hq
      go_enter Tryz.func70, Tryz.ntmps70
      go_wp2_with (first
        | (go_at_call 66; refine (rvalid_any _ _ _ HN.out).mono ?_; rintro e w1 ⟨rfl, hb⟩; rw [HQ.out])
        | (go_at_call 69; refine (rend_eq _ _ _ (HL.out.bl hb) HE.out).mono ?_; rintro e w2 ⟨rfl, rfl⟩))
      go_ret2
      exact ⟨_, rfl, Enc.Own.nil _ _ _, hb⟩
  · have hg : validFrom 0 new = true ∧ ¬ fr < 0 ∧ ¬ tt < fr ∧ ¬ endM l < fr := by
      simp only [spliceBad, Bool.or_eq_true, Bool.not_eq_true', decide_eq_true_eq, not_or] at hbad
      simp at hbad; exact ⟨hbad.1.1.1, by omega, by omega, by omega⟩
    have hm : spliceM l fr tt new = (if spliceLong l fr tt new then ([], 4) else (spliceL l fr tt new, 0)) := if_neg hbad
    clear hbad
    obtain ⟨hq, h1, h2, h3⟩ := hg
    have ⟨nb1, nb2⟩ := validFrom_bd new 0 (by decide) hq
    have HF := Lib.hid (show wrap64 (endM new) = endM new from wrap_id (by omega) (by omega))
    have HQ := Lib.hid hq
    clear hq
    have HP := Lib.hid (rsplice_pure l new fr tt HV.out (by omega) (by omega))
    have hse := splice_end l new fr tt HV.out (by omega) (by omega) (by omega)
    have HSE := Lib.hid (show wrap64 (endM (spliceL l fr tt new)) = fr + endM new + endM l - min tt (endM l) by rw [hse]; exact wrap_id (by omega) (by omega))
    have HY := Lib.hid (show spliceLong l fr tt new = decide (1000 < fr + endM new + endM l - min tt (endM l)) from rfl)
    have HM := Lib.hid hm
    rw [hm]
    clear hm hse
    have ln1 := cutM_len 0 fr l
    have ln2 := shiftM_len fr new
    have ln3 := cutM_len tt (endM l) l
    have HX1 := Lib.hid (show cutM (max 0 0) (min fr (wrap64 (endM l))) l = cutM 0 fr l by rw [HE.out, show (max 0 0 : Int) = 0 from rfl, show min fr (endM l) = fr by omega])
    have HX2 := Lib.hid (show cutM (max tt 0) (min (endM l) (wrap64 (endM l))) l = cutM tt (endM l) l by rw [HE.out, show (max tt 0 : Int) = tt by omega, show min (endM l) (endM l) = endM l by omega])
    generalize spliceL l fr tt new = R at *
    generalize cutM 0 fr l = C1 at *
    generalize hT : cutM tt (endM l) l = T at *
    have HT := Lib.hid hT
    clear hT
    have hlg : spliceLong l fr tt new = true ∧ 1000 < fr + endM new + endM l - min tt (endM l) ∨ spliceLong l fr tt new = false ∧ ¬ 1000 < fr + endM new + endM l - min tt (endM l) := by
      rw [HY.out]; simp; omega
    rcases hlg with ⟨hl1, hl2⟩ | ⟨hl1, hl2⟩
    all_goals
      simp only [hl1, if_true, Bool.false_eq_true, if_false]
      clear hl1
      go_enter Tryz.func70, Tryz.ntmps70
      go_wp2_with fail
      refine (rvalid_any _ _ _ HN.out).mono ?_
      rintro e w1 ⟨rfl, hb⟩
      rw [HQ.out]
      have HB := Lib.hid hb
      have HL1 := Lib.hid (HL.out.bl hb)
      have HN1 := Lib.hid (HN.out.bl hb)
      clear hb
      go_wp2_with fail
      refine (rend_eq _ _ _ HL1.out HE.out).mono ?_
      rintro e w2 ⟨rfl, rfl⟩
      go_wp2_with fail
      refine (rcut_eq _ _ _ _ _ HL1.out (by omega) HX1.out).mono ?_
      rintro e w4 ⟨u1, rfl, ho, hb⟩
      have HO1 := Lib.hid ho
      have HS1 := Lib.hid (HB.out.size)
      clear ho
      try replace HE := Lib.hid (HE.out.bl hb)
      try replace HL := Lib.hid (HL.out.bl hb)
      try replace HN := Lib.hid (HN.out.bl hb)
      try replace HV := Lib.hid (HV.out.bl hb)
      try replace HQ := Lib.hid (HQ.out.bl hb)
      try replace HF := Lib.hid (HF.out.bl hb)
      try replace HP := Lib.hid (HP.out.bl hb)
      try replace HSE := Lib.hid (HSE.out.bl hb)
      try replace HY := Lib.hid (HY.out.bl hb)
      try replace HM := Lib.hid (HM.out.bl hb)
      try replace HX1 := Lib.hid (HX1.out.bl hb)
      try replace HX2 := Lib.hid (HX2.out.bl hb)
      try replace HT := Lib.hid (HT.out.bl hb)
      try replace HB := Lib.hid (HB.out.bl hb)
      try replace HL1 := Lib.hid (HL1.out.bl hb)
      try replace HN1 := Lib.hid (HN1.out.bl hb)
      try replace HO1 := Lib.hid (HO1.out.bl hb)
      try replace HS1 := Lib.hid (HS1.out.bl hb)
      clear hb
      go_wp2_with fail
      refine (rshift_any _ _ _ _ HN1.out (by omega)).mono ?_
      rintro e w5 ⟨u2, rfl, ho, hb⟩
      have HO2 := Lib.hid ho
      clear ho
      try replace HE := Lib.hid (HE.out.bl hb)
      try replace HL := Lib.hid (HL.out.bl hb)
      try replace HN := Lib.hid (HN.out.bl hb)
      try replace HV := Lib.hid (HV.out.bl hb)
      try replace HQ := Lib.hid (HQ.out.bl hb)
      try replace HF := Lib.hid (HF.out.bl hb)
      try replace HP := Lib.hid (HP.out.bl hb)
      try replace HSE := Lib.hid (HSE.out.bl hb)
      try replace HY := Lib.hid (HY.out.bl hb)
      try replace HM := Lib.hid (HM.out.bl hb)
      try replace HX1 := Lib.hid (HX1.out.bl hb)
      try replace HX2 := Lib.hid (HX2.out.bl hb)
      try replace HT := Lib.hid (HT.out.bl hb)
      try replace HB := Lib.hid (HB.out.bl hb)
      try replace HL1 := Lib.hid (HL1.out.bl hb)
      try replace HN1 := Lib.hid (HN1.out.bl hb)
      try replace HO1 := Lib.hid (HO1.out.bl hb)
      try replace HS1 := Lib.hid (HS1.out.bl hb)
      try replace HO2 := Lib.hid (HO2.out.bl hb)
      clear hb
      go_wp2_with (at_builtin; refine Enc.Own.append (E := extE) rfl (.tmp 32) (.tmp 35) 44 rfl w.heap.size 81 (.agg #[.int .i64 0, .int .i64 0, .int .i64 0, .int .i64 0, .int .i64 0]) 5 40 Tryz.underlying44 infoExt rfl rfl (by decide) (by decide) u1 _ rfl (HO1.out.low HS1.out) u2 _ rfl HO2.out.is ?hlen HB.out.size ?_; (case hlen => omega); intro u3 w6 ho3 hg3)
      have HB6 := Lib.hid (HB.out.grown hg3 (fun k hk => Nat.le_trans HS1.out (Enc.Own.lt HO1.out k hk).1))
      have HO3 := Lib.hid ho3
      clear ho3 hg3 HO1 HO2 HB HL1 HN1
      have HL1 := Lib.hid (HL.out.bl HB6.out)
      have HN1 := Lib.hid (HN.out.bl HB6.out)
      go_wp2_with fail
      refine (rend_eq _ _ _ HL1.out HE.out).mono ?_
      rintro e w7 ⟨rfl, rfl⟩
      go_wp2_with fail
      refine (rcut_eq _ _ _ _ _ HL1.out (by omega) HX2.out).mono ?_
      rintro e w8 ⟨u4, rfl, ho, hb⟩
      have HO4 := Lib.hid ho
      have HS6 := Lib.hid HB6.out.size
      clear ho
      try replace HE := Lib.hid (HE.out.bl hb)
      try replace HL := Lib.hid (HL.out.bl hb)
      try replace HN := Lib.hid (HN.out.bl hb)
      try replace HV := Lib.hid (HV.out.bl hb)
      try replace HQ := Lib.hid (HQ.out.bl hb)
      try replace HF := Lib.hid (HF.out.bl hb)
      try replace HP := Lib.hid (HP.out.bl hb)
      try replace HSE := Lib.hid (HSE.out.bl hb)
      try replace HY := Lib.hid (HY.out.bl hb)
      try replace HM := Lib.hid (HM.out.bl hb)
      try replace HX1 := Lib.hid (HX1.out.bl hb)
      try replace HX2 := Lib.hid (HX2.out.bl hb)
      try replace HT := Lib.hid (HT.out.bl hb)
      try replace HB := Lib.hid (HB.out.bl hb)
      try replace HL1 := Lib.hid (HL1.out.bl hb)
      try replace HN1 := Lib.hid (HN1.out.bl hb)
      try replace HO1 := Lib.hid (HO1.out.bl hb)
      try replace HS1 := Lib.hid (HS1.out.bl hb)
      try replace HO2 := Lib.hid (HO2.out.bl hb)
      try replace HB6 := Lib.hid (HB6.out.bl hb)
      try replace HO3 := Lib.hid (HO3.out.bl hb)
      try replace HO4 := Lib.hid (HO4.out.bl hb)
      try replace HS6 := Lib.hid (HS6.out.bl hb)
      clear hb
      obtain ⟨A4, c4, rfl⟩ := Enc.Own.slice HO4.out
      cases T with
      | nil =>
        have HR := Lib.hid (HP.out.1 rfl)
        clear HP
        rw [← HR.out] at HO3
        go_wp2_with fail
        refine (rend_eq _ _ _ HO3.out.is HSE.out).mono ?_
        rintro e w9 ⟨rfl, rfl⟩
        go_wp2
        go_ret2
        first
          | exact ⟨_, rfl, Enc.Own.nil _ _ _, HB6.out⟩
          | exact ⟨_, rfl, HO3.out, HB6.out⟩
      | cons c0 cl =>
        obtain ⟨htt, hat, hR⟩ := HP.out.2 c0 cl rfl
        have HR := Lib.hid hR
        clear HP hR
        obtain ⟨_, _, e4, _, _, _, h4⟩ := HO4.out.is
        simp at e4
        obtain ⟨rfl, rfl⟩ := e4
        obtain ⟨ad, rfl, d0, _⟩ := ext_at h4 0 (by simp)
        have e0 : ad.add (0 * 5) = ad := rfl
        rw [e0] at d0
        simp only [List.getElem_cons_zero, hat] at d0
        clear h4 e0 hat
        have l5 : (shiftM (fr + endM new - tt) (c0 :: cl)).length = (c0 :: cl).length := shiftM_len _ _
        have hw : IntKind.i64.wrap (fr + endM new) = fr + endM new := IntWalk.i64_in _ (by omega)
        have hw' : IntKind.i64.wrap (fr + endM new - tt) = fr + endM new - tt := IntWalk.i64_in _ (by omega)
        go_wp2_with fail
        refine wp_region_ways (S := (fun _ => True)) [0, 1, 2, 3, 5, 6, 7, 8, 10, 13] (y := .take 0 (.take 1 (.take 2 (.take 3 (.take 6 (.take 7 (.take 8 (.ev 4 (.take 5 (.ev 9 (.take 10 (.ev 11 (.ev 12 (.take 13 (.done)) (.stop)) (.stop))) (.stop))) (.ev 9 (.ev 4 (.take 5 (.take 10 (.ev 11 (.ev 12 (.take 13 (.done)) (.stop)) (.stop)))) (.stop)) (.stop)))))))))) (by kernel_rfl) (by kernel_rfl) (by kernel_rfl) ?_ (fun hHeld => ?_)
        · trivial
        repeat (first | (refine wpWay_take rfl (by rfl) (by intro w hSw; (try dsimp only at hSw); first | (go_simp; done) | (go_simp; with_reducible rfl)) ?_; try simp only [Act.put, List.setIfInBounds_toArray, List.set_cons_zero, List.set_cons_succ]) | (refine wpWay_skip rfl (by rfl) ?_; try simp only [Act.put, List.setIfInBounds_toArray, List.set_cons_zero, List.set_cons_succ]))
        refine wpWay_ev rfl (fun K hK => ?_) ?_
        · go_wp2_with fail
          refine (rend_eq _ _ _ (HN1.out.bl (Bl.refl _).drew) HF.out).mono ?_
          rintro e w9 ⟨rfl, rfl⟩
          go_wp2_with fail
          (try refine ⟨trivial, ?_⟩)
          repeat (first | (refine wpWay_take rfl (by rfl) (by intro w hSw; (try dsimp only at hSw); first | (go_simp; done) | (go_simp; with_reducible rfl)) ?_; try simp only [Act.put, List.setIfInBounds_toArray, List.set_cons_zero, List.set_cons_succ]) | (refine wpWay_skip rfl (by rfl) ?_; try simp only [Act.put, List.setIfInBounds_toArray, List.set_cons_zero, List.set_cons_succ]))
          refine wpWay_ev rfl (fun K hK => ?_) wpWay_stop
          go_wp2_with fail
          (try refine ⟨trivial, ?_⟩)
          repeat (first | (refine wpWay_take rfl (by rfl) (by intro w hSw; (try dsimp only at hSw); first | (go_simp; done) | (go_simp; with_reducible rfl)) ?_; try simp only [Act.put, List.setIfInBounds_toArray, List.set_cons_zero, List.set_cons_succ]) | (refine wpWay_skip rfl (by rfl) ?_; try simp only [Act.put, List.setIfInBounds_toArray, List.set_cons_zero, List.set_cons_succ]))
          refine wpWay_ev rfl (fun K hK => ?_) wpWay_stop
          go_wp2_with fail
          refine (rshift_any _ _ _ _ (HO4.out.is.bl (Bl.refl _).drew) (by omega)).mono ?_
          rintro e w10 ⟨u5, rfl, ho5, hb5⟩
          go_wp2_with fail
          (try refine ⟨trivial, ?_⟩)
          repeat (first | (refine wpWay_take rfl (by rfl) (by intro w hSw; (try dsimp only at hSw); first | (go_simp; done) | (go_simp; with_reducible rfl)) ?_; try simp only [Act.put, List.setIfInBounds_toArray, List.set_cons_zero, List.set_cons_succ]) | (refine wpWay_skip rfl (by rfl) ?_; try simp only [Act.put, List.setIfInBounds_toArray, List.set_cons_zero, List.set_cons_succ]))
          refine wpWay_ev rfl (fun K hK => ?_) wpWay_stop
          go_wp2_with (at_builtin; refine Enc.Own.append (E := extE) rfl (.tmp 45) (.tmp 56) 44 rfl w.heap.size 81 (.agg #[.int .i64 0, .int .i64 0, .int .i64 0, .int .i64 0, .int .i64 0]) 5 40 Tryz.underlying44 infoExt rfl rfl (by decide) (by decide) u3 _ rfl (HO3.out.bl (Bl.trans (Bl.refl _).drew hb5)) u5 _ rfl ho5.is ?hlen (Nat.le_trans HB6.out.size hb5.size) ?_; (case hlen => rw [List.length_append]; omega); intro u6 w11 ho6 hg6)
          (try refine ⟨trivial, ?_⟩)
          repeat (first | (refine wpWay_take rfl (by rfl) (by intro w hSw; (try dsimp only at hSw); first | (go_simp; done) | (go_simp; with_reducible rfl)) ?_; try simp only [Act.put, List.setIfInBounds_toArray, List.set_cons_zero, List.set_cons_succ]) | (refine wpWay_skip rfl (by rfl) ?_; try simp only [Act.put, List.setIfInBounds_toArray, List.set_cons_zero, List.set_cons_succ]))
          refine wpWay_done ?_
          have HB9 := Lib.hid ((HB6.out.bl (Bl.trans (Bl.refl _).drew hb5)).grown hg6 (fun k hk => (Enc.Own.lt HO3.out k hk).1))
          have HO6 := Lib.hid ho6
          clear ho6 hg6 hb5 ho5 hw hw'
          rw [← HR.out] at HO6
          go_wp2_with fail
          refine (rend_eq _ _ _ HO6.out.is HSE.out).mono ?_
          rintro e w12 ⟨rfl, rfl⟩
          go_wp2
          go_ret2
          first
            | exact ⟨_, rfl, Enc.Own.nil _ _ _, HB9.out⟩
            | exact ⟨_, rfl, HO6.out, HB9.out⟩
        · refine wpWay_ev rfl (fun K hK => ?_) wpWay_stop
          go_wp2_with fail
          (try refine ⟨trivial, ?_⟩)
          repeat (first | (refine wpWay_take rfl (by rfl) (by intro w hSw; (try dsimp only at hSw); first | (go_simp; done) | (go_simp; with_reducible rfl)) ?_; try simp only [Act.put, List.setIfInBounds_toArray, List.set_cons_zero, List.set_cons_succ]) | (refine wpWay_skip rfl (by rfl) ?_; try simp only [Act.put, List.setIfInBounds_toArray, List.set_cons_zero, List.set_cons_succ]))
          refine wpWay_ev rfl (fun K hK => ?_) wpWay_stop
          go_wp2_with fail
          refine (rend_eq _ _ _ (HN1.out.bl (Bl.refl _).drew) HF.out).mono ?_
          rintro e w9 ⟨rfl, rfl⟩
          go_wp2_with fail
          (try refine ⟨trivial, ?_⟩)
          repeat (first | (refine wpWay_take rfl (by rfl) (by intro w hSw; (try dsimp only at hSw); first | (go_simp; done) | (go_simp; with_reducible rfl)) ?_; try simp only [Act.put, List.setIfInBounds_toArray, List.set_cons_zero, List.set_cons_succ]) | (refine wpWay_skip rfl (by rfl) ?_; try simp only [Act.put, List.setIfInBounds_toArray, List.set_cons_zero, List.set_cons_succ]))
          refine wpWay_ev rfl (fun K hK => ?_) wpWay_stop
          go_wp2_with fail
          refine (rshift_any _ _ _ _ (HO4.out.is.bl (Bl.refl _).drew) (by omega)).mono ?_
          rintro e w10 ⟨u5, rfl, ho5, hb5⟩
          go_wp2_with fail
          (try refine ⟨trivial, ?_⟩)
          repeat (first | (refine wpWay_take rfl (by rfl) (by intro w hSw; (try dsimp only at hSw); first | (go_simp; done) | (go_simp; with_reducible rfl)) ?_; try simp only [Act.put, List.setIfInBounds_toArray, List.set_cons_zero, List.set_cons_succ]) | (refine wpWay_skip rfl (by rfl) ?_; try simp only [Act.put, List.setIfInBounds_toArray, List.set_cons_zero, List.set_cons_succ]))
          refine wpWay_ev rfl (fun K hK => ?_) wpWay_stop
          go_wp2_with (at_builtin; refine Enc.Own.append (E := extE) rfl (.tmp 45) (.tmp 56) 44 rfl w.heap.size 81 (.agg #[.int .i64 0, .int .i64 0, .int .i64 0, .int .i64 0, .int .i64 0]) 5 40 Tryz.underlying44 infoExt rfl rfl (by decide) (by decide) u3 _ rfl (HO3.out.bl (Bl.trans (Bl.refl _).drew hb5)) u5 _ rfl ho5.is ?hlen (Nat.le_trans HB6.out.size hb5.size) ?_; (case hlen => rw [List.length_append]; omega); intro u6 w11 ho6 hg6)
          (try refine ⟨trivial, ?_⟩)
          repeat (first | (refine wpWay_take rfl (by rfl) (by intro w hSw; (try dsimp only at hSw); first | (go_simp; done) | (go_simp; with_reducible rfl)) ?_; try simp only [Act.put, List.setIfInBounds_toArray, List.set_cons_zero, List.set_cons_succ]) | (refine wpWay_skip rfl (by rfl) ?_; try simp only [Act.put, List.setIfInBounds_toArray, List.set_cons_zero, List.set_cons_succ]))
          refine wpWay_done ?_
          have HB9 := Lib.hid ((HB6.out.bl (Bl.trans (Bl.refl _).drew hb5)).grown hg6 (fun k hk => (Enc.Own.lt HO3.out k hk).1))
          have HO6 := Lib.hid ho6
          clear ho6 hg6 hb5 ho5 hw hw'
          rw [← HR.out] at HO6
          go_wp2_with fail
          refine (rend_eq _ _ _ HO6.out.is HSE.out).mono ?_
          rintro e w12 ⟨rfl, rfl⟩
          go_wp2
          go_ret2
          first
            | exact ⟨_, rfl, Enc.Own.nil _ _ _, HB9.out⟩
            | exact ⟨_, rfl, HO6.out, HB9.out⟩
theorem rsplice_eq (v u : Value) (l new : List Ext) (fr tt : Int) (w : World) (h : extE.Is w v l) (hn : extE.Is w u new) (hv : validFrom 0 l = true) (hlen : new.length * 40 ≤ 100000000000000) {R : List Ext} {c : Int} (hm : spliceM l fr tt new = (R, c)) :
    Calls Tryz.prog 70 #[v, .int .i64 fr, .int .i64 tt, u] w fun e w' => ∃ z, e = .returned (.tuple #[z, .int .i64 c]) ∧ extE.Own 81 w' w.heap.size z R ∧ Bl w w' := by
  have := rsplice_any v u l new fr tt w h hn hv hlen
  rw [hm] at this; exact this
end Go.Proofs.YtddcjekkimajpaaGreat.ExtW

/- Contract of ref20's Lines.Apply. -/
namespace Go.Ov
open Go.RowKit
def fiL (s : LnM) (id : Int) : Int := idxFrom id 0 (s.map (·.1))
def delL (s : LnM) (i : Nat) : LnM := s.take i ++ s.drop (i + 1)
theorem LnRes.bad {w' : World} {n : Int} (hn : n ≠ 0) (s : LnM) : LnRes w' (.returned (.tuple #[.slice none 0 0, .int .i64 n])) (s, n) := ⟨fun h => absurd h hn, fun _ => rfl⟩
end Go.Ov
namespace Go.Proofs.YtddcjekkimajpaaGreat.ExtW
open Go.RowKit Go.Ov Go.Proofs.YtddcjekkimajpaaGreat.Need

def lspl (row : List Ext) (r : Rec) : List Ext × Int := spliceM row r.fr (min r.tt (endM row)) r.l
def lapplyM (s : LnM) (r : Rec) : LnM × Int :=
  if validRec r = false ∨ 3 < r.kind then ([], 1)
  else if r.kind = 1 then (if 0 ≤ fiL s r.track then ([], 6) else lputM s r.track [])
  else if fiL s r.track < 0 then ([], 5)
  else if r.kind = 2 then (delL s (fiL s r.track).toNat, 0)
  else if endM (s.getD (fiL s r.track).toNat (0, [])).2 < r.fr then ([], 7)
  else if (lspl (s.getD (fiL s r.track).toNat (0, [])).2 r).2 = 0 then lputM s r.track (lspl (s.getD (fiL s r.track).toNat (0, [])).2 r).1
  else ([], (lspl (s.getD (fiL s r.track).toNat (0, [])).2 r).2)

theorem fi_cases (id : Int) : ∀ (s : LnM) (k : Nat), idxFrom id k (s.map (·.1)) = -1 ∨ ∃ i, i < s.length ∧ idxFrom id k (s.map (·.1)) = ((k + i : Nat) : Int)
  | [], _ => .inl rfl
  | t :: s, k => by
    rw [List.map_cons, idxFrom]
    by_cases e : t.1 = id
    · rw [if_pos e]; exact .inr ⟨0, by simp, by simp⟩
    · rw [if_neg e]
      rcases fi_cases id s (k + 1) with h | ⟨i, h1, h2⟩
      · exact .inl h
      · exact .inr ⟨i + 1, by simpa using h1, by rw [h2]; omega⟩

set_option maxRecDepth 100000 in
set_option maxHeartbeats 4000000 in
theorem lapply_G (G : Nat → Bool) (v rv : Value) (s : LnM) (r : Rec) (w : World) (h : LnIs (only w G) v s) (hr : RecIs w rv r) (hs : s.length ≤ 1000) (hv : ∀ t ∈ s, validFrom 0 t.2 = true) :
    Calls Tryz.prog 44 #[v, rv] w fun e w' => LnRes (only w' (gor G w)) e (lapplyM s r) ∧ Bl w w' := by
  have HM := Lib.hid h
  have HS := Lib.hid (LnIs.sub (Sub.un w G) h)
  have HR := Lib.hid hr
  have HV := Lib.hid hv
  obtain ⟨u2, rfl, hl⟩ := hr
  have HL := Lib.hid hl
  obtain ⟨A, c, rfl, _⟩ := hl
  obtain ⟨hs0, hIs, hrows⟩ := h
  have HIS := Lib.hid ((Sub.un w G).is hIs)
  obtain ⟨A0, cc0, e0, q0, _, _, hat⟩ := hIs
  subst e0
  have HAT := Lib.hid ((Sub.un w G).at hat)
  have HATM := Lib.hid hat
  have HTR := Lib.hid hrows
  have hlen := hrows.1
  have HLEN := Lib.hid hlen
  have hu := Tryz.underlying46
  clear hat hrows hv
  cases hvr : validRec r with
  | false =>
    have HVR := Lib.hid hvr
    have HA := Lib.hid (show lapplyM s r = ([], 1) from if_pos (.inl hvr))
    clear hvr hlen
    go_enter Tryz.func44, Tryz.ntmps44
    go_wp2_with fail
    refine (rvalidR_any _ r _ (HR.out.bl ((Bl.refl _).alloc _))).mono ?_
    rintro e w1 ⟨rfl, hb⟩
    have HB := Lib.hid (((Bl.refl w).alloc _).bl hb)
    have HK := Lib.hid ((Blk.new w #[.int .i64 r.kind, .int .i64 r.track, .int .i64 r.fr, .int .i64 r.tt, .slice A r.l.length c] 46).bl hb)
    have d0 := HK.out.cell 0
    have d1 := HK.out.cell 1
    have d2 := HK.out.cell 2
    have d3 := HK.out.cell 3
    have d4 := HK.out.cell 4
    simp at d0 d1 d2 d3 d4
    clear hb
    rw [HVR.out]
    go_wp2_with fail
    go_ret2
    exact ⟨by rw [HA.out]; exact LnRes.bad (by decide) _, HB.out⟩
  | true =>
    have HVR := Lib.hid hvr
    have ha0 : lapplyM s r = if 3 < r.kind then ([], 1) else if r.kind = 1 then (if 0 ≤ fiL s r.track then ([], 6) else lputM s r.track [])
        else if fiL s r.track < 0 then ([], 5) else if r.kind = 2 then (delL s (fiL s r.track).toNat, 0) else if endM (s.getD (fiL s r.track).toNat (0, [])).2 < r.fr then ([], 7)
        else if (lspl (s.getD (fiL s r.track).toNat (0, [])).2 r).2 = 0 then lputM s r.track (lspl (s.getD (fiL s r.track).toNat (0, [])).2 r).1 else ([], (lspl (s.getD (fiL s r.track).toNat (0, [])).2 r).2) := by
      unfold lapplyM; simp only [hvr, Bool.true_eq_false, false_or]
    clear hlen
    by_cases hk3 : 3 < r.kind
    · rw [if_pos hk3] at ha0
      have HA := Lib.hid ha0
      clear ha0 hvr
      go_enter Tryz.func44, Tryz.ntmps44
      go_wp2_with fail
      refine (rvalidR_any _ r _ (HR.out.bl ((Bl.refl _).alloc _))).mono ?_
      rintro e w1 ⟨rfl, hb⟩
      have HB := Lib.hid (((Bl.refl w).alloc _).bl hb)
      have HK := Lib.hid ((Blk.new w #[.int .i64 r.kind, .int .i64 r.track, .int .i64 r.fr, .int .i64 r.tt, .slice A r.l.length c] 46).bl hb)
      have d0 := HK.out.cell 0
      have d1 := HK.out.cell 1
      have d2 := HK.out.cell 2
      have d3 := HK.out.cell 3
      have d4 := HK.out.cell 4
      simp at d0 d1 d2 d3 d4
      clear hb
      rw [HVR.out]
      go_wp2_with fail
      go_ret2
      exact ⟨by rw [HA.out]; exact LnRes.bad (by decide) _, HB.out⟩
    · rw [if_neg hk3] at ha0
      have hk0 : 1 ≤ r.kind := by
        unfold validRec at hvr
        by_cases h1 : r.kind = 1 ∨ r.kind = 2
        · omega
        · rw [if_neg h1, if_neg (by omega)] at hvr
          by_cases h3 : r.kind = 3
          · omega
          · rw [if_neg h3] at hvr; cases hvr
      have hvl : r.kind = 3 → validFrom 0 r.l = true := by
        intro h3
        unfold validRec at hvr
        rw [if_neg (by omega), if_neg (by omega), if_pos h3] at hvr
        simp only [spliceB, Bool.and_eq_true] at hvr
        exact hvr.2
      clear hvr
      have hfi := fi_cases r.track s 0
      by_cases hk1 : r.kind = 1
      · have e1 : (r.kind == 1) = true := by rw [hk1]; rfl
        rw [if_pos hk1] at ha0
        rcases hfi with hfi | ⟨i, hi, hfi⟩
        · have HF := Lib.hid hfi
          have HA := Lib.hid (show lapplyM s r = lputM s r.track [] by rw [ha0, if_neg (by unfold fiL; omega)])
          clear ha0 hfi hvl hk1
          go_enter Tryz.func44, Tryz.ntmps44
          go_wp2_with fail
          refine (rvalidR_any _ r _ (HR.out.bl ((Bl.refl _).alloc _))).mono ?_
          rintro e w1 ⟨rfl, hb⟩
          have HB := Lib.hid (((Bl.refl w).alloc _).bl hb)
          have HK := Lib.hid ((Blk.new w #[.int .i64 r.kind, .int .i64 r.track, .int .i64 r.fr, .int .i64 r.tt, .slice A r.l.length c] 46).bl hb)
          have d0 := HK.out.cell 0
          have d1 := HK.out.cell 1
          have d2 := HK.out.cell 2
          have d3 := HK.out.cell 3
          have d4 := HK.out.cell 4
          simp at d0 d1 d2 d3 d4
          clear hb
          rw [HVR.out]
          go_wp2_with fail
          refine (lfind_any _ s _ _ (HS.out.bl HB.out)).mono ?_
          rintro e w2 ⟨rfl, rfl⟩
          rw [HF.out]
          go_wp2_with fail
          refine (lput_G (gor G w) _ s r.track _ [] _ (LnIs.sub (Sub.mono (gor_l G w)) (HM.out.bl (HB.out.only G))) (Enc.Is.nil _) (by omega)).mono ?_
          rintro e w4 ⟨hres, hb⟩
          replace hres := hres.sub (Sub.mono (gor_gor HB.out.size))
          have HB4 := Lib.hid (HB.out.bl hb)
          clear hb
          by_cases hz : (lputM s r.track []).2 = 0
          · obtain ⟨u3, rfl, hst⟩ := hres.1 hz
            have HST := Lib.hid hst
            have HZ := Lib.hid hz
            clear hres hst hz
            go_wp2_with fail
            go_ret2
            exact ⟨by rw [HA.out]; exact ⟨fun _ => ⟨_, rfl, HST.out⟩, fun h => absurd HZ.out h⟩, HB4.out⟩
          · obtain rfl := hres.2 hz
            have HZ := Lib.hid hz
            clear hres hz
            go_wp2_with fail
            go_ret2
            exact ⟨by rw [HA.out]; exact ⟨fun h => absurd h HZ.out, fun _ => rfl⟩, HB4.out⟩
        · have HF := Lib.hid (show idxFrom r.track 0 (s.map (·.1)) = (i : Int) by rw [hfi]; omega)
          have HA := Lib.hid (show lapplyM s r = ([], 6) by rw [ha0, if_pos (by unfold fiL; omega)])
          clear ha0 hfi hvl hk1
          go_enter Tryz.func44, Tryz.ntmps44
          go_wp2_with fail
          refine (rvalidR_any _ r _ (HR.out.bl ((Bl.refl _).alloc _))).mono ?_
          rintro e w1 ⟨rfl, hb⟩
          have HB := Lib.hid (((Bl.refl w).alloc _).bl hb)
          have HK := Lib.hid ((Blk.new w #[.int .i64 r.kind, .int .i64 r.track, .int .i64 r.fr, .int .i64 r.tt, .slice A r.l.length c] 46).bl hb)
          have d0 := HK.out.cell 0
          have d1 := HK.out.cell 1
          have d2 := HK.out.cell 2
          have d3 := HK.out.cell 3
          have d4 := HK.out.cell 4
          simp at d0 d1 d2 d3 d4
          clear hb
          rw [HVR.out]
          go_wp2_with fail
          refine (lfind_any _ s _ _ (HS.out.bl HB.out)).mono ?_
          rintro e w2 ⟨rfl, rfl⟩
          rw [HF.out]
          go_wp2_with fail
          go_ret2
          exact ⟨by rw [HA.out]; exact LnRes.bad (by decide) _, HB.out⟩
      · have e1 : (r.kind == 1) = false := by rw [beq_eq_false_iff_ne]; exact hk1
        rw [if_neg hk1] at ha0
        rcases hfi with hfi | ⟨i, hi, hfi⟩
        · have HF := Lib.hid hfi
          have HA := Lib.hid (show lapplyM s r = ([], 5) by rw [ha0, if_pos (by unfold fiL; omega)])
          clear ha0 hfi hvl
          rcases (show r.kind = 2 ∨ r.kind = 3 from by omega) with hk2 | hk2
          all_goals
            first | have e2 : (r.kind == 2) = true := by rw [hk2]; rfl
                  | have e2 : (r.kind == 2) = false := by rw [hk2]; rfl
            clear hk1 hk2
            go_enter Tryz.func44, Tryz.ntmps44
            go_wp2_with fail
            refine (rvalidR_any _ r _ (HR.out.bl ((Bl.refl _).alloc _))).mono ?_
            rintro e w1 ⟨rfl, hb⟩
            have HB := Lib.hid (((Bl.refl w).alloc _).bl hb)
            have HK := Lib.hid ((Blk.new w #[.int .i64 r.kind, .int .i64 r.track, .int .i64 r.fr, .int .i64 r.tt, .slice A r.l.length c] 46).bl hb)
            have d0 := HK.out.cell 0
            have d1 := HK.out.cell 1
            have d2 := HK.out.cell 2
            have d3 := HK.out.cell 3
            have d4 := HK.out.cell 4
            simp at d0 d1 d2 d3 d4
            clear hb
            rw [HVR.out]
            go_wp2_with fail
            refine (lfind_any _ s _ _ (HS.out.bl HB.out)).mono ?_
            rintro e w2 ⟨rfl, rfl⟩
            rw [HF.out]
            go_wp2_with fail
            go_ret2
            exact ⟨by rw [HA.out]; exact LnRes.bad (by decide) _, HB.out⟩
        · have HF := Lib.hid (show idxFrom r.track 0 (s.map (·.1)) = (i : Int) by rw [hfi]; omega)
          have hfl : fiL s r.track = (i : Int) := HF.out
          rw [if_neg (by omega), hfl, Int.toNat_natCast] at ha0
          have hi2 : i < hs0.length := by have := HLEN.out; omega
          have hii : (i : Int) < hs0.length := by omega
          clear hfi hfl
          by_cases hk2 : r.kind = 2
          · have e2 : (r.kind == 2) = true := by rw [hk2]; rfl
            have HA := Lib.hid (show lapplyM s r = (delL s i, 0) by rw [ha0, if_pos hk2])
            clear ha0 hvl hk1 hk2
            obtain ⟨V1, hV1, hI1⟩ := slice_h (E := rowE) (P := Tryz.prog) (t := 27) (by kernel_rfl) (fun w => by kernel_rfl) A0 cc0 hs0 (i : Int) (by omega) (by omega) q0
            obtain ⟨V2, hV2, hI2⟩ := slice_l (E := rowE) (P := Tryz.prog) (t := 27) (by kernel_rfl) (fun w => by kernel_rfl) A0 cc0 hs0 ((i : Int) + 1) (by omega) (by omega)
            have HI1 := Lib.hid (hI1 w HIS.out)
            have HI2 := Lib.hid (hI2 w HIS.out)
            rw [Int.toNat_natCast] at HI1
            rw [show ((i : Int) + 1).toNat = i + 1 by omega] at HI2
            have hT1 : (hs0.take i).length ≤ 1000 := by have := HLEN.out; simp; omega
            have hT2 : (hs0.drop (i + 1)).length ≤ 1000 := by have := HLEN.out; simp; omega
            obtain ⟨T1, hT1e⟩ : ∃ T1, T1 = hs0.take i := ⟨_, rfl⟩
            obtain ⟨T2, hT2e⟩ : ∃ T2, T2 = hs0.drop (i + 1) := ⟨_, rfl⟩
            rw [← hT1e] at HI1 hT1
            rw [← hT2e] at HI2 hT2
            have HT1 := Lib.hid hT1e
            have HT2 := Lib.hid hT2e
            clear hT1e hT2e
            clear hI1 hI2
            have hw : IntKind.i64.wrap ((i : Int) + 1) = (i : Int) + 1 := IntWalk.i64_in _ (by omega)
            go_enter Tryz.func44, Tryz.ntmps44
            go_wp2_with fail
            refine (rvalidR_any _ r _ (HR.out.bl ((Bl.refl _).alloc _))).mono ?_
            rintro e w1 ⟨rfl, hb⟩
            have HB := Lib.hid (((Bl.refl w).alloc _).bl hb)
            have HK := Lib.hid ((Blk.new w #[.int .i64 r.kind, .int .i64 r.track, .int .i64 r.fr, .int .i64 r.tt, .slice A r.l.length c] 46).bl hb)
            have d0 := HK.out.cell 0
            have d1 := HK.out.cell 1
            have d2 := HK.out.cell 2
            have d3 := HK.out.cell 3
            have d4 := HK.out.cell 4
            simp at d0 d1 d2 d3 d4
            clear hb
            rw [HVR.out]
            go_wp2_with fail
            refine (lfind_any _ s _ _ (HS.out.bl HB.out)).mono ?_
            rintro e w2 ⟨rfl, rfl⟩
            rw [HF.out]
            go_wp2_with fail
            refine wp_region_ways (S := (fun _ => True)) [0, 1, 2, 4, 5, 6, 7, 9, 10] (y := .take 0 (.take 1 (.take 2 (.take 4 (.take 5 (.take 6 (.take 7 (.ev 3 (.ev 8 (.take 9 (.take 10 (.done))) (.stop)) (.stop))))))))) (by kernel_rfl) (by kernel_rfl) (by kernel_rfl) ?_ (fun hHeld => ?_)
            · trivial
            repeat (first | (refine wpWay_take rfl (by rfl) (by intro w hSw; (try dsimp only at hSw); first | (go_simp; done) | (go_simp; with_reducible rfl)) ?_; try simp only [Act.put, List.setIfInBounds_toArray, List.set_cons_zero, List.set_cons_succ]) | (refine wpWay_skip rfl (by rfl) ?_; try simp only [Act.put, List.setIfInBounds_toArray, List.set_cons_zero, List.set_cons_succ]))
            clear hHeld
            have HB2 := Lib.hid (HB.out.drew)
            refine wpWay_ev rfl (fun K hK => ?_) wpWay_stop
            go_wp2_with (at_builtin; refine Enc.Own.append (E := rowE) rfl (.const (.slice none 0 0)) (.tmp 40) 27 rfl w.heap.size 73 (.agg #[.int .i64 0, .slice none 0 0]) 2 32 Tryz.underlying27 infoRow20 rfl rfl (by decide) (by decide) (.slice none 0 0) [] rfl (Enc.Own.nil _ _ _) _ _ rfl (HI1.out.bl HB2.out) ?hlen1 ?hbase1 ?_; (case hlen1 => simp; omega); (case hbase1 => exact HB2.out.size); intro v1 w3 ho hg)
            have HB3 := Lib.hid (HB2.out.grown hg (fun k hk => by simp [Value.ownBlock] at hk))
            obtain ⟨A5, c5, rfl⟩ := ho.slice
            simp only [List.nil_append] at ho
            have HO1 := Lib.hid ho
            clear ho hg
            repeat (first | (refine wpWay_take rfl (by rfl) (by intro w hSw; (try dsimp only at hSw); first | (go_simp; done) | (go_simp; with_reducible rfl)) ?_; try simp only [Act.put, List.setIfInBounds_toArray, List.set_cons_zero, List.set_cons_succ]) | (refine wpWay_skip rfl (by rfl) ?_; try simp only [Act.put, List.setIfInBounds_toArray, List.set_cons_zero, List.set_cons_succ]))
            refine wpWay_ev rfl (fun K hK => ?_) wpWay_stop
            go_wp2_with (at_builtin; refine Enc.Own.append (E := rowE) rfl (.tmp 41) (.tmp 45) 27 rfl w.heap.size 73 (.agg #[.int .i64 0, .slice none 0 0]) 2 32 Tryz.underlying27 infoRow20 rfl rfl (by decide) (by decide) _ _ rfl HO1.out _ _ rfl (HI2.out.bl HB3.out) ?hlen2 ?hbase2 ?_; (case hlen2 => omega); (case hbase2 => exact HB3.out.size); intro v2 w4 ho hg)
            have HB4 := Lib.hid (HB3.out.grown hg (fun k hk => (Enc.Own.lt HO1.out k hk).1))
            obtain ⟨A6, c6, rfl⟩ := ho.slice
            simp only [List.length_append] at ho
            have HO2 := Lib.hid ho
            clear ho hg
            repeat (first | (refine wpWay_take rfl (by rfl) (by intro w hSw; (try dsimp only at hSw); first | (go_simp; done) | (go_simp; with_reducible rfl)) ?_; try simp only [Act.put, List.setIfInBounds_toArray, List.set_cons_zero, List.set_cons_succ]) | (refine wpWay_skip rfl (by rfl) ?_; try simp only [Act.put, List.setIfInBounds_toArray, List.set_cons_zero, List.set_cons_succ]))
            refine wpWay_done ?_
            go_wp2_with fail
            go_ret2
            exact ⟨by rw [HA.out]; exact ⟨fun _ => ⟨_, rfl, _, HO2.out.isM (fun k hk => fr_gor G w k (fr_ge (Nat.le_refl _) hk)), by
              have := LnRows.sub (Sub.mono (gor_l G w)) (HTR.out.bl (HB4.out.only G))
              have h1 := (this.take i).append (this.drop (i + 1))
              rw [HT1.out, HT2.out]; exact h1⟩, fun h => absurd rfl h⟩, HB4.out⟩
          · have e2 : (r.kind == 2) = false := by rw [beq_eq_false_iff_ne]; exact hk2
            have hk : r.kind = 3 := by omega
            rw [if_neg hk2] at ha0
            have hsi : i < s.length := hi
            rw [show s.getD i (0, []) = s[i] by rw [List.getD_eq_getElem?_getD, List.getElem?_eq_getElem hsi]; rfl] at ha0
            obtain ⟨hi3, htr⟩ := HTR.out.at i hsi
            have HT := Lib.hid htr
            have hval := HV.out s[i] (List.getElem_mem hsi)
            have hlr := valid_len _ (hvl hk)
            obtain ⟨ad, rfl, k0, k1⟩ := row_at HAT.out i hi2
            generalize s[i] = t at *
            generalize hs0[i] = th at *
            obtain ⟨ti, row⟩ := t
            obtain ⟨tid, A3, n3, c3⟩ := th
            dsimp only at k0 k1 ha0 hval
            have hvb := validFrom_bd row 0 (by decide) hval
            have HX := Lib.hid ((Sub.un w G).is htr.2)
            have HW := Lib.hid (show wrap64 (endM row) = endM row from wrap_id (by omega) (by omega))
            have HA1 := Lib.hid ha0
            have HVAL := Lib.hid hval
            have B1 := Lib.hid k1
            clear ha0 hvl hk1 hk2 hk htr hval k0 k1
            by_cases hfr : endM row < r.fr
            · have HA := Lib.hid (show lapplyM s r = ([], 7) by rw [HA1.out, if_pos hfr])
              go_enter Tryz.func44, Tryz.ntmps44
              go_wp2_with fail
              refine (rvalidR_any _ r _ (HR.out.bl ((Bl.refl _).alloc _))).mono ?_
              rintro e w1 ⟨rfl, hb⟩
              have HB := Lib.hid (((Bl.refl w).alloc _).bl hb)
              have HK := Lib.hid ((Blk.new w #[.int .i64 r.kind, .int .i64 r.track, .int .i64 r.fr, .int .i64 r.tt, .slice A r.l.length c] 46).bl hb)
              have d0 := HK.out.cell 0
              have d1 := HK.out.cell 1
              have d2 := HK.out.cell 2
              have d3 := HK.out.cell 3
              have d4 := HK.out.cell 4
              simp at d0 d1 d2 d3 d4
              clear hb
              rw [HVR.out]
              go_wp2_with fail
              refine (lfind_any _ s _ _ (HS.out.bl HB.out)).mono ?_
              rintro e w2 ⟨rfl, rfl⟩
              rw [HF.out]
              have k1 := HB.out.cell B1.out
              go_wp2_with fail
              refine (rend_eq _ row _ (HX.out.bl HB.out) HW.out).mono ?_
              rintro e w2 ⟨rfl, rfl⟩
              go_wp2_with fail
              go_ret2
              exact ⟨by rw [HA.out]; exact LnRes.bad (by decide) _, HB.out⟩
            · have HA := Lib.hid (show lapplyM s r = if (lspl row r).2 = 0 then lputM s r.track (lspl row r).1 else ([], (lspl row r).2) by rw [HA1.out, if_neg hfr])
              go_enter Tryz.func44, Tryz.ntmps44
              go_wp2_with fail
              refine (rvalidR_any _ r _ (HR.out.bl ((Bl.refl _).alloc _))).mono ?_
              rintro e w1 ⟨rfl, hb⟩
              have HB := Lib.hid (((Bl.refl w).alloc _).bl hb)
              have HK := Lib.hid ((Blk.new w #[.int .i64 r.kind, .int .i64 r.track, .int .i64 r.fr, .int .i64 r.tt, .slice A r.l.length c] 46).bl hb)
              have d0 := HK.out.cell 0
              have d1 := HK.out.cell 1
              have d2 := HK.out.cell 2
              have d3 := HK.out.cell 3
              have d4 := HK.out.cell 4
              simp at d0 d1 d2 d3 d4
              clear hb
              rw [HVR.out]
              go_wp2_with fail
              refine (lfind_any _ s _ _ (HS.out.bl HB.out)).mono ?_
              rintro e w2 ⟨rfl, rfl⟩
              rw [HF.out]
              have k1 := HB.out.cell B1.out
              go_wp2_with fail
              refine (rend_eq _ row _ (HX.out.bl HB.out) HW.out).mono ?_
              rintro e w2 ⟨rfl, rfl⟩
              go_wp2_with fail
              refine wp_region_ways (S := (fun w' => w'.cell? ⟨(ad.add (i * 2)).block, (ad.add (i * 2)).off + 1, none⟩ = some (.slice A3 n3 c3) ∧ w'.cell? ⟨w.heap.size, 2, none⟩ = some (.int .i64 r.fr) ∧ w'.cell? ⟨w.heap.size, 3, none⟩ = some (.int .i64 r.tt) ∧ w'.cell? ⟨w.heap.size, 4, none⟩ = some (.slice A r.l.length c))) [0, 1, 2, 3, 4, 5, 6, 7, 8, 9, 10, 11, 12, 14, 15, 16, 17, 18] (y := .take 0 (.take 1 (.take 2 (.take 3 (.take 4 (.take 5 (.take 6 (.take 7 (.take 8 (.take 9 (.take 10 (.take 11 (.take 12 (.ev 13 (.take 14 (.take 15 (.take 16 (.take 17 (.take 18 (.done)))))) (.stop))))))))))))))) (by kernel_rfl) (by kernel_rfl) (by kernel_rfl) ?_ (fun hHeld => ?_)
              · exact ⟨Bl.cell (Bl.refl _).drew k1, Bl.cell (Bl.refl _).drew d2, Bl.cell (Bl.refl _).drew d3, Bl.cell (Bl.refl _).drew d4⟩
              repeat (first | (refine wpWay_take rfl (by rfl) (by intro w hSw; (try dsimp only at hSw); first | (go_simp; done) | (go_simp; with_reducible rfl)) ?_; try simp only [Act.put, List.setIfInBounds_toArray, List.set_cons_zero, List.set_cons_succ]) | (refine wpWay_skip rfl (by rfl) ?_; try simp only [Act.put, List.setIfInBounds_toArray, List.set_cons_zero, List.set_cons_succ]))
              refine wpWay_ev rfl (fun K hK => ?_) wpWay_stop
              have HH := Lib.hid hHeld
              clear hHeld
              have HB2 := Lib.hid HB.out.drew
              replace d1 := Bl.cell (Bl.refl _).drew d1
              go_wp2_with fail
              obtain ⟨q, hq⟩ : ∃ q, q = lspl row r := ⟨_, rfl⟩
              have HQ := Lib.hid hq
              refine (rsplice_eq _ _ row r.l r.fr (min r.tt (endM row)) _ (HX.out.bl HB2.out) (HL.out.bl HB2.out) HVAL.out (by omega) (R := q.1) (c := q.2) (by rw [hq]; rfl)).mono ?_
              clear hq
              rintro e w3 ⟨z, rfl, ho, hb⟩
              have HB3 := Lib.hid (HB2.out.bl hb)
              have HO := Lib.hid ho
              replace d1 := hb.cell d1
              obtain ⟨A4, c4, rfl⟩ := ho.slice
              have hh := And.intro (hb.cell HH.out.1) (And.intro (hb.cell HH.out.2.1) (And.intro (hb.cell HH.out.2.2.1) (hb.cell HH.out.2.2.2)))
              clear ho hb
              go_wp2_with fail
              refine ⟨hh, ?_⟩
              repeat (first | (refine wpWay_take rfl (by rfl) (by intro w hSw; (try dsimp only at hSw); first | (go_simp; done) | (go_simp; with_reducible rfl)) ?_; try simp only [Act.put, List.setIfInBounds_toArray, List.set_cons_zero, List.set_cons_succ]) | (refine wpWay_skip rfl (by rfl) ?_; try simp only [Act.put, List.setIfInBounds_toArray, List.set_cons_zero, List.set_cons_succ]))
              refine wpWay_done ?_
              clear hh
              obtain ⟨q1, q2⟩ := q
              by_cases hz : q2 = 0
              · subst hz
                have HA2 := Lib.hid (show lapplyM s r = lputM s r.track q1 by rw [HA.out, ← HQ.out, if_pos rfl])
                go_wp2_with fail
                refine (lput_G (gor G w) _ s r.track _ q1 _ (LnIs.sub (Sub.mono (gor_l G w)) (HM.out.bl (HB3.out.only G))) (HO.out.isM (fun k hk => fr_gor G w k (fr_ge HB2.out.size hk))) (by omega)).mono ?_
                rintro e w4 ⟨hres, hb⟩
                replace hres := hres.sub (Sub.mono (gor_gor HB3.out.size))
                have HB4 := Lib.hid (HB3.out.bl hb)
                clear hb
                by_cases hz : (lputM s r.track q1).2 = 0
                · obtain ⟨u3, rfl, hst⟩ := hres.1 hz
                  have HST := Lib.hid hst
                  have HZ := Lib.hid hz
                  clear hres hst hz
                  go_wp2_with fail
                  go_ret2
                  exact ⟨by rw [HA2.out]; exact ⟨fun _ => ⟨_, rfl, HST.out⟩, fun h => absurd HZ.out h⟩, HB4.out⟩
                · obtain rfl := hres.2 hz
                  have HZ := Lib.hid hz
                  clear hres hz
                  go_wp2_with fail
                  go_ret2
                  exact ⟨by rw [HA2.out]; exact ⟨fun h => absurd h HZ.out, fun _ => rfl⟩, HB4.out⟩
              · have HA2 := Lib.hid (show lapplyM s r = ([], q2) by rw [HA.out, ← HQ.out, if_neg hz])
                have hz1 : (q2 == 0) = false := by simpa using hz
                have hz2 : (q2 != 0) = true := by simpa using hz
                have HZ := Lib.hid hz
                clear hz
                go_wp2_with fail
                go_ret2
                exact ⟨by rw [HA2.out]; exact LnRes.bad HZ.out _, HB3.out⟩
end Go.Proofs.YtddcjekkimajpaaGreat.ExtW

/- States in plain words: what put, delete and apply make. -/
namespace Go.Proofs.YtddcjekkimajpaaGreat.ExtW
open Go.RowKit Go.Ov Go.Proofs.YtddcjekkimajpaaGreat.Need

theorem getS_none {s : StM} {id : Int} : getS s id = none ↔ ∀ t ∈ s, t.1 ≠ id := by
  induction s with
  | nil => simp [getS]
  | cons t s ih =>
    unfold getS
    by_cases e : t.1 = id
    · rw [if_pos e]; simp [e]
    · rw [if_neg e, ih]; simp [e]
theorem getS_append {a b : StM} {id : Int} (h : getS a id = none) : getS (a ++ b) id = getS b id := by
  induction a with
  | nil => rfl
  | cons t a ih =>
    unfold getS at h
    by_cases e : t.1 = id
    · rw [if_pos e] at h; cases h
    · rw [if_neg e] at h
      rw [List.cons_append]
      conv => lhs; unfold getS
      rw [if_neg e]; exact ih h
theorem getS_append_some {a b : StM} {id : Int} {t : TreeM} (h : getS a id = some t) : getS (a ++ b) id = some t := by
  induction a with
  | nil => cases h
  | cons x a ih =>
    unfold getS at h
    rw [List.cons_append]
    unfold getS
    by_cases e : x.1 = id
    · rw [if_pos e] at h ⊢; exact h
    · rw [if_neg e] at h ⊢; exact ih h
theorem without_none (s : StM) (id : Int) : getS (withoutS s id) id = none := by
  rw [getS_none]
  intro t ht
  have := (List.mem_filter.1 ht).2
  simpa using this
theorem without_other {s : StM} {id j : Int} (h : j ≠ id) : getS (withoutS s id) j = getS s j := by
  induction s with
  | nil => rfl
  | cons t s ih =>
    unfold withoutS at ih ⊢
    by_cases e : t.1 = id
    · rw [List.filter_cons_of_neg (by simpa using e), ih]
      conv => rhs; unfold getS
      rw [if_neg (by rw [e]; exact fun h' => h h'.symm)]
    · rw [List.filter_cons_of_pos (by simpa using e)]
      unfold getS
      rw [ih]
theorem getS_split (a b : StM) (t : TrackM) (j : Int) : getS (a ++ t :: b) j = if t.1 = j ∧ getS a j = none then some t.2 else getS (a ++ b) j := by
  cases h : getS a j with
  | none =>
    rw [getS_append h, getS_append h]
    conv => lhs; unfold getS
    by_cases e : t.1 = j
    · rw [if_pos e, if_pos ⟨e, rfl⟩]
    · rw [if_neg e, if_neg (fun q => e q.1)]
  | some x => rw [getS_append_some h, getS_append_some h, if_neg (fun q => by cases q.2)]
theorem put_get (s : StM) (id j : Int) (t : TreeM) : getS (putL s id t) j = if j = id then some t else getS s j := by
  unfold putL insertS
  rw [getS_split, List.take_append_drop]
  by_cases e : j = id
  · subst e
    have hn : getS ((withoutS s j).take (below j (withoutS s j))) j = none := by
      rw [getS_none]
      intro x hx
      exact getS_none.1 (without_none s j) x (List.mem_of_mem_take hx)
    rw [if_pos ⟨rfl, hn⟩, if_pos rfl]
  · rw [if_neg (fun q => e q.1.symm), if_neg e, without_other e]
theorem put_len (s : StM) (id : Int) (t : TreeM) : (putL s id t).length = (withoutS s id).length + 1 := by
  unfold putL insertS
  have := below_le id (withoutS s id)
  simp; omega
theorem put_mem {s : StM} {id : Int} {t : TreeM} {x : TrackM} (h : x ∈ putL s id t) : x = (id, t) ∨ x ∈ s := by
  unfold putL insertS at h
  rcases List.mem_append.1 h with h | h
  · exact .inr (List.mem_filter.1 (List.mem_of_mem_take h)).1
  · rcases List.mem_cons.1 h with h | h
    · exact .inl h
    · exact .inr (List.mem_filter.1 (List.mem_of_mem_drop h)).1

/-- rising names -/
def Rising (s : StM) : Prop := s.Pairwise fun a b => a.1 < b.1
theorem without_rising {s : StM} (h : Rising s) (id : Int) : Rising (withoutS s id) := List.Pairwise.sublist List.filter_sublist h
theorem without_len_none {s : StM} {id : Int} (h : getS s id = none) : (withoutS s id).length = s.length := by
  unfold withoutS
  rw [List.filter_eq_self.2]
  intro t ht
  have := getS_none.1 h t ht
  simpa using this
theorem without_len_some : ∀ {s : StM} {id : Int} {t : TreeM}, Rising s → getS s id = some t → (withoutS s id).length + 1 = s.length
  | [], _, _, _, h => by cases h
  | x :: s, id, t, hr, h => by
    obtain ⟨h1, h2⟩ := List.pairwise_cons.1 hr
    unfold getS at h
    by_cases e : x.1 = id
    · have hn : getS s id = none := by
        rw [getS_none]
        intro y hy
        have := h1 y hy
        omega
      have := without_len_none hn
      unfold withoutS at this ⊢
      rw [List.filter_cons_of_neg (by simpa using e), this]; rfl
    · rw [if_neg e] at h
      have ih := without_len_some h2 h
      unfold withoutS at ih ⊢
      rw [List.filter_cons_of_pos (by simpa using e), List.length_cons, List.length_cons, ih]
theorem put_rising {s : StM} (h : Rising s) (id : Int) (t : TreeM) : Rising (putL s id t) := by
  have hw := without_rising h id
  have hne : ∀ x ∈ withoutS s id, x.1 ≠ id := fun x hx => getS_none.1 (without_none s id) x hx
  unfold putL insertS
  generalize withoutS s id = S at *
  have hlo : ∀ x ∈ S.take (below id S), x.1 < id := by
    intro x hx
    obtain ⟨k, hk, rfl⟩ := List.getElem_of_mem hx
    rw [List.length_take] at hk
    rw [List.getElem_take]
    exact below_lt id S k (by omega) (by omega)
  have hhi : ∀ x ∈ S.drop (below id S), id < x.1 := by
    intro x hx
    obtain ⟨k, hk, rfl⟩ := List.getElem_of_mem hx
    rw [List.length_drop] at hk
    rw [List.getElem_drop]
    have h0 : below id S < S.length := by omega
    have hg := below_ge id S h0
    have hn := hne S[below id S] (List.getElem_mem h0)
    rcases Nat.eq_zero_or_pos k with rfl | hp
    · simp only [Nat.add_zero]; omega
    · have := List.pairwise_iff_getElem.1 hw (below id S) (below id S + k) h0 (by omega) (by omega)
      omega
  refine List.pairwise_append.2 ⟨hw.sublist (List.take_sublist _ _), List.pairwise_cons.2 ⟨fun x hx => hhi x hx, hw.sublist (List.drop_sublist _ _)⟩, fun a ha b hb => ?_⟩
  rcases List.mem_cons.1 hb with rfl | hb
  · exact hlo a ha
  · exact Int.lt_trans (hlo a ha) (hhi b hb)

/-- states as they come about -/
def SOK (s : StM) : Prop := StOK s ∧ Rising s
theorem SOK.nil : SOK [] := ⟨⟨by decide, fun t h => by cases h⟩, List.Pairwise.nil⟩
theorem SOK.without {s : StM} (h : SOK s) (id : Int) : SOK (withoutS s id) :=
  ⟨⟨Nat.le_trans (List.length_filter_le _ _) h.1.1, fun t ht => h.1.2 t (List.mem_filter.1 ht).1⟩, without_rising h.2 id⟩
theorem SOK.put {s : StM} (h : SOK s) {id : Int} {t : TreeM} (ht : validFrom 0 t.row = true) (hz : (putR s id t).2 = 0) : SOK (putR s id t).1 := by
  unfold putR at *
  split at hz
  · cases hz
  · rename_i hb
    rw [if_neg hb]
    split at hz
    · cases hz
    · rename_i hl
      rw [if_neg hl]
      refine ⟨⟨?_, fun x hx => ?_⟩, put_rising h.2 id t⟩
      · rw [put_len]
        cases hg : getS s id with
        | none =>
          rw [without_len_none hg]
          have := find_none hg
          omega
        | some y => rw [without_len_some h.2 hg]; exact h.1.1
      · rcases put_mem hx with rfl | hx
        · exact ht
        · exact h.1.2 x hx
theorem SOK.apply {s : StM} (h : SOK s) {r : Rec} (hz : (applyR s r).2 = 0) : SOK (applyR s r).1 := by
  unfold applyR at *
  split at hz
  · cases hz
  · rename_i h0
    rw [if_neg h0]
    split at hz
    · rename_i h1
      rw [if_pos h1]
      split at hz
      · cases hz
      · rename_i h2
        rw [if_neg h2]
        exact h.put rfl hz
    · rename_i h1
      rw [if_neg h1]
      cases hg : getS s r.track with
      | none => simp only [hg] at hz; cases hz
      | some t =>
        simp only [hg] at hz ⊢
        have hv : validFrom 0 t.row = true := by
          rcases findS_get s r.track with ⟨_, g2⟩ | ⟨i, hi, _, _, g3⟩
          · rw [hg] at g2; cases g2
          · rw [hg] at g3; injection g3 with g3; rw [g3]; exact h.1.2 s[i] (List.getElem_mem hi)
        unfold applyT at *
        split at hz
        · rename_i h2
          rw [if_pos h2]; exact h.without _
        · rename_i h2
          rw [if_neg h2]
          split at hz
          · cases hz
          · rename_i h3
            rw [if_neg h3]
            by_cases h4 : (spliceOf t r).2 = 0
            · rw [if_pos h4] at hz ⊢
              exact h.put (splice_row_valid hv h4) hz
            · rw [if_neg h4] at hz
              exact absurd hz h4
def recC (id : Int) : Rec := ⟨1, id, 0, 0, []⟩
def recD (id : Int) : Rec := ⟨2, id, 0, 0, []⟩
theorem valid_recC (id : Int) (h0 : 0 ≤ id) (h1 : id ≤ 99) : validRec (recC id) = true := by simp [validRec, recC, noneB, trackB, h0, h1]
theorem valid_recD (id : Int) (h0 : 0 ≤ id) (h1 : id ≤ 99) : validRec (recD id) = true := by simp [validRec, recD, noneB, trackB, h0, h1]
theorem apply_C (s : StM) (id : Int) (h0 : 0 ≤ id) (h1 : id ≤ 99) :
    (getS s id ≠ none → applyR s (recC id) = ([], 6)) ∧ (getS s id = none → 6 ≤ s.length → applyR s (recC id) = ([], 4)) ∧ (getS s id = none → s.length < 6 → applyR s (recC id) = (putL s id (treeM []), 0)) := by
  have e : applyR s (recC id) = if 0 ≤ findS s id then ([], 6) else putR s id (treeM []) := by
    unfold applyR
    rw [if_neg (by rw [valid_recC id h0 h1]; simp [recC]), if_pos (show (recC id).kind = 1 from rfl)]; rfl
  rw [e]
  refine ⟨fun hg => ?_, fun hg hl => ?_, fun hg hl => ?_⟩
  · rcases findS_get s id with ⟨_, g2⟩ | ⟨i, hi, g1, _⟩
    · exact absurd g2 hg
    · rw [if_pos (by omega)]
  · have := find_none hg
    rw [if_neg (by omega)]
    unfold putR
    rw [if_neg (by omega), if_pos ⟨by omega, hl⟩]
  · have := find_none hg
    rw [if_neg (by omega)]
    unfold putR
    rw [if_neg (by omega), if_neg (by omega)]
theorem apply_D (s : StM) (id : Int) (h0 : 0 ≤ id) (h1 : id ≤ 99) :
    (getS s id = none → applyR s (recD id) = ([], 5)) ∧ (getS s id ≠ none → applyR s (recD id) = (withoutS s id, 0)) := by
  have e : applyR s (recD id) = match getS s id with | none => ([], 5) | some t => applyT s (recD id) t := by
    unfold applyR
    rw [if_neg (by rw [valid_recD id h0 h1]; simp [recD]), if_neg (by simp [recD])]; rfl
  rw [e]
  refine ⟨fun hg => by rw [hg], fun hg => ?_⟩
  cases h : getS s id with
  | none => exact absurd h hg
  | some t => simp only; unfold applyT; rw [if_pos (show (recD id).kind = 2 from rfl)]; rfl
end Go.Proofs.YtddcjekkimajpaaGreat.ExtW

/- Contract of overdubkeep.Same at int. -/
namespace Go.Proofs.YtddcjekkimajpaaGreat.ExtW
open Go.RowKit Go.Ov Go.Proofs.YtddcjekkimajpaaGreat.Need

set_option maxRecDepth 100000 in
set_option maxHeartbeats 1000000 in
theorem sameInt_any (v u : Value) (a b : List Int) (w : World) (h : intE.Is w v a) (h' : intE.Is w u b) :
    Calls Tryz.prog 34 #[v, u] w fun e w' => e = .returned (.bool (decide (a = b))) ∧ Bl w w' := by
  obtain ⟨A, c, rfl, h1, h2, h3, h4⟩ := h
  obtain ⟨A', c', rfl, h1', h2', h3', h4'⟩ := h'
  have HA := Lib.hid h4
  have HA' := Lib.hid h4'
  have hl : a.length ≤ 9223372036854775807 := by unfold maxLen at h2; omega
  have hl' : b.length ≤ 9223372036854775807 := by unfold maxLen at h2'; omega
  clear h1 h2 h3 h4 h1' h2' h3' h4'
  by_cases hlen : a.length = b.length
  · go_enter Tryz.func34, Tryz.ntmps34
    go_wp2
    have HL := Lib.hid hlen
    clear hlen
    go_loopg [5] b.length (fun g i wr => ∃ k : Nat, k ≤ b.length ∧ g = b.length - k ∧ i = .int .i64 k ∧ Hid (a.take k = b.take k) ∧ Bl w wr)
    case atStart => exact ⟨0, by omega, rfl, rfl, Lib.hid rfl, Bl.refl _⟩
    case round =>
      obtain ⟨k, hk, rfl, rfl, heq, hbl⟩ := hrel
      have HB := Lib.hid hbl
      clear hbl
      by_cases hlt : k < b.length
      · have hlta : k < a.length := by have := HL.out; omega
        have hlti : (k : Int) < a.length := by omega
        obtain ⟨ad, rfl, c0⟩ := int_at (HA.out.bl HB.out) k hlta
        obtain ⟨ad', rfl, d0⟩ := int_at (HA'.out.bl HB.out) k hlt
        have ta := Lib.hid (List.take_succ_eq_append_getElem hlta)
        have tb := Lib.hid (List.take_succ_eq_append_getElem hlt)
        have hne := Lib.hid (fun h : a = b => show a[k]'hlta = b[k]'hlt by simp [h])
        generalize a[k] = x at *
        generalize b[k] = y at *
        go_wp2_with fail
        go_quiet (fail)
        by_cases hq : x = y
        rotate_left
        · have hb : (x != y) = true := by simp [hq]
          have HQ := Lib.hid hq
          clear hq
          go_wp2
          go_ret
          refine ⟨ret_bool ?_, HB.out.drewN _⟩
          symm; rw [decide_eq_false_iff_not]
          intro h; exact HQ.out (hne.out h)
        · have hb : (x != y) = false := by simp [hq]
          have HQ := Lib.hid hq
          clear hq
          go_wp2
          go_roundg (b.length - (k + 1))
          case measure => omega
          case rel =>
            refine ⟨k + 1, by omega, rfl, by go_num, Lib.hid ?_, HB.out.drewN _⟩
            rw [ta.out, tb.out, heq.out, HQ.out]
      · have hna : ¬ k < a.length := by have := HL.out; omega
        go_wp2
        go_ret
        refine ⟨ret_bool ?_, HB.out⟩
        symm; rw [decide_eq_true_eq]
        have h := heq.out
        have := HL.out
        rwa [List.take_of_length_le (by omega), List.take_of_length_le (by omega)] at h
  · have hd : decide (a = b) = false := decide_eq_false (fun h => hlen (by rw [h]))
    have HD := Lib.hid hd
    clear hd
    go_enter Tryz.func34, Tryz.ntmps34
    go_wp2
    go_ret
    exact ⟨ret_bool HD.out.symm, Bl.refl _⟩

end Go.Proofs.YtddcjekkimajpaaGreat.ExtW

/- The walk of overdublaw21.StateTracks. -/
namespace Go.Proofs.YtddcjekkimajpaaGreat.ExtW
open Go.RowKit Go.Ov Go.Proofs.YtddcjekkimajpaaGreat.Need

theorem rec_is (w : World) (k t f o : Int) : RecIs w (.agg #[.int .i64 k, .int .i64 t, .int .i64 f, .int .i64 o, .slice none 0 0]) ⟨k, t, f, o, []⟩ := ⟨_, rfl, Enc.Is.nil _⟩

end Go.Proofs.YtddcjekkimajpaaGreat.ExtW

/- The walk of overdublaw21.StateErrors. -/
namespace Go.Proofs.YtddcjekkimajpaaGreat.ExtW
open Go.RowKit Go.Ov Go.Proofs.YtddcjekkimajpaaGreat.Need

def longE (i : Nat) : Ext := ⟨i, 1, 1, 0, 1⟩
def longL (k : Nat) : List Ext := (List.range k).map longE
theorem longL_succ (k : Nat) : longL (k + 1) = longL k ++ [longE k] := by simp [longL, List.range_succ]
theorem longL_len (k : Nat) : (longL k).length = k := by simp [longL]
theorem longL_end : ∀ k : Nat, endM (longL k) = k
  | 0 => rfl
  | k + 1 => by rw [longL_succ, endM_append, longL_end k]; simp [endM, longE]
theorem longL_valid : ∀ k : Nat, k ≤ 1000 → validFrom 0 (longL k) = true
  | 0, _ => rfl
  | k + 1, h => by
    rw [longL_succ, valid_append, longL_valid k (by omega), longL_end]
    simp [validFrom, longE, oneB]; omega
theorem splice_none_long (L : List Ext) (hv : validFrom 0 L = true) (he : endM L = 1000) : spliceM [] 0 0 L = (shiftM 0 L, 0) := by
  have h1 : spliceBad [] 0 0 L = false := by simp [spliceBad, hv, endM]
  have h2 : spliceLong [] 0 0 L = false := by unfold spliceLong; rw [he]; simp [endM]
  unfold spliceM
  rw [h1, h2]
  simp [spliceL, cutM, shiftM]
theorem splice_over (l : List Ext) (by_ : Int) (hl : endM l = 1000) (h0 : 0 ≤ by_) (h1 : by_ ≤ 1000) : spliceM l by_ by_ (longL 1) = ([], 4) := by
  have e1 : spliceBad l by_ by_ (longL 1) = false := by
    simp only [spliceBad, longL_valid 1 (by decide), hl]; simp; omega
  have e2 : spliceLong l by_ by_ (longL 1) = true := by unfold spliceLong; rw [longL_end, hl]; simp; omega
  unfold spliceM
  rw [e1, e2]; rfl
theorem longL_take (n : Nat) (h : 1 ≤ n) : (longL n).take 1 = longL 1 := by
  unfold longL
  rw [← List.map_take, List.take_range, Nat.min_eq_left h]
def recS (id fr tt : Int) (l : List Ext) : Rec := ⟨3, id, fr, tt, l⟩
theorem apply_S (s : StM) (id fr tt : Int) (l : List Ext) (h0 : 0 ≤ id) (h1 : id ≤ 99) (h2 : 0 ≤ fr) (h3 : fr ≤ tt) (h4 : tt ≤ 1000) (hv : validFrom 0 l = true) :
    applyR s (recS id fr tt l) = match getS s id with | none => ([], 5) | some t => applyT s (recS id fr tt l) t := by
  have e : validRec (recS id fr tt l) = true := by
    simp [validRec, recS, spliceB, trackB, h0, h1, h2, h3, h4, hv]
  unfold applyR
  rw [if_neg (by rw [e]; simp [recS]), if_neg (by simp [recS])]; rfl
def oneS (id : Int) : StM := putL [] id (treeM [])
theorem one_get (id j : Int) : getS (oneS id) j = if j = id then some (treeM []) else none := by unfold oneS; rw [put_get]; rfl
theorem one_ok (id : Int) (h0 : 0 ≤ id) (h1 : id ≤ 99) : SOK (oneS id) := by
  have hz := (apply_C [] id h0 h1).2.2 rfl (by decide)
  have := SOK.nil.apply (r := recC id) (by rw [hz])
  rwa [hz] at this
theorem one_long (L : List Ext) (hv : validFrom 0 L = true) (he : endM L = 1000) (id : Int) (h0 : 0 ≤ id) (h1 : id ≤ 99) : applyR (oneS id) (recS id 0 0 L) = (putL (oneS id) id (treeM (shiftM 0 L)), 0) := by
  rw [apply_S _ _ _ _ _ h0 h1 (by decide) (by decide) (by decide) hv, one_get, if_pos rfl]
  have e : spliceOf (treeM []) (recS id 0 0 L) = (shiftM 0 L, 0) := splice_none_long L hv he
  simp only [applyT]
  rw [if_neg (by simp [recS]), if_neg (show ¬ endM (treeM []).row < (recS id 0 0 L).fr by simp [treeM, endM, recS]), e, if_pos rfl]
  unfold putR
  rw [if_neg (show ¬ ((recS id 0 0 L).track < 0 ∨ 99 < (recS id 0 0 L).track) by simp [recS]; omega), if_neg]
  · rfl
  · have : (oneS id).length = 1 := by unfold oneS; rw [put_len]; rfl
    omega
theorem one_over (L : List Ext) (he : endM L = 1000) (id by_ : Int) (h0 : 0 ≤ id) (h1 : id ≤ 99) (h2 : 0 ≤ by_) (h3 : by_ ≤ 1000) : applyR (putL (oneS id) id (treeM (shiftM 0 L))) (recS id by_ by_ (longL 1)) = ([], 4) := by
  have hl : endM (shiftM 0 L) = 1000 := by rw [endM_shift, he]
  rw [apply_S _ _ _ _ _ h0 h1 h2 (Int.le_refl _) h3 (longL_valid 1 (by decide)), put_get, if_pos rfl]
  have e : spliceOf (treeM (shiftM 0 L)) (recS id by_ by_ (longL 1)) = ([], 4) := by
    unfold spliceOf
    show spliceM (shiftM 0 L) by_ (min by_ (endM (shiftM 0 L))) (longL 1) = _
    rw [hl, Int.min_eq_left h3]
    exact splice_over _ _ hl h2 h3
  simp only [applyT]
  rw [if_neg (by simp [recS]), if_neg (show ¬ endM (treeM (shiftM 0 L)).row < (recS id by_ by_ (longL 1)).fr by show ¬ endM (shiftM 0 L) < by_; rw [hl]; omega), e, if_neg (by decide)]
theorem one_range (id by_ : Int) (h0 : 0 ≤ id) (h1 : id ≤ 99) (h2 : 0 < by_) (h3 : by_ ≤ 1000) : applyR (oneS id) (recS id by_ by_ []) = ([], 7) := by
  rw [apply_S _ _ _ _ _ h0 h1 (by omega) (Int.le_refl _) h3 rfl, one_get, if_pos rfl]
  simp only [applyT]
  rw [if_neg (by simp [recS]), if_pos (show endM (treeM []).row < (recS id by_ by_ []).fr by show (0 : Int) < by_; exact h2)]
theorem one_else (id : Int) (h0 : 0 ≤ id) (h1 : id ≤ 98) : applyR (oneS id) (recS (id + 1) 0 0 []) = ([], 5) := by
  rw [apply_S _ _ _ _ _ (by omega) (by omega) (by decide) (by decide) (by decide) rfl, one_get, if_neg (by omega)]
theorem any_bad (s : StM) : applyR s (recC 100) = ([], 1) ∧ applyR s ⟨5, 0, 0, 0, []⟩ = ([], 1) := by
  constructor
  · unfold applyR
    rw [if_pos (.inl (by simp [validRec, recC, trackB, noneB]))]
  · unfold applyR
    rw [if_pos (.inr (by decide))]
theorem one_again (id : Int) (h0 : 0 ≤ id) (h1 : id ≤ 99) : applyR (oneS id) (recC id) = ([], 6) := (apply_C _ id h0 h1).1 (by rw [one_get, if_pos rfl]; simp)
theorem long_ok (L : List Ext) (hv : validFrom 0 L = true) (he : endM L = 1000) (id : Int) (h0 : 0 ≤ id) (h1 : id ≤ 99) : SOK (putL (oneS id) id (treeM (shiftM 0 L))) := by
  have := (one_ok id h0 h1).apply (r := recS id 0 0 L) (by rw [one_long L hv he id h0 h1])
  rwa [one_long L hv he id h0 h1] at this

end Go.Proofs.YtddcjekkimajpaaGreat.ExtW

/- The walk of overdublaw21.StateSplices. -/
namespace Go.Proofs.YtddcjekkimajpaaGreat.ExtW
open Go.RowKit Go.Ov Go.Proofs.YtddcjekkimajpaaGreat.Need

set_option maxHeartbeats 1000000 in
theorem tall_any (v : Value) (t : TreeM) (w : World) (h : TreeIs w v t) (hn : t.row.length * 40 ≤ 140737488355328) :
    Calls Tryz.prog 28 #[v] w fun e w' => ∃ u, e = .returned u ∧ extE.Own 81 w' w.heap.size u t.row ∧ Bl w w' := by
  obtain ⟨b, uh, n, rfl, c0, _, _, _, hl, _⟩ := h
  have HL := Lib.hid hl
  simp only [Head.v] at c0
  clear hl
  have hu := Tryz.underlying103
  go_enter Tryz.func28, Tryz.ntmps28
  go_wp2_with fail
  refine (tfresh_any _ _ _ HL.out hn).mono ?_
  rintro e w1 ⟨u, rfl, ho, hb⟩
  obtain ⟨A, c, rfl⟩ := ho.slice
  go_wp2_with fail
  go_ret
  exact ⟨_, rfl, ho, hb⟩

theorem shift0 : ∀ (l : List Ext) (a : Int), 0 ≤ a → a ≤ 1000 → validFrom a l = true → shiftM 0 l = l
  | [], _, _, _, _ => rfl
  | x :: l, a, h0, h1, hv => by
    obtain ⟨e0, e1, e2, e3, e4, e5, e6, e7, e8, e9⟩ := valid_cons hv
    show shiftE 0 x :: shiftM 0 l = x :: l
    rw [shift0 l (a + x.take) (by omega) e8 e9]
    obtain ⟨x0, x1, x2, x3, x4⟩ := x
    simp only at e0
    simp only [shiftE, Int.add_zero]
    rw [wrap_id (by omega) (by omega)]
theorem get_some {s : StM} {id : Int} {t : TreeM} (h : getS s id = some t) : 0 ≤ findS s id ∧ ∃ x ∈ s, x.2 = t := by
  rcases findS_get s id with ⟨_, h2⟩ | ⟨i, hi, h1, _, h3⟩
  · rw [h] at h2; cases h2
  · rw [h] at h3
    exact ⟨by rw [h1]; omega, s[i], List.getElem_mem hi, (Option.some.inj h3).symm⟩
theorem splice_round {S : StM} {t : TreeM} {fr tt : Int} {x : List Ext} (hS : SOK S) (h1 : getS S 1 = some t) (f0 : 0 ≤ fr) (f1 : fr ≤ endM t.row) (f2 : fr ≤ tt) (f3 : tt ≤ 1000)
    (hx : validFrom 0 x = true) (hn : endM t.row + endM x ≤ 1000) :
    ∃ t', applyR S (recS 1 fr tt x) = (putL S 1 t', 0) ∧ endM t'.row = endM t.row - (min tt (endM t.row) - fr) + endM x := by
  obtain ⟨hf, y, hy, rfl⟩ := get_some h1
  have hv := hS.1.2 y hy
  generalize y.2 = t at *
  have b1 := valid_bd t.row 0 (by decide) hv
  have b2 := valid_bd x 0 (by decide) hx
  have eb : spliceBad t.row fr (min tt (endM t.row)) x = false := by simp [spliceBad, hx]; omega
  have el : spliceLong t.row fr (min tt (endM t.row)) x = false := by unfold spliceLong; simp; omega
  have e : spliceOf t (recS 1 fr tt x) = (spliceL t.row fr (min tt (endM t.row)) x, 0) := by
    show spliceM t.row fr (min tt (endM t.row)) x = _
    unfold spliceM
    rw [eb, el]; rfl
  refine ⟨treeM (spliceL t.row fr (min tt (endM t.row)) x), ?_, ?_⟩
  · rw [apply_S _ _ _ _ _ (by decide) (by decide) f0 f2 f3 hx, h1]
    simp only [applyT]
    rw [if_neg (by simp [recS]), if_neg (show ¬ endM t.row < (recS 1 fr tt x).fr by simp [recS]; omega), e, if_pos rfl]
    unfold putR
    rw [if_neg (show ¬ ((recS 1 fr tt x).track < 0 ∨ 99 < (recS 1 fr tt x).track) by simp [recS]), if_neg (fun h => by have := h.1; simp only [recS] at this; omega)]
    rfl
  · show endM (spliceL t.row fr (min tt (endM t.row)) x) = _
    rw [splice_end _ _ _ _ hv f0 (by omega) f1]
    omega
def twoS : StM := putL (oneS 1) 2 (treeM [])
def thrS (row : List Ext) : StM := putL twoS 2 (treeM row)
theorem two_step : applyR (oneS 1) (recC 2) = (twoS, 0) := (apply_C _ 2 (by decide) (by decide)).2.2 (by rw [one_get, if_neg (by decide)]) (by rw [show (oneS 1).length = 1 by unfold oneS; rw [put_len]; rfl]; decide)
theorem two_get (j : Int) : getS twoS j = if j = 2 then some (treeM []) else if j = 1 then some (treeM []) else none := by unfold twoS; rw [put_get, one_get]
theorem two_ok : SOK twoS := by
  have := (one_ok 1 (by decide) (by decide)).apply (r := recC 2) (by rw [two_step])
  rwa [two_step] at this
theorem thr_step (row : List Ext) (hv : validFrom 0 row = true) : applyR twoS (recS 2 0 0 row) = (thrS row, 0) := by
  have b1 := valid_bd row 0 (by decide) hv
  have h1 : getS twoS 2 = some (treeM []) := by rw [two_get, if_pos rfl]
  have e : spliceOf (treeM []) (recS 2 0 0 row) = (row, 0) := by
    show spliceM [] 0 0 row = _
    have h1 : spliceBad [] 0 0 row = false := by simp [spliceBad, hv, endM]
    have h2 : spliceLong [] 0 0 row = false := by unfold spliceLong; simp [endM]; simp [endM] at b1; omega
    unfold spliceM
    rw [h1, h2]
    simp [spliceL, cutM, shift0 row 0 (by decide) (by decide) hv]
    simp [shiftM]
  have hf := (get_some h1).1
  rw [apply_S _ _ _ _ _ (by decide) (by decide) (by decide) (by decide) (by decide) hv, h1]
  simp only [applyT]
  rw [if_neg (by simp [recS]), if_neg (show ¬ endM (treeM []).row < (recS 2 0 0 row).fr by simp [treeM, endM, recS]), e, if_pos rfl]
  unfold putR
  rw [if_neg (show ¬ ((recS 2 0 0 row).track < 0 ∨ 99 < (recS 2 0 0 row).track) by simp [recS]), if_neg (fun h => by have := h.1; simp only [recS] at this; omega)]
  rfl
theorem thr_ok (row : List Ext) (hv : validFrom 0 row = true) : SOK (thrS row) := by
  have := two_ok.apply (r := recS 2 0 0 row) (by rw [thr_step row hv])
  rwa [thr_step row hv] at this
theorem thr_get (row : List Ext) (j : Int) : getS (thrS row) j = if j = 2 then some (treeM row) else if j = 1 then some (treeM []) else none := by
  unfold thrS; rw [put_get, two_get]; split
  · rfl
  · rfl
theorem end_range {S : StM} {t : TreeM} (h1 : getS S 1 = some t) (fr : Int) (h0 : 0 ≤ fr) (h2 : endM t.row < fr) (h3 : fr ≤ 1000) : applyR S (recS 1 fr fr []) = ([], 7) := by
  rw [apply_S _ _ _ _ _ (by decide) (by decide) h0 (Int.le_refl _) h3 rfl, h1]
  simp only [applyT]
  rw [if_neg (by simp [recS]), if_pos (show endM t.row < (recS 1 fr fr []).fr from h2)]
theorem end_none {S : StM} (h1 : getS S 3 = none) : applyR S (recS 3 0 0 []) = ([], 5) := by
  rw [apply_S _ _ _ _ _ (by decide) (by decide) (by decide) (by decide) (by decide) rfl, h1]
theorem end_undo (S : StM) : applyR S ⟨4, 0, 0, 0, []⟩ = ([], 1) := by
  unfold applyR; rw [if_pos (.inr (by decide))]
theorem piece_ok (i : Nat) (q : Int) (hi : i < 6) (h0 : 0 < q) (h1 : q ≤ 60) : validFrom 0 [(⟨0, 9 + i, 64, 64 - q, q⟩ : Ext)] = true := by
  simp [validFrom, oneB]; omega
theorem piece_end (a b c d e : Int) : endM [(⟨a, b, c, d, e⟩ : Ext)] = e := by simp [endM]

theorem piece_is (w : World) (b c d q : Int) : extE.Is (w.alloc (.cells #[.int .i64 0, .int .i64 b, .int .i64 c, .int .i64 d, .int .i64 q] 81)) (.slice (some ⟨w.heap.size, 0, none⟩) 1 1) [(⟨0, b, c, d, q⟩ : Ext)] :=
  (Enc.Own.lit (E := extE) (e := 81) w 0 [⟨0, b, c, d, q⟩] #[.int .i64 0, .int .i64 b, .int .i64 c, .int .i64 d, .int .i64 q] rfl 1 rfl (Nat.zero_le _) (by decide) rfl).is

end Go.Proofs.YtddcjekkimajpaaGreat.ExtW

/- Contracts: slices.Equal at extents, slices.EqualFunc at tracks, state.Same. -/
namespace Go.Proofs.YtddcjekkimajpaaGreat.ExtW
open Go.RowKit Go.Ov Go.Proofs.YtddcjekkimajpaaGreat.Need

set_option maxRecDepth 100000 in
set_option maxHeartbeats 1000000 in
theorem equalExt_any (v u : Value) (a b : List Ext) (w : World) (h : extE.Is w v a) (h' : extE.Is w u b) :
    Calls Tryz.prog 54 #[v, u] w fun e w' => e = .returned (.bool (decide (a = b))) ∧ Bl w w' := by
  obtain ⟨A, c, rfl, h1, h2, h3, h4⟩ := h
  obtain ⟨A', c', rfl, h1', h2', h3', h4'⟩ := h'
  have HA := Lib.hid h4
  have HA' := Lib.hid h4'
  have hl : a.length ≤ 9223372036854775807 := by unfold maxLen at h2; omega
  have hl' : b.length ≤ 9223372036854775807 := by unfold maxLen at h2'; omega
  have hu := Tryz.underlying81
  clear h1 h2 h3 h4 h1' h2' h3' h4'
  by_cases hlen : a.length = b.length
  · go_enter Tryz.func54, Tryz.ntmps54
    go_wp2
    have HL := Lib.hid hlen
    clear hlen
    go_loopg [13] b.length (fun g i wr => ∃ k : Nat, k ≤ b.length ∧ g = b.length - k ∧ i = .int .i64 k ∧ Hid (a.take k = b.take k) ∧ Bl w wr)
    case atStart => exact ⟨0, by omega, rfl, rfl, Lib.hid rfl, Bl.refl _⟩
    case round =>
      obtain ⟨k, hk, rfl, rfl, heq, hbl⟩ := hrel
      have HB := Lib.hid hbl
      clear hbl
      by_cases hlt : k < b.length
      · have hlta : k < a.length := by have := HL.out; omega
        have hlti : (k : Int) < a.length := by omega
        have hlti2 : (k : Int) < b.length := by omega
        obtain ⟨ad, rfl, c0, c1, c2, c3, c4⟩ := ext_at (HA.out.bl HB.out) k hlta
        obtain ⟨ad', rfl, d0, d1, d2, d3, d4⟩ := ext_at (HA'.out.bl HB.out) k hlt
        have ta := Lib.hid (List.take_succ_eq_append_getElem hlta)
        have tb := Lib.hid (List.take_succ_eq_append_getElem hlt)
        have hne := Lib.hid (fun h : a = b => show a[k]'hlta = b[k]'hlt by simp [h])
        generalize a[k] = x at *
        generalize b[k] = y at *
        obtain ⟨x0, x1, x2, x3, x4⟩ := x
        obtain ⟨y0, y1, y2, y3, y4⟩ := y
        dsimp only at c0 c1 c2 c3 c4 d0 d1 d2 d3 d4
        have hqq := eq_ext x0 x1 x2 x3 x4 y0 y1 y2 y3 y4
        go_wp2_with fail
        go_quiet (fail)
        clear hqq
        cases hq : eqE ⟨x0, x1, x2, x3, x4⟩ ⟨y0, y1, y2, y3, y4⟩
        · go_wp2
          go_ret
          refine ⟨ret_bool ?_, HB.out.drewN _⟩
          symm; rw [decide_eq_false_iff_not]
          intro h; have := hne.out h; unfold eqE at hq; simp [this] at hq
        · have HQ := Lib.hid hq
          clear hq
          go_wp2
          go_roundg (b.length - (k + 1))
          case measure => omega
          case rel =>
            refine ⟨k + 1, by omega, rfl, by go_num, Lib.hid ?_, HB.out.drewN _⟩
            have hxy := HQ.out
            unfold eqE at hxy
            rw [ta.out, tb.out, heq.out, of_decide_eq_true hxy]
      · have hna : ¬ k < a.length := by have := HL.out; omega
        go_wp2
        go_ret
        refine ⟨ret_bool ?_, HB.out⟩
        symm; rw [decide_eq_true_eq]
        have h := heq.out
        have := HL.out
        rwa [List.take_of_length_le (by omega), List.take_of_length_le (by omega)] at h
  · have hd : decide (a = b) = false := decide_eq_false (fun h => hlen (by rw [h]))
    have HD := Lib.hid hd
    clear hd
    go_enter Tryz.func54, Tryz.ntmps54
    go_wp2
    go_ret
    exact ⟨ret_bool HD.out.symm, Bl.refl _⟩

set_option maxRecDepth 100000 in
set_option maxHeartbeats 1000000 in
theorem ssame1_any (i j : Int) (t t' : Nat) (m m' : TreeM) (w : World) (h : TreeIs w (.pointer (some ⟨t, 0, none⟩)) m) (h' : TreeIs w (.pointer (some ⟨t', 0, none⟩)) m')
    (hn : m.row.length * 40 ≤ 140737488355328) (hn' : m'.row.length * 40 ≤ 140737488355328) :
    Calls Tryz.prog 53 #[.agg #[.int .i64 i, .pointer (some ⟨t, 0, none⟩)], .agg #[.int .i64 j, .pointer (some ⟨t', 0, none⟩)]] w fun e w' => e = .returned (.bool (decide (i = j ∧ m.row = m'.row))) ∧ Bl w w' := by
  have HT := Lib.hid h
  have HT' := Lib.hid h'
  have HN := Lib.hid hn
  have HN' := Lib.hid hn'
  have hu := Tryz.underlying66
  clear h h' hn hn'
  by_cases he : i = j
  · subst he
    go_enter Tryz.func53, Tryz.ntmps53
    go_wp2_with fail
    have HB := Lib.hid ((((Bl.refl w).alloc (.cells #[.int .i64 i, .pointer (some ⟨t, 0, none⟩)] 66)).alloc (.cells #[.int .i64 i, .pointer (some ⟨t', 0, none⟩)] 66)).drew)
    have b1 := (Blk.new w #[.int .i64 i, .pointer (some ⟨t, 0, none⟩)] 66).bl (((Bl.refl _).alloc (.cells #[.int .i64 i, .pointer (some ⟨t', 0, none⟩)] 66)).drew)
    have b2 := (Blk.new (w.alloc (.cells #[.int .i64 i, .pointer (some ⟨t, 0, none⟩)] 66)) #[.int .i64 i, .pointer (some ⟨t', 0, none⟩)] 66).bl (Bl.refl _).drew
    refine wp_region_ways (S := (fun w' => w'.cell? ⟨w.heap.size, 0, none⟩ = some (.int .i64 i) ∧ w'.cell? ⟨w.heap.size, 1, none⟩ = some (.pointer (some ⟨t, 0, none⟩)) ∧ w'.cell? ⟨w.heap.size + 1, 0, none⟩ = some (.int .i64 i) ∧ w'.cell? ⟨w.heap.size + 1, 1, none⟩ = some (.pointer (some ⟨t', 0, none⟩)))) [0, 1, 2, 3, 4, 5, 6, 7, 9, 10, 13, 14] (y := .take 0 (.take 1 (.take 2 (.take 3 (.take 4 (.take 5 (.take 6 (.take 7 (.take 9 (.take 10 (.ev 8 (.ev 11 (.ev 12 (.take 13 (.take 14 (.done))) (.stop)) (.stop)) (.stop)))))))))))) (by kernel_rfl) (by kernel_rfl) (by kernel_rfl) ?_ (fun hHeld => ?_)
    · exact ⟨b1.cell 0, b1.cell 1, by simp, by simp⟩
    have HH := Lib.hid hHeld
    repeat (first | (refine wpWay_take rfl (by rfl) (by intro w hSw; (try dsimp only at hSw); first | (go_simp; done) | (go_simp; with_reducible rfl)) ?_; try simp only [Act.put, List.setIfInBounds_toArray, List.set_cons_zero, List.set_cons_succ]) | (refine wpWay_skip rfl (by rfl) ?_; try simp only [Act.put, List.setIfInBounds_toArray, List.set_cons_zero, List.set_cons_succ]))
    clear hHeld b1 b2
    refine wpWay_ev rfl (fun K hK => ?_) wpWay_stop
    go_wp2_with fail
    refine (tall_any _ m _ (HT.out.bl HB.out) HN.out).mono ?_
    rintro e w3 ⟨uw3, rfl, how3, hb⟩
    obtain ⟨Aw3, cw3, rfl⟩ := id how3.slice
    have Hw3 := Lib.hid how3.is
    replace HH := Lib.hid (show _ ∧ _ ∧ _ ∧ _ from ⟨hb.cell HH.out.1, hb.cell HH.out.2.1, hb.cell HH.out.2.2.1, hb.cell HH.out.2.2.2⟩)
    replace HB := Lib.hid (HB.out.bl hb)
    go_wp2_with fail
    refine ⟨HH.out, ?_⟩
    repeat (first | (refine wpWay_take rfl (by rfl) (by intro w hSw; (try dsimp only at hSw); first | (go_simp; done) | (go_simp; with_reducible rfl)) ?_; try simp only [Act.put, List.setIfInBounds_toArray, List.set_cons_zero, List.set_cons_succ]) | (refine wpWay_skip rfl (by rfl) ?_; try simp only [Act.put, List.setIfInBounds_toArray, List.set_cons_zero, List.set_cons_succ]))
    refine wpWay_ev rfl (fun K hK => ?_) wpWay_stop
    go_wp2_with fail
    refine (tall_any _ m' _ (HT'.out.bl HB.out) HN'.out).mono ?_
    rintro e w4 ⟨uw4, rfl, how4, hb⟩
    obtain ⟨Aw4, cw4, rfl⟩ := id how4.slice
    have Hw4 := Lib.hid how4.is
    replace HH := Lib.hid (show _ ∧ _ ∧ _ ∧ _ from ⟨hb.cell HH.out.1, hb.cell HH.out.2.1, hb.cell HH.out.2.2.1, hb.cell HH.out.2.2.2⟩)
    replace HB := Lib.hid (HB.out.bl hb)
    go_wp2_with fail
    refine ⟨HH.out, ?_⟩
    repeat (first | (refine wpWay_take rfl (by rfl) (by intro w hSw; (try dsimp only at hSw); first | (go_simp; done) | (go_simp; with_reducible rfl)) ?_; try simp only [Act.put, List.setIfInBounds_toArray, List.set_cons_zero, List.set_cons_succ]) | (refine wpWay_skip rfl (by rfl) ?_; try simp only [Act.put, List.setIfInBounds_toArray, List.set_cons_zero, List.set_cons_succ]))
    refine wpWay_ev rfl (fun K hK => ?_) wpWay_stop
    go_wp2_with fail
    refine (equalExt_any _ _ m.row m'.row _ (Hw3.out.bl hb) Hw4.out).mono ?_
    rintro e w5 ⟨rfl, hb5⟩
    replace HH := Lib.hid (show _ ∧ _ ∧ _ ∧ _ from ⟨hb5.cell HH.out.1, hb5.cell HH.out.2.1, hb5.cell HH.out.2.2.1, hb5.cell HH.out.2.2.2⟩)
    replace HB := Lib.hid (HB.out.bl hb5)
    go_wp2_with fail
    refine ⟨HH.out, ?_⟩
    repeat (first | (refine wpWay_take rfl (by rfl) (by intro w hSw; (try dsimp only at hSw); first | (go_simp; done) | (go_simp; with_reducible rfl)) ?_; try simp only [Act.put, List.setIfInBounds_toArray, List.set_cons_zero, List.set_cons_succ]) | (refine wpWay_skip rfl (by rfl) ?_; try simp only [Act.put, List.setIfInBounds_toArray, List.set_cons_zero, List.set_cons_succ]))
    refine wpWay_done ?_
    go_wp2_with fail
    go_ret
    exact ⟨ret_bool (by simp), HB.out⟩
  · have hd : (i == j) = false := by rw [beq_eq_false_iff_ne]; exact he
    have hd2 : decide (i = j) = false := decide_eq_false he
    have HE := Lib.hid he
    clear he
    go_enter Tryz.func53, Tryz.ntmps53
    go_wp2_with fail
    go_quiet (fail)
    go_wp2_with fail
    go_ret
    exact ⟨ret_bool (by simp [HE.out]), ((((Bl.refl w).alloc _).alloc _).drewN _)⟩

/-- what state.Same answers -/
def rowsOf (s : StM) : List (Int × List Ext) := s.map fun t => (t.1, t.2.row)
def sameS (s s' : StM) : Bool := decide (rowsOf s = rowsOf s')

set_option maxRecDepth 100000 in
set_option maxHeartbeats 1000000 in
theorem eqTrack_any (v v' : Value) (hs hs' : List TH) (s s' : StM) (w : World) (h : trackE.Is w v hs) (h' : trackE.Is w v' hs') (hr : TRows w hs s) (hr' : TRows w hs' s')
    (hv : ∀ t ∈ s, validFrom 0 t.2.row = true) (hv' : ∀ t ∈ s', validFrom 0 t.2.row = true) :
    Calls Tryz.prog 52 #[v, v', .func (.func 53) #[] #[]] w fun e w' => e = .returned (.bool (sameS s s')) ∧ Bl w w' := by
  obtain ⟨A, c, rfl, h1, h2, h3, h4⟩ := h
  obtain ⟨A', c', rfl, h1', h2', h3', h4'⟩ := h'
  have HA := Lib.hid h4
  have HA' := Lib.hid h4'
  have HR := Lib.hid hr
  have HR' := Lib.hid hr'
  have HLS := Lib.hid hr.1
  have HLS' := Lib.hid hr'.1
  have hl : hs.length ≤ 9223372036854775807 := by unfold maxLen at h2; omega
  have hl' : hs'.length ≤ 9223372036854775807 := by unfold maxLen at h2'; omega
  have hu := Tryz.underlying66
  have HV := Lib.hid hv
  have HV' := Lib.hid hv'
  clear h1 h2 h3 h4 h1' h2' h3' h4' hr hr' hv hv'
  by_cases hlen : hs.length = hs'.length
  · go_enter Tryz.func52, Tryz.ntmps52
    go_wp2_with fail
    have HL := Lib.hid hlen
    clear hlen
    go_loopg [17] hs.length (fun g i wr => ∃ k : Nat, k ≤ hs.length ∧ g = hs.length - k ∧ i = .int .i64 k ∧ Hid (rowsOf (s.take k) = rowsOf (s'.take k)) ∧ Hid (Bl w wr))
    case atStart => exact ⟨0, by omega, rfl, rfl, Lib.hid rfl, Lib.hid (Bl.refl _)⟩
    case round =>
      obtain ⟨k, hk, rfl, rfl, HQ, HB⟩ := hrel
      by_cases hlt : k < hs.length
      · have hlt' : k < hs'.length := by have := HL.out; omega
        have hki : (k : Int) < hs.length := by omega
        have hki' : (k : Int) < hs'.length := by omega
        have hks : k < s.length := by have := HLS.out; omega
        have hks' : k < s'.length := by have := HLS'.out; omega
        obtain ⟨ad, rfl, c0, c1⟩ := track_at (HA.out.bl HB.out) k hlt
        obtain ⟨ad', rfl, d0, d1⟩ := track_at (HA'.out.bl HB.out) k hlt'
        obtain ⟨_, e0, HT⟩ := (HR.out.bl HB.out).at k hks
        obtain ⟨_, e0', HT'⟩ := (HR'.out.bl HB.out).at k hks'
        have ht := Lib.hid (List.take_succ_eq_append_getElem hks)
        have ht' := Lib.hid (List.take_succ_eq_append_getElem hks')
        have HX := Lib.hid (HV.out _ (List.getElem_mem hks))
        have HX' := Lib.hid (HV'.out _ (List.getElem_mem hks'))
        have hne := Lib.hid (fun h : rowsOf s = rowsOf s' => show s[k].1 = s'[k].1 ∧ s[k].2.row = s'[k].2.row by
          have h0 : (rowsOf s)[k]? = (rowsOf s')[k]? := by rw [h]
          simpa [rowsOf, List.getElem?_eq_getElem hks, List.getElem?_eq_getElem hks'] using h0)
        generalize s[k] = x at *
        generalize s'[k] = x' at *
        generalize hs[k] = y at *
        generalize hs'[k] = y' at *
        obtain ⟨xi, m⟩ := x
        obtain ⟨xi', m'⟩ := x'
        obtain ⟨yi, yb⟩ := y
        obtain ⟨yi', yb'⟩ := y'
        dsimp only at c0 c1 d0 d1 e0 e0' HT HT' HX HX' hne
        subst e0
        subst e0'
        have hb1 := World.block_lt_of_cell? _ _ d0
        have hb3 := World.block_lt_of_cell? _ _ d1
        have hx1 := valid_len m.row HX.out
        have hx1' := valid_len m'.row HX'.out
        go_wp2_with fail
        refine (ssame1_any yi yi' yb yb' m m' _ (HT.bl (((Bl.refl _).alloc _).alloc _)) (HT'.bl (((Bl.refl _).alloc _).alloc _)) (by omega) (by omega)).mono ?_
        rintro e w1 ⟨rfl, hb⟩
        have hb2 := Bl.bl (((HB.out).alloc (.cells #[.int .i64 yi, .pointer (some ⟨yb, 0, none⟩)] 66)).alloc (.cells #[.int .i64 yi', .pointer (some ⟨yb', 0, none⟩)] 66)) hb
        have HB1 := Lib.hid hb2
        clear hb hb2 HT HT' hb1
        by_cases hq : yi = yi' ∧ m.row = m'.row
        · have hd : decide (yi = yi' ∧ m.row = m'.row) = true := decide_eq_true hq
          have HQ1 := Lib.hid hq
          clear hq
          go_wp2_with fail
          go_roundg (hs.length - (k + 1))
          case measure => omega
          case rel => exact ⟨k + 1, by omega, rfl, by go_num, Lib.hid (by rw [ht.out, ht'.out]; have := HQ.out; simp only [rowsOf] at this ⊢; rw [List.map_append, List.map_append, this, List.map_singleton, List.map_singleton, HQ1.out.1, HQ1.out.2]), HB1⟩
        · have hd : decide (yi = yi' ∧ m.row = m'.row) = false := decide_eq_false hq
          have HQ1 := Lib.hid hq
          clear hq
          go_wp2_with fail
          go_ret
          exact ⟨ret_bool (decide_eq_false (fun h => HQ1.out (hne.out h))).symm, HB1.out⟩
      · have hn2 : ¬ (k : Int) < hs'.length := by have := HL.out; omega
        go_wp2_with fail
        go_ret
        refine ⟨ret_bool ?_, HB.out⟩
        symm; unfold sameS; rw [decide_eq_true_eq]
        have h := HQ.out
        have := HL.out
        have := HLS.out
        have := HLS'.out
        rwa [List.take_of_length_le (by omega), List.take_of_length_le (by omega)] at h
  · have hd : sameS s s' = false := decide_eq_false (fun h => hlen (by have := congrArg List.length h; simp [rowsOf] at this; have := HLS.out; have := HLS'.out; omega))
    have HD := Lib.hid hd
    clear hd
    go_enter Tryz.func52, Tryz.ntmps52
    go_wp2_with fail
    go_ret
    exact ⟨ret_bool HD.out.symm, Bl.refl _⟩

set_option maxRecDepth 100000 in
set_option maxHeartbeats 1000000 in
theorem ssame_any (v v' : Value) (s s' : StM) (w : World) (h : StateIs w v s) (h' : StateIs w v' s') (hv : ∀ t ∈ s, validFrom 0 t.2.row = true) (hv' : ∀ t ∈ s', validFrom 0 t.2.row = true) :
    Calls Tryz.prog 25 #[v, v'] w fun e w' => e = .returned (.bool (sameS s s')) ∧ Bl w w' := by
  obtain ⟨b, u, hs, rfl, c0, h1, h2⟩ := h
  obtain ⟨b', u', hs', rfl, c0', h1', h2'⟩ := h'
  simp only [Head.v] at c0 c0'
  have H1 := Lib.hid h1
  have H1' := Lib.hid h1'
  have H2 := Lib.hid h2
  have H2' := Lib.hid h2'
  have HV := Lib.hid hv
  have HV' := Lib.hid hv'
  have hu := Tryz.underlying63
  have d0 := ((Bl.refl w).drew).cell c0
  have d0' := ((Bl.refl w).drew).cell c0'
  clear h1 h1' h2 h2' hv hv' c0 c0'
  go_enter Tryz.func25, Tryz.ntmps25
  go_wp2_with fail
  refine wp_region_ways (S := (fun w' => w'.cell? ⟨b, 0, none⟩ = some (.slice u.A u.n u.cap) ∧ w'.cell? ⟨b', 0, none⟩ = some (.slice u'.A u'.n u'.cap))) [0, 1, 2, 3, 4, 5, 6, 7, 9] (y := .take 0 (.take 1 (.take 2 (.take 3 (.take 4 (.take 5 (.take 6 (.take 7 (.ev 8 (.take 9 (.done)) (.stop)))))))))) (by kernel_rfl) (by kernel_rfl) (by kernel_rfl) ?_ (fun hHeld => ?_)
  · exact ⟨d0, d0'⟩
  have HH := Lib.hid hHeld
  repeat (first | (refine wpWay_take rfl (by rfl) (by intro w hSw; (try dsimp only at hSw); first | (go_simp; done) | (go_simp; with_reducible rfl)) ?_; try simp only [Act.put, List.setIfInBounds_toArray, List.set_cons_zero, List.set_cons_succ]) | (refine wpWay_skip rfl (by rfl) ?_; try simp only [Act.put, List.setIfInBounds_toArray, List.set_cons_zero, List.set_cons_succ]))
  clear hHeld d0 d0'
  refine wpWay_ev rfl (fun K hK => ?_) wpWay_stop
  go_wp2_with fail
  refine (eqTrack_any _ _ hs hs' s s' _ (H1.out.bl (Bl.refl _).drew) (H1'.out.bl (Bl.refl _).drew) (H2.out.bl (Bl.refl _).drew) (H2'.out.bl (Bl.refl _).drew) HV.out HV'.out).mono ?_
  rintro e w1 ⟨rfl, hb⟩
  go_wp2_with fail
  refine ⟨⟨hb.cell HH.out.1, hb.cell HH.out.2⟩, ?_⟩
  repeat (first | (refine wpWay_take rfl (by rfl) (by intro w hSw; (try dsimp only at hSw); first | (go_simp; done) | (go_simp; with_reducible rfl)) ?_; try simp only [Act.put, List.setIfInBounds_toArray, List.set_cons_zero, List.set_cons_succ]) | (refine wpWay_skip rfl (by rfl) ?_; try simp only [Act.put, List.setIfInBounds_toArray, List.set_cons_zero, List.set_cons_succ]))
  refine wpWay_done ?_
  go_wp2_with fail
  go_ret
  exact ⟨rfl, ((Bl.refl w).drew).bl hb⟩
end Go.Proofs.YtddcjekkimajpaaGreat.ExtW

/- ref20's Lines and states: put and apply make the same rows. No walk here. -/
namespace Go.Proofs.YtddcjekkimajpaaGreat.ExtW
open Go.RowKit Go.Ov Go.Proofs.YtddcjekkimajpaaGreat.Need

theorem rowsOf_ids (s : StM) : (rowsOf s).map (·.1) = s.map (·.1) := by unfold rowsOf; rw [List.map_map]; rfl
theorem rowsOf_len (s : StM) : (rowsOf s).length = s.length := by unfold rowsOf; rw [List.length_map]
theorem fi_find (s : StM) (id : Int) : fiL (rowsOf s) id = findS s id := by unfold fiL findS; rw [rowsOf_ids]
theorem rowsOf_cons (t : TrackM) (s : StM) : rowsOf (t :: s) = (t.1, t.2.row) :: rowsOf s := rfl
theorem below_zero {id : Int} {s : StM} (h : ∀ t ∈ s, id ≤ t.1) : below id s = 0 := by
  cases s with
  | nil => rfl
  | cons t s => have := h t (by simp); rw [below, if_neg (by omega)]
theorem putL_zero {id : Int} {s : StM} {t : TreeM} (h : ∀ x ∈ s, id < x.1) : putL s id t = (id, t) :: s := by
  unfold putL insertS
  have hw : withoutS s id = s := by unfold withoutS; rw [List.filter_eq_self]; intro x hx; have := h x hx; simp; omega
  rw [hw, below_zero (fun x hx => Int.le_of_lt (h x hx))]; rfl
theorem putL_lt {id : Int} {s : StM} {t : TreeM} {x : TrackM} (h : x.1 < id) : putL (x :: s) id t = x :: putL s id t := by
  unfold putL insertS
  have hw : withoutS (x :: s) id = x :: withoutS s id := by unfold withoutS; rw [List.filter_cons_of_pos (by simp; omega)]
  rw [hw, below, if_pos h]; rfl
theorem putL_eq {s : StM} {t : TreeM} {x : TrackM} (h : ∀ y ∈ s, x.1 < y.1) : putL (x :: s) x.1 t = (x.1, t) :: s := by
  have hw : putL (x :: s) x.1 t = putL s x.1 t := by
    unfold putL
    have : withoutS (x :: s) x.1 = withoutS s x.1 := by unfold withoutS; rw [List.filter_cons_of_neg (by simp)]
    rw [this]
  rw [hw, putL_zero h]
theorem lgo_put (id : Int) (t : TreeM) : ∀ s : StM, Rising s → lgo (id, t.row) false (rowsOf s) = rowsOf (putL s id t)
  | [], _ => rfl
  | x :: s, hr => by
    obtain ⟨h1, h2⟩ := List.pairwise_cons.1 hr
    rw [rowsOf_cons, lgo]
    have hne : ∀ y ∈ rowsOf s, x.1 < y.1 := by
      intro y hy
      obtain ⟨z, hz, rfl⟩ := List.mem_map.1 hy
      exact h1 z hz
    rcases Int.lt_trichotomy x.1 id with h | h | h
    · rw [if_neg (by simp; omega), if_neg (by simp; omega), show (false || decide (id ≤ x.1)) = false by simp; omega, lgo_put id t s h2, putL_lt h]; rfl
    · subst h
      rw [if_pos ⟨rfl, Int.le_refl _⟩, if_pos rfl, show (false || decide (x.1 ≤ x.1)) = true by simp, lgo_true _ _ (fun y hy => by have := hne y hy; simp; omega), putL_eq h1]; rfl
    · rw [if_pos ⟨rfl, by simp; omega⟩, if_neg (by simp; omega), show (false || decide (id ≤ x.1)) = true by simp; omega, lgo_true _ _ (fun y hy => by have := hne y hy; simp; omega), putL_zero (s := x :: s) (fun y hy => by
        rcases List.mem_cons.1 hy with rfl | hy
        · exact h
        · have := h1 y hy; omega)]; rfl
theorem put_eq {s : StM} (hs : Rising s) (id : Int) (t : TreeM) : lputM (rowsOf s) id t.row = (rowsOf (putR s id t).1, (putR s id t).2) := by
  unfold lputM putR
  rw [show idxFrom id 0 ((rowsOf s).map (·.1)) = findS s id from fi_find s id, rowsOf_len]
  split
  · rfl
  · split
    · rfl
    · rw [lgo_put id t s hs]
theorem without_del (id : Int) : ∀ (s : StM) (i : Nat) (h : i < s.length), Rising s → s[i].1 = id → withoutS s id = s.take i ++ s.drop (i + 1)
  | x :: s, 0, _, hr, e => by
    obtain ⟨h1, _⟩ := List.pairwise_cons.1 hr
    simp only [List.getElem_cons_zero] at e
    unfold withoutS
    rw [List.filter_cons_of_neg (by simp [e]), List.filter_eq_self.2 (fun y hy => by have := h1 y hy; simp; omega)]; rfl
  | x :: s, i + 1, h, hr, e => by
    obtain ⟨h1, h2⟩ := List.pairwise_cons.1 hr
    simp only [List.getElem_cons_succ] at e
    have hi : i < s.length := by simpa using h
    have hx := h1 s[i] (List.getElem_mem hi)
    have ih := without_del id s i hi h2 e
    unfold withoutS at ih ⊢
    rw [List.filter_cons_of_pos (by simp; omega), ih]; rfl
theorem apply_eq {s : StM} (hs : Rising s) (r : Rec) : lapplyM (rowsOf s) r = (rowsOf (applyR s r).1, (applyR s r).2) := by
  unfold lapplyM applyR
  rw [fi_find]
  by_cases h0 : validRec r = false ∨ 3 < r.kind
  · rw [if_pos h0, if_pos h0]; rfl
  rw [if_neg h0, if_neg h0]
  by_cases h1 : r.kind = 1
  · rw [if_pos h1, if_pos h1]
    by_cases h2 : 0 ≤ findS s r.track
    · rw [if_pos h2, if_pos h2]; rfl
    · rw [if_neg h2, if_neg h2]; exact put_eq hs r.track (treeM [])
  rw [if_neg h1, if_neg h1]
  rcases findS_get s r.track with ⟨g1, g2⟩ | ⟨i, hi, g1, g2, g3⟩
  · rw [if_pos (by omega), g2]; rfl
  · rw [if_neg (by omega), g3, g1, Int.toNat_natCast]
    have hgd : ((rowsOf s).getD i (0, [])).2 = s[i].2.row := by
      unfold rowsOf
      rw [List.getD_eq_getElem?_getD, List.getElem?_map, List.getElem?_eq_getElem hi]; rfl
    rw [hgd]
    unfold applyT
    dsimp only
    by_cases h2 : r.kind = 2
    · rw [if_pos h2, if_pos h2, without_del r.track s i hi hs g2]
      unfold delL rowsOf
      rw [List.map_append, List.map_take, List.map_drop]
    rw [if_neg h2, if_neg h2]
    by_cases h3 : endM s[i].2.row < r.fr
    · rw [if_pos h3, if_pos h3]; rfl
    rw [if_neg h3, if_neg h3]
    rw [show lspl s[i].2.row r = spliceOf s[i].2 r from rfl]
    by_cases h4 : (spliceOf s[i].2 r).2 = 0
    · rw [if_pos h4, if_pos h4]; exact put_eq hs r.track (treeM (spliceOf s[i].2 r).1)
    · rw [if_neg h4, if_neg h4]; rfl
end Go.Proofs.YtddcjekkimajpaaGreat.ExtW

/- A block of flags: a store into it leaves every other datum as it is. No program in sight. -/
namespace Go.Ov
open Go.RowKit

def notB : Value → Bool
  | .bool _ => false
  | _ => true
/-- every cell that holds no flag stays -/
def KeepB (w w' : World) : Prop := ∀ a v, notB v = true → w.cell? a = some v → w'.cell? a = some v
theorem Blk.keepB {w : World} {B : Nat} {cs : Array Value} {T : TypeId} (h : Blk w B cs T) (hc : ∀ x ∈ cs, notB x = false) (j : Nat) (u : Value) : KeepB w (w.setCell ⟨B, j, none⟩ u) := by
  intro a v hv ha
  by_cases e : a.block = B
  · unfold World.cell? at ha
    rw [e] at ha
    unfold Blk at h
    rw [h] at ha
    dsimp only at ha
    split at ha
    · cases ha
    · have := hc v (Array.mem_of_getElem? ha)
      rw [hv] at this; cases this
  · rw [World.cell?_setCell_other (h := fun h => e (by rw [← h]))]; exact ha
section
variable {α : Type} {E : Enc α}
theorem Enc.At.kb {w w' : World} {A : Option Addr} {xs : List α} (hE : ∀ x u, u ∈ E.c x → notB u = true) (h : E.At w A xs) (hb : KeepB w w') : E.At w' A xs := fun i x hx => by
  obtain ⟨ad, e, hc⟩ := h i x hx
  exact ⟨ad, e, fun j u hu => hb _ _ (hE x u (List.mem_of_getElem? hu)) (hc j u hu)⟩
theorem Enc.Is.kb {w w' : World} {v : Value} {xs : List α} (hE : ∀ x u, u ∈ E.c x → notB u = true) (h : E.Is w v xs) (hb : KeepB w w') : E.Is w' v xs := by
  obtain ⟨A, c, e, hl, hm, hn, hA⟩ := h
  exact ⟨A, c, e, hl, hm, hn, hA.kb hE hb⟩
end
theorem int_nb (x : Int) (u : Value) (h : u ∈ intE.c x) : notB u = true := by simp [intE] at h; subst h; rfl
theorem ext_nb (x : Ext) (u : Value) (h : u ∈ extE.c x) : notB u = true := by change u ∈ Ext.vals x at h; simp only [Ext.vals, List.mem_cons, List.not_mem_nil, or_false] at h; rcases h with rfl | rfl | rfl | rfl | rfl <;> rfl
theorem node_nb (x : NH) (u : Value) (h : u ∈ nodeE.c x) : notB u = true := by simp [nodeE, Head.v] at h; rcases h with rfl | rfl | rfl <;> rfl
theorem track_nb (x : TH) (u : Value) (h : u ∈ trackE.c x) : notB u = true := by simp [trackE] at h; rcases h with rfl | rfl <;> rfl
theorem NodeR.kb {w w' : World} {n : NodeM} {h : NH} (hr : NodeR w n h) (hb : KeepB w w') : NodeR w' n h := by
  induction hr with
  | mk l f p a b c hs h1 h2 h3 h4 _ ih => exact .mk l f p a b c hs (h1.kb ext_nb hb) (h2.kb int_nb hb) (h3.kb node_nb hb) h4 ih
theorem TreeIs.kb {w w' : World} {v : Value} {t : TreeM} (h : TreeIs w v t) (hb : KeepB w w') : TreeIs w' v t := by
  obtain ⟨b, u, n, e, h0, h1, h2, h3, h4, h5⟩ := h
  exact ⟨b, u, n, e, hb _ _ rfl h0, hb _ _ rfl h1, hb _ _ rfl h2, hb _ _ rfl h3, h4.kb ext_nb hb, h5.kb hb⟩
theorem StateIs.kb {w w' : World} {v : Value} {s : StM} (h : StateIs w v s) (hb : KeepB w w') : StateIs w' v s := by
  obtain ⟨b, u, hs, e, h0, h1, h2⟩ := h
  exact ⟨b, u, hs, e, hb _ _ rfl h0, h1.kb track_nb hb, h2.1, fun i x y hx hy => ⟨(h2.2 i x y hx hy).1, (h2.2 i x y hx hy).2.kb hb⟩⟩
end Go.Ov

/- Histories as data; how they lie in memory; a store into a history's own block leaves states as they are. No program in sight. -/
namespace Go.Ov
open Go.RowKit

/-- a pointer to a block's start -/
def ptrE : Enc Nat := ⟨1, fun b => [.pointer (some ⟨b, 0, none⟩)], fun _ => rfl, fun x u h => by simp at h; subst h; rfl⟩
structure HistM where
  now : StM
  undo : List StM
  redo : List StM
/-- a row of pointers to states -/
def SRows (w : World) (bs : List Nat) (ss : List StM) : Prop := bs.length = ss.length ∧ ∀ (i : Nat) (s : StM) (b : Nat), ss[i]? = some s → bs[i]? = some b → StateIs w (.pointer (some ⟨b, 0, none⟩)) s
def isI : Value → Bool
  | .int _ _ => true
  | _ => false
/-- the cells of a history -/
def histC (n : Nat) (u r : Head) : Array Value := #[.pointer (some ⟨n, 0, none⟩), u.v, r.v]
/-- every cell outside a block stays -/
def KeepO (B : Nat) (w w' : World) : Prop := ∀ a v, a.block ≠ B → w.cell? a = some v → w'.cell? a = some v
theorem keepO_set (w : World) (B j : Nat) (u : Value) : KeepO B w (w.setCell ⟨B, j, none⟩ u) := by
  intro a v hv ha
  rw [World.cell?_setCell_other (h := fun h => hv (by rw [← h]))]; exact ha
theorem KeepO.bl {B : Nat} {w w1 w2 : World} (h : KeepO B w w1) (hb : Bl w1 w2) : KeepO B w w2 := fun a v hv ha => hb.cell (h a v hv ha)
theorem KeepO.trans {B : Nat} {w w1 w2 : World} (h : KeepO B w w1) (h2 : KeepO B w1 w2) : KeepO B w w2 := fun a v hv ha => h2 a v hv (h a v hv ha)
theorem hist_cell {w : World} {B n : Nat} {u r : Head} {T : TypeId} (h : Blk w B (histC n u r) T) {a : Addr} {v : Value} (ha : w.cell? a = some v) (e : a.block = B) :
    (a.off = 0 ∧ v = .pointer (some ⟨n, 0, none⟩)) ∨ (a.off = 1 ∧ v = u.v) ∨ (a.off = 2 ∧ v = r.v) := by
  unfold World.cell? at ha
  rw [e] at ha
  unfold Blk at h
  rw [h] at ha
  dsimp only at ha
  split at ha
  · cases ha
  · rcases (show a.off = 0 ∨ a.off = 1 ∨ a.off = 2 ∨ 3 ≤ a.off by omega) with e | e | e | e
    · rw [e] at ha; exact .inl ⟨e, (Option.some.inj ha).symm⟩
    · rw [e] at ha; exact .inr (.inl ⟨e, (Option.some.inj ha).symm⟩)
    · rw [e] at ha; exact .inr (.inr ⟨e, (Option.some.inj ha).symm⟩)
    · rw [Array.getElem?_eq_none (by simp [histC]; omega)] at ha; cases ha
theorem add_block (a : Addr) (k : Nat) : (a.add k).block = a.block := by unfold Addr.add; split <;> rfl
theorem int_ne {w : World} {B n : Nat} {u r : Head} {T : TypeId} (h : Blk w B (histC n u r) T) {a : Addr} {k : IntKind} {x : Int} (ha : w.cell? a = some (.int k x)) : a.block ≠ B := fun e => by
  rcases hist_cell h ha e with ⟨_, q⟩ | ⟨_, q⟩ | ⟨_, q⟩ <;> cases q
theorem atI_kh {w w' : World} {B n : Nat} {u r : Head} {T : TypeId} (h : Blk w B (histC n u r) T) (hk : KeepO B w w') {α : Type} {E : Enc α} {A : Option Addr} {xs : List α} (hE : ∀ x, ∃ k y, (E.c x)[0]? = some (.int k y)) (hA : E.At w A xs) : E.At w' A xs := fun i x hx => by
  obtain ⟨ad, e, hc⟩ := hA i x hx
  obtain ⟨k, y, h0⟩ := hE x
  have hne := int_ne h (hc 0 _ h0)
  rw [add_block] at hne
  exact ⟨ad, e, fun j v hv => hk _ _ (by rw [add_block]; exact hne) (hc j v hv)⟩
theorem isI_kh {w w' : World} {B n : Nat} {u r : Head} {T : TypeId} (h : Blk w B (histC n u r) T) (hk : KeepO B w w') {α : Type} {E : Enc α} {v : Value} {xs : List α} (hE : ∀ x, ∃ k y, (E.c x)[0]? = some (.int k y)) (hA : E.Is w v xs) : E.Is w' v xs := by
  obtain ⟨A, c, e, hl, hm, hn, hA⟩ := hA
  exact ⟨A, c, e, hl, hm, hn, atI_kh h hk hE hA⟩
theorem node_kh {w w' : World} {B n : Nat} {u r : Head} {T : TypeId} (h : Blk w B (histC n u r) T) (hk : KeepO B w w') {v : Value} {xs : List NH} (hA : nodeE.Is w v xs) : nodeE.Is w' v xs := by
  obtain ⟨A, c, e, hl, hm, hn, hA⟩ := hA
  refine ⟨A, c, e, hl, hm, hn, fun i x hx => ?_⟩
  obtain ⟨ad, e, hc⟩ := hA i x hx
  have h0 := hc 0 _ rfl
  have h2 := hc 2 _ rfl
  have hne : ad.block ≠ B := fun e => by
    have a0 := hist_cell h h0 (by rw [add_block]; exact e)
    have a2 := hist_cell h h2 (by rw [add_block]; exact e)
    have o0 : (ad.add (i * nodeE.sz + 0)).off = ad.off + (i * nodeE.sz + 0) := by unfold Addr.add; split <;> simp_all
    have o2 : (ad.add (i * nodeE.sz + 2)).off = ad.off + (i * nodeE.sz + 2) := by unfold Addr.add; split <;> simp_all
    rw [o0] at a0
    rw [o2] at a2
    have hz : ad.off + (i * nodeE.sz + 0) = 0 := by omega
    rcases a0 with ⟨_, q⟩ | ⟨q, _⟩ | ⟨q, _⟩
    · unfold Head.v at q; cases q
    · omega
    · omega
  exact ⟨ad, e, fun j v hv => hk _ _ (by rw [add_block]; exact hne) (hc j v hv)⟩
theorem nodeR_kh {w w' : World} {B n : Nat} {u r : Head} {T : TypeId} (h : Blk w B (histC n u r) T) (hk : KeepO B w w') {m : NodeM} {p : NH} (hr : NodeR w m p) : NodeR w' m p := by
  induction hr with
  | mk l f p a b c hs h1 h2 h3 h4 _ ih => exact .mk l f p a b c hs (isI_kh h hk (fun x => ⟨_, _, rfl⟩) h1) (isI_kh h hk (fun x => ⟨_, _, rfl⟩) h2) (node_kh h hk h3) h4 ih
theorem slice0_ne {w : World} {B n : Nat} {u r : Head} {T : TypeId} (h : Blk w B (histC n u r) T) {b : Nat} {q : Head} (ha : w.cell? ⟨b, 0, none⟩ = some q.v) : b ≠ B := fun e => by
  rcases hist_cell h ha e with ⟨_, q⟩ | ⟨q, _⟩ | ⟨q, _⟩
  · unfold Head.v at q; cases q
  · cases q
  · cases q
theorem tree_kh {w w' : World} {B n : Nat} {u r : Head} {T : TypeId} (h : Blk w B (histC n u r) T) (hk : KeepO B w w') {v : Value} {t : TreeM} (ht : TreeIs w v t) : TreeIs w' v t := by
  obtain ⟨b, u, n, e, h0, h1, h2, h3, h4, h5⟩ := ht
  have hne := slice0_ne h h0
  exact ⟨b, u, n, e, hk _ _ hne h0, hk _ _ hne h1, hk _ _ hne h2, hk _ _ hne h3, isI_kh h hk (fun x => ⟨_, _, rfl⟩) h4, nodeR_kh h hk h5⟩
theorem state_kh {w w' : World} {B n : Nat} {u r : Head} {T : TypeId} (h : Blk w B (histC n u r) T) (hk : KeepO B w w') {v : Value} {s : StM} (hs : StateIs w v s) : StateIs w' v s := by
  obtain ⟨b, u, hs, e, h0, h1, h2⟩ := hs
  have hne := slice0_ne h h0
  exact ⟨b, u, hs, e, hk _ _ hne h0, isI_kh h hk (fun x => ⟨_, _, rfl⟩) h1, h2.1, fun i x y hx hy => ⟨(h2.2 i x y hx hy).1, tree_kh h hk (h2.2 i x y hx hy).2⟩⟩
theorem srows_kh {w w' : World} {B n : Nat} {u r : Head} {T : TypeId} (h : Blk w B (histC n u r) T) (hk : KeepO B w w') {bs : List Nat} {ss : List StM} (hs : SRows w bs ss) : SRows w' bs ss := ⟨hs.1, fun i s b hx hy => state_kh h hk (hs.2 i s b hx hy)⟩
theorem SRows.bl {w w' : World} {bs : List Nat} {ss : List StM} (h : SRows w bs ss) (hb : Bl w w') : SRows w' bs ss := ⟨h.1, fun i s b hx hy => (h.2 i s b hx hy).bl hb⟩
theorem SRows.nil (w : World) : SRows w [] [] := ⟨rfl, fun i s b hx => by simp at hx⟩
theorem SRows.take {w : World} {bs : List Nat} {ss : List StM} (h : SRows w bs ss) (k : Nat) : SRows w (bs.take k) (ss.take k) := by
  refine ⟨by simp [h.1], fun i x y hx hy => ?_⟩
  rw [List.getElem?_take] at hx hy
  split at hx
  · rename_i hi
    rw [if_pos hi] at hy
    exact h.2 i x y hx hy
  · cases hx
theorem SRows.drop {w : World} {bs : List Nat} {ss : List StM} (h : SRows w bs ss) (k : Nat) : SRows w (bs.drop k) (ss.drop k) :=
  ⟨by simp [h.1], fun i x y hx hy => h.2 (k + i) x y (by rw [List.getElem?_drop] at hx; exact hx) (by rw [List.getElem?_drop] at hy; exact hy)⟩
theorem SRows.snoc {w : World} {bs : List Nat} {ss : List StM} {b : Nat} {s : StM} (h : SRows w bs ss) (hs : StateIs w (.pointer (some ⟨b, 0, none⟩)) s) : SRows w (bs ++ [b]) (ss ++ [s]) := by
  refine ⟨by simp [h.1], fun i x y hx hy => ?_⟩
  have hl := h.1
  by_cases hi : i < ss.length
  · rw [List.getElem?_append_left hi] at hx
    rw [List.getElem?_append_left (by omega)] at hy
    exact h.2 i x y hx hy
  · rw [List.getElem?_append_right (by omega)] at hx hy
    have : i - ss.length = 0 := by
      have := (List.getElem?_eq_some_iff.1 hx).1
      simp at this; omega
    rw [this] at hx
    rw [show i - bs.length = 0 by omega] at hy
    simp at hx hy; subst hx; subst hy; exact hs
/-- what the package does -/
def pushL (l : List StM) (s : StM) : List StM := (l ++ [s]).drop (l.length + 1 - 4)
def lastOf (l : List StM) : StM := l.getLastD []
def undoH (h : HistM) : HistM × Int := if h.undo = [] then (h, 5) else (⟨lastOf h.undo, h.undo.dropLast, pushL h.redo h.now⟩, 0)
def redoH (h : HistM) : HistM × Int := if h.redo = [] then (h, 5) else (⟨lastOf h.redo, pushL h.undo h.now, h.redo.dropLast⟩, 0)
end Go.Ov
