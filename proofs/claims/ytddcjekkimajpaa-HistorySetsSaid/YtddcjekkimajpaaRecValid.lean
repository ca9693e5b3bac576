/- Contract of record.Valid. -/
import Derived.Test.YtddcjekkimajpaaStateGet
import Derived.Test.YtddcjekkimajpaaCountsW
namespace Go.Proofs.Ytddcjekkimajpaa.ExtW
open Go.RowKit Go.Ov Go.Proofs.Ytddcjekkimajpaa.Need

def noneB (r : Rec) : Bool := decide (r.fr = 0) && decide (r.tt = 0) && decide (r.l.length = 0)
def trackB (r : Rec) : Bool := decide (0 ≤ r.track) && decide (r.track ≤ 99)
def spliceB (r : Rec) : Bool := trackB r && decide (0 ≤ r.fr) && decide (r.fr ≤ r.tt) && decide (r.tt ≤ 1000) && validFrom 0 r.l
def validRec (r : Rec) : Bool :=
  if r.kind = 1 ∨ r.kind = 2 then noneB r && trackB r else if r.kind = 4 ∨ r.kind = 5 then noneB r && decide (r.track = 0) else if r.kind = 3 then spliceB r else false

set_option maxRecDepth 100000 in
set_option maxHeartbeats 4000000 in
theorem rvalidRec_any (v : Value) (r : Rec) (w : World) (h : RecIs w v r) :
    Calls Try.prog 38 #[v] w fun e w' => e = .returned (.bool (validRec r)) ∧ Bl w w' := by
  obtain ⟨u, rfl, hl⟩ := h
  have HL := Lib.hid hl
  obtain ⟨A, c, rfl, _⟩ := hl
  have hu := Try.underlying33
  have hw : ∃ vr, vr = validRec r := ⟨_, rfl⟩
  obtain ⟨vr, hvr⟩ := hw
  rw [← hvr]
  have HVR := Lib.hid hvr
  clear hvr
  have hnb : ∃ nb, nb = noneB r := ⟨_, rfl⟩
  obtain ⟨nb, hnb⟩ := hnb
  have HNB := Lib.hid hnb
  clear hnb
  have htb : ∃ tb, tb = trackB r := ⟨_, rfl⟩
  obtain ⟨tb, htb⟩ := htb
  have HTB := Lib.hid htb
  clear htb
  go_enter Try.func38, Try.ntmps38
  go_upto_region 1 with (fail)
  go_cut [3] (fun v3 wc => v3 = .bool nb ∧ wc = w.alloc (.cells #[.int .i64 r.kind, .int .i64 r.track, .int .i64 r.fr, .int .i64 r.tt, .slice A r.l.length c] 33))
  case first =>
    by_cases h1 : r.fr = 0
    · have f1 : (r.fr == 0) = true := by rw [h1]; rfl
      by_cases h2 : r.tt = 0
      · have f2 : (r.tt == 0) = true := by rw [h2]; rfl
        by_cases h3 : r.l.length = 0
        · have f3 : ((r.l.length : Int) == 0) = true := by rw [h3]; rfl
          have hr : nb = true := by rw [HNB.out]; simp [noneB, h1, h2]; exact List.eq_nil_of_length_eq_zero h3
          have HR := Lib.hid hr
          clear h1 h2 h3 hr
          go_wp2_with fail
          go_meet
          exact ⟨by rw [HR.out], rfl⟩
        · have hr : nb = false := by rw [HNB.out]; simp [noneB, h1, h2]; intro e; rw [e] at h3; simp at h3
          have h4 : ((r.l.length : Int) == 0) = false := by rw [beq_eq_false_iff_ne]; omega
          have HR := Lib.hid hr
          clear h1 h2 h3 hr
          go_wp2_with fail
          go_meet
          exact ⟨by rw [HR.out], rfl⟩
      · have hr : nb = false := by rw [HNB.out]; simp [noneB, h2]
        have h4 : (r.tt == 0) = false := by rw [beq_eq_false_iff_ne]; exact h2
        have HR := Lib.hid hr
        clear h1 h2 hr
        go_wp2_with fail
        go_meet
        exact ⟨by rw [HR.out], rfl⟩
    · have hr : nb = false := by rw [HNB.out]; simp [noneB, h1]
      have h4 : (r.fr == 0) = false := by rw [beq_eq_false_iff_ne]; exact h1
      have HR := Lib.hid hr
      clear h1 hr
      go_wp2_with fail
      go_meet
      exact ⟨by rw [HR.out], rfl⟩
  case rest =>
  obtain ⟨rfl, rfl⟩ := hcut
  go_upto_region 2 with (fail)
  go_cut [4] (fun v4 wc => v4 = .bool tb ∧ wc = w.alloc (.cells #[.int .i64 r.kind, .int .i64 r.track, .int .i64 r.fr, .int .i64 r.tt, .slice A r.l.length c] 33))
  case first =>
    by_cases h1 : 0 ≤ r.track
    · by_cases h2 : r.track ≤ 99
      · have hr : tb = true := by rw [HTB.out]; simp [trackB, h1, h2]
        have HR := Lib.hid hr
        clear hr
        go_wp2_with fail
        go_meet
        exact ⟨by rw [HR.out], rfl⟩
      · have hr : tb = false := by rw [HTB.out]; simp [trackB]; omega
        have HR := Lib.hid hr
        clear hr
        go_wp2_with fail
        go_meet
        exact ⟨by rw [HR.out], rfl⟩
    · have hr : tb = false := by rw [HTB.out]; simp [trackB]; omega
      have HR := Lib.hid hr
      clear hr
      go_wp2_with fail
      go_meet
      exact ⟨by rw [HR.out], rfl⟩
  case rest =>
  obtain ⟨rfl, rfl⟩ := hcut
  by_cases k1 : r.kind = 1
  · have hr : vr = (nb && tb) := by rw [HVR.out, HNB.out, HTB.out]; simp [validRec, k1]
    have HR := Lib.hid hr
    rw [k1]
    clear hr k1
    cases nb <;> cases tb <;> (go_wp2_with fail; go_ret; exact ⟨ret_bool HR.out.symm, (Bl.refl _).alloc _⟩)
  · by_cases k2 : r.kind = 2
    · have hr : vr = (nb && tb) := by rw [HVR.out, HNB.out, HTB.out]; simp [validRec, k2]
      have HR := Lib.hid hr
      rw [k2]
      clear hr k1 k2
      cases nb <;> cases tb <;> (go_wp2_with fail; go_ret; exact ⟨ret_bool HR.out.symm, (Bl.refl _).alloc _⟩)
    · have e1 : (r.kind == 1) = false := by rw [beq_eq_false_iff_ne]; exact k1
      have e2 : (r.kind == 2) = false := by rw [beq_eq_false_iff_ne]; exact k2
      by_cases k4 : r.kind = 4 ∨ r.kind = 5
      · have hr : vr = (nb && decide (r.track = 0)) := by rw [HVR.out, HNB.out]; unfold validRec; rw [if_neg (by omega), if_pos k4]
        have HR := Lib.hid hr
        clear hr k1 k2 e1 e2
        have ht : (r.track == 0) = decide (r.track = 0) := rfl
        rcases k4 with k4 | k4
        all_goals
          rw [k4]
          clear k4
          cases nb with
          | false => go_wp2_with fail; go_ret; exact ⟨ret_bool HR.out.symm, (Bl.refl _).alloc _⟩
          | true => go_wp2_with fail; go_ret; exact ⟨ret_bool (by rw [HR.out]; simp), (Bl.refl _).alloc _⟩
      · have e4 : (r.kind == 4) = false := by rw [beq_eq_false_iff_ne]; omega
        have e5 : (r.kind == 5) = false := by rw [beq_eq_false_iff_ne]; omega
        by_cases k3 : r.kind = 3
        · have hr : vr = spliceB r := by rw [HVR.out]; unfold validRec; rw [if_neg (by omega), if_neg k4, if_pos k3]
          have HR := Lib.hid hr
          have hf : r.kind = 3 := k3
          have HT2 := Lib.hid HTB.out
          clear hr k1 k2 k4
          rw [k3]
          clear k3 hf e1 e2 e4 e5
          cases tb with
          | false =>
            have hs : spliceB r = false := by unfold spliceB; rw [← HT2.out]; rfl
            have HS := Lib.hid hs
            clear hs
            go_wp2_with fail
            go_ret
            exact ⟨ret_bool (by rw [HR.out, HS.out]), (Bl.refl _).alloc _⟩
          | true =>
            by_cases q : (0 ≤ r.fr ∧ r.fr ≤ r.tt) ∧ r.tt ≤ 1000
            · have hs : spliceB r = validFrom 0 r.l := by unfold spliceB; rw [← HT2.out]; simp [q.1.1, q.1.2, q.2]
              have HS := Lib.hid hs
              obtain ⟨⟨q1, q2⟩, q3⟩ := q
              clear hs
              go_wp2_with fail
              refine (pvalid_any _ _ _ (HL.out.bl ((Bl.refl _).alloc _))).mono ?_
              rintro e w1 ⟨rfl, hb⟩
              go_wp2_with fail
              go_ret
              exact ⟨ret_bool (by rw [HR.out, HS.out]), ((Bl.refl _).alloc _).bl hb⟩
            · have hs : spliceB r = false := by
                unfold spliceB
                by_cases a1 : 0 ≤ r.fr
                · by_cases a2 : r.fr ≤ r.tt
                  · have a3 : ¬ r.tt ≤ 1000 := fun a3 => q ⟨⟨a1, a2⟩, a3⟩
                    simp [a3]
                  · simp [a2]
                · simp [a1]
              have HS := Lib.hid hs
              rcases (show r.fr < 0 ∨ (0 ≤ r.fr ∧ r.tt < r.fr) ∨ ((0 ≤ r.fr ∧ r.fr ≤ r.tt) ∧ 1000 < r.tt) from by omega) with q1 | ⟨q1, q2⟩ | ⟨⟨q1, q2⟩, q3⟩
              all_goals
                clear hs q
                go_wp2_with fail
                go_ret
                exact ⟨ret_bool (by rw [HR.out, HS.out]), (Bl.refl _).alloc _⟩
        · have hr : vr = false := by rw [HVR.out]; unfold validRec; rw [if_neg (by omega), if_neg k4, if_neg k3]
          have e3 : (r.kind == 3) = false := by rw [beq_eq_false_iff_ne]; omega
          have HR := Lib.hid hr
          clear hr k1 k2 k3 k4
          go_wp2_with fail
          go_ret
          exact ⟨ret_bool HR.out.symm, (Bl.refl _).alloc _⟩
end Go.Proofs.Ytddcjekkimajpaa.ExtW
