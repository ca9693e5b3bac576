/- Several texts joined (see each one's head). -/
import Derived.Test.YtddcjekkimajpaaPkC
import Derived.Test.YtddcjekkimajpaaPkB
import Derived.Test.YtddcjekkimajpaaPkA
import Derived.Test.YtddcjekkimajpaaPkD
import Derived.IntWalk
/- Contracts of overdublaw16.Right, overdubkeep.Cut[int], need.Change, overdubref20's Blocks and Nodes. -/
namespace Go.Proofs.Ytddcjekkimajpaa.ExtW
open Go.RowKit Go.Ov Go.Proofs.Ytddcjekkimajpaa.Need

def RecOwn (w : World) (base : Nat) (v : Value) (r : Rec) : Prop := ∃ u, v = .agg #[.int .i64 r.kind, .int .i64 r.track, .int .i64 r.fr, .int .i64 r.tt, u] ∧ extE.Own 38 w base u r.l
theorem RecOwn.is {w : World} {base : Nat} {v : Value} {r : Rec} (h : RecOwn w base v r) : RecIs w v r := by
  obtain ⟨u, e, h⟩ := h; exact ⟨u, e, h.is⟩

theorem one_cell_slice {w : World} {v : Value} {l : List Ext} (h : extE.Is w v l) : ∃ A n c, v = .slice A n c := by
  obtain ⟨A, c, e, _⟩ := h; exact ⟨A, _, c, e⟩

set_option maxRecDepth 100000 in
set_option maxHeartbeats 1000000 in
theorem right_any (v : Value) (r : Rec) (w : World) (h : RecIs w v r) :
    Calls Try.prog 52 #[v] w fun e w' => ∃ u, e = .returned u ∧ RecOwn w' w.heap.size u (rightM r) ∧ Bl w w' := by
  obtain ⟨u, rfl, hl⟩ := h
  obtain ⟨k, t, f, o, l⟩ := r
  dsimp only at hl
  have HL := Lib.hid hl
  obtain ⟨A, n, c, rfl⟩ := one_cell_slice hl
  clear hl
  have b1 := within_bd k 5 (by decide)
  have b2 := within_bd o 1001 (by decide)
  have hkk : ∃ kk, kk = within k 5 := ⟨_, rfl⟩
  obtain ⟨kk, hkk⟩ := hkk
  have HK := Lib.hid hkk
  rw [← hkk] at b1
  clear hkk
  have c5 := Try.underlying33
  by_cases h2 : kk ≤ 1
  · have hd : kk = 0 ∨ kk = 1 := by omega
    have b3 := within_bd t 100 (by decide)
    rcases hd with rfl | rfl
    · go_enter Try.func52, Try.ntmps52
      go_wp2_with (first | (go_at_call 12; refine (within_any _ _ _ (by omega)).mono ?_; rintro e w' ⟨rfl, rfl⟩; try rw [← HK.out]))
      refine bodyPost_ret (v := .agg #[.int .i64 1, .int .i64 (within t 100), .int .i64 0, .int .i64 0, .slice none 0 0]) (by simp [results, Try.results52, go_sem]) rfl ⟨_, rfl, ⟨.slice none 0 0, ?_, ?_⟩, ((Bl.refl _).alloc _).alloc _⟩
      · unfold rightM; rw [← HK.out]; simp
      · unfold rightM; rw [← HK.out]; exact Enc.Own.nil _ _ _
    · go_enter Try.func52, Try.ntmps52
      go_wp2_with (first | (go_at_call 12; refine (within_any _ _ _ (by omega)).mono ?_; rintro e w' ⟨rfl, rfl⟩; try rw [← HK.out]))
      refine bodyPost_ret (v := .agg #[.int .i64 2, .int .i64 (within t 100), .int .i64 0, .int .i64 0, .slice none 0 0]) (by simp [results, Try.results52, go_sem]) rfl ⟨_, rfl, ⟨.slice none 0 0, ?_, ?_⟩, ((Bl.refl _).alloc _).alloc _⟩
      · unfold rightM; rw [← HK.out]; simp
      · unfold rightM; rw [← HK.out]; exact Enc.Own.nil _ _ _
  · by_cases h3 : kk = 2
    · subst h3
      have b4 := within_bd f (within o 1001 + 1) (by omega)
      have hwr : IntKind.i64.wrap (within o 1001 + 1) = within o 1001 + 1 := IntWalk.i64_in _ (by omega)
      go_enter Try.func52, Try.ntmps52
      go_wp2_with (first | (go_at_call 12; refine (within_any _ _ _ (by omega)).mono ?_; rintro e w' ⟨rfl, rfl⟩; try rw [← HK.out]))
      refine wp_region_ways (S := (fun w' => w'.cell? ⟨w.heap.size, 1, none⟩ = some (.int .i64 t) ∧ w'.cell? ⟨w.heap.size, 2, none⟩ = some (.int .i64 f) ∧ w'.cell? ⟨w.heap.size, 4, none⟩ = some (.slice A n c))) [0, 1, 2, 4, 5, 6, 7, 9, 10, 11, 13] (y := .take 0 (.take 1 (.take 2 (.take 4 (.take 5 (.take 6 (.take 7 (.take 9 (.take 10 (.take 11 (.ev 3 (.ev 8 (.ev 12 (.take 13 (.ev 14 (.done) (.stop))) (.stop)) (.stop)) (.stop)))))))))))) (by kernel_rfl) (by kernel_rfl) (by kernel_rfl) ?_ (fun hHeld => ?_)
      · refine ⟨?_, ?_, ?_⟩ <;> go_simp
      repeat (first | (refine wpWay_take rfl (by rfl) (by intro w hSw; (try dsimp only at hSw); first | (go_simp; done) | (go_simp; with_reducible rfl)) ?_; try simp only [Act.put, List.setIfInBounds_toArray, List.set_cons_zero, List.set_cons_succ]) | (refine wpWay_skip rfl (by rfl) ?_; try simp only [Act.put, List.setIfInBounds_toArray, List.set_cons_zero, List.set_cons_succ]))
      clear hwr
      have HH := Lib.hid hHeld
      clear hHeld
      refine wpWay_ev rfl (fun K hK => ?_) wpWay_stop
      go_wp2_with fail
      refine (within_any _ _ _ (by omega)).mono ?_
      rintro e w1 ⟨rfl, rfl⟩
      go_wp2_with fail
      refine ⟨HH.out, ?_⟩
      repeat (first | (refine wpWay_take rfl (by rfl) (by intro w hSw; (try dsimp only at hSw); first | (go_simp; done) | (go_simp; with_reducible rfl)) ?_; try simp only [Act.put, List.setIfInBounds_toArray, List.set_cons_zero, List.set_cons_succ]) | (refine wpWay_skip rfl (by rfl) ?_; try simp only [Act.put, List.setIfInBounds_toArray, List.set_cons_zero, List.set_cons_succ]))
      refine wpWay_ev rfl (fun K hK => ?_) wpWay_stop
      go_wp2_with fail
      refine (within_any _ _ _ (by omega)).mono ?_
      rintro e w1 ⟨rfl, rfl⟩
      go_wp2_with fail
      refine ⟨HH.out, ?_⟩
      repeat (first | (refine wpWay_take rfl (by rfl) (by intro w hSw; (try dsimp only at hSw); first | (go_simp; done) | (go_simp; with_reducible rfl)) ?_; try simp only [Act.put, List.setIfInBounds_toArray, List.set_cons_zero, List.set_cons_succ]) | (refine wpWay_skip rfl (by rfl) ?_; try simp only [Act.put, List.setIfInBounds_toArray, List.set_cons_zero, List.set_cons_succ]))
      refine wpWay_ev rfl (fun K hK => ?_) wpWay_stop
      go_wp2_with fail
      refine (row16_any _ _ 20 _ (HL.out.bl (((Bl.refl _).alloc _).alloc _).drew) (by decide)).mono ?_
      rintro e w1 ⟨u, rfl, ho, hb⟩
      obtain ⟨A2, c2, rfl⟩ := ho.slice
      go_wp2_with fail
      refine ⟨⟨hb.cell HH.out.1, hb.cell HH.out.2.1, hb.cell HH.out.2.2⟩, ?_⟩
      repeat (first | (refine wpWay_take rfl (by rfl) (by intro w hSw; (try dsimp only at hSw); first | (go_simp; done) | (go_simp; with_reducible rfl)) ?_; try simp only [Act.put, List.setIfInBounds_toArray, List.set_cons_zero, List.set_cons_succ]) | (refine wpWay_skip rfl (by rfl) ?_; try simp only [Act.put, List.setIfInBounds_toArray, List.set_cons_zero, List.set_cons_succ]))
      refine wpWay_ev rfl (fun K hK => ?_) wpWay_stop
      obtain ⟨hc, hf⟩ := bcell hb
      have hz : w.heap.size + 1 < w1.heap.size := by have := hb.size; simp at this; omega
      go_wp2_with fail
      refine ⟨?_, ?_⟩
      · refine ⟨?_, ?_, ?_⟩ <;> go_simp
      refine wpWay_done ?_
      go_wp2_with fail
      refine bodyPost_ret (v := .agg #[.int .i64 3, .int .i64 (within t 100), .int .i64 (within f (within o 1001 + 1)), .int .i64 (within o 1001), .slice A2 (rowM l 20).length c2]) (by simp [results, Try.results52, go_sem, hc]) rfl ⟨_, rfl, ⟨.slice A2 (rowM l 20).length c2, ?_, ?_⟩, ?_⟩
      · unfold rightM; rw [← HK.out]; simp
      · unfold rightM; rw [← HK.out]
        refine Enc.Own.low (base := w.heap.size + 2) ?_ (by omega)
        iterate 5 refine Enc.Own.set ?_ _ _ _ (by omega)
        exact ho.low (by simp)
      · iterate 5 refine Bl.set ?_ _ _ _ (by omega)
        exact (((Bl.refl _).alloc _).alloc _).drew.bl hb
    · have h4 : kk = 3 ∨ kk = 4 := by omega
      rcases h4 with rfl | rfl
      · go_enter Try.func52, Try.ntmps52
        go_wp2_with (first | (go_at_call 12; refine (within_any _ _ _ (by omega)).mono ?_; rintro e w' ⟨rfl, rfl⟩; try rw [← HK.out]))
        refine bodyPost_ret (v := .agg #[.int .i64 4, .int .i64 0, .int .i64 0, .int .i64 0, .slice none 0 0]) (by simp [results, Try.results52, go_sem]) rfl ⟨_, rfl, ⟨.slice none 0 0, ?_, ?_⟩, ((Bl.refl _).alloc _).alloc _⟩
        · unfold rightM; rw [← HK.out]; simp
        · unfold rightM; rw [← HK.out]; exact Enc.Own.nil _ _ _
      · go_enter Try.func52, Try.ntmps52
        go_wp2_with (first | (go_at_call 12; refine (within_any _ _ _ (by omega)).mono ?_; rintro e w' ⟨rfl, rfl⟩; try rw [← HK.out]))
        refine bodyPost_ret (v := .agg #[.int .i64 5, .int .i64 0, .int .i64 0, .int .i64 0, .slice none 0 0]) (by simp [results, Try.results52, go_sem]) rfl ⟨_, rfl, ⟨.slice none 0 0, ?_, ?_⟩, ((Bl.refl _).alloc _).alloc _⟩
        · unfold rightM; rw [← HK.out]; simp
        · unfold rightM; rw [← HK.out]; exact Enc.Own.nil _ _ _

set_option maxHeartbeats 1000000 in
theorem kcutExt_ex (A : Option Addr) (n c m : Nat) (w : World) (hn : n ≤ c) (hc : c ≤ maxLen) (h0 : A = none → c = 0) (hm : m ≤ 1000) :
    Calls Try.prog 51 #[.slice A n c, .int .i64 m] w fun e w' => e = .returned (.slice A (min n m) c) ∧ w = w' := by
  unfold maxLen at hc
  cases A with
  | none =>
    have hc0 : c = 0 := h0 rfl
    have hl : n = 0 := by omega
    subst hc0; subst hl
    go_enter Try.func51, Try.ntmps51
    go_wp2
    go_ret
    refine ⟨?_, rfl⟩
    have e : (min (0 : Int) m).toNat = 0 := by omega
    show Ending.returned (.slice none (min (0 : Int) m).toNat 0) = .returned (.slice none (min 0 m) 0)
    rw [e, Nat.zero_min]
  | some ad =>
    go_enter Try.func51, Try.ntmps51
    go_wp2
    go_ret
    refine ⟨?_, rfl⟩
    rw [show min n m = (min (n : Int) m).toNat by omega]; rfl

def changeM (k n : Int) : Int := if k = 3 then blocks n else 0
end Go.Proofs.Ytddcjekkimajpaa.ExtW

/- Contract of record.Valid. -/
namespace Go.Proofs.Ytddcjekkimajpaa.ExtW
open Go.RowKit Go.Ov Go.Proofs.Ytddcjekkimajpaa.Need

def noneB (r : Rec) : Bool := decide (r.fr = 0) && decide (r.tt = 0) && decide (r.l.length = 0)
def trackB (r : Rec) : Bool := decide (0 ≤ r.track) && decide (r.track ≤ 99)
def spliceB (r : Rec) : Bool := trackB r && decide (0 ≤ r.fr) && decide (r.fr ≤ r.tt) && decide (r.tt ≤ 1000) && validFrom 0 r.l
def validRec (r : Rec) : Bool :=
  if r.kind = 1 ∨ r.kind = 2 then noneB r && trackB r else if r.kind = 4 ∨ r.kind = 5 then noneB r && decide (r.track = 0) else if r.kind = 3 then spliceB r else false

set_option maxRecDepth 100000 in
set_option maxHeartbeats 4000000 in
theorem rvalidRec_any (v : Value) (r : Rec) (w : World) (h : RecIs w v r) :
    Calls Try.prog 38 #[v] w fun e w' => e = .returned (.bool (validRec r)) ∧ Bl w w' := by
  obtain ⟨u, rfl, hl⟩ := h
  have HL := Lib.hid hl
  obtain ⟨A, c, rfl, _⟩ := hl
  have hu := Try.underlying33
  have hw : ∃ vr, vr = validRec r := ⟨_, rfl⟩
  obtain ⟨vr, hvr⟩ := hw
  rw [← hvr]
  have HVR := Lib.hid hvr
  clear hvr
  have hnb : ∃ nb, nb = noneB r := ⟨_, rfl⟩
  obtain ⟨nb, hnb⟩ := hnb
  have HNB := Lib.hid hnb
  clear hnb
  have htb : ∃ tb, tb = trackB r := ⟨_, rfl⟩
  obtain ⟨tb, htb⟩ := htb
  have HTB := Lib.hid htb
  clear htb
  go_enter Try.func38, Try.ntmps38
  go_upto_region 1 with (fail)
  go_cut [3] (fun v3 wc => v3 = .bool nb ∧ wc = w.alloc (.cells #[.int .i64 r.kind, .int .i64 r.track, .int .i64 r.fr, .int .i64 r.tt, .slice A r.l.length c] 33))
  case first =>
    by_cases h1 : r.fr = 0
    · have f1 : (r.fr == 0) = true := by rw [h1]; rfl
      by_cases h2 : r.tt = 0
      · have f2 : (r.tt == 0) = true := by rw [h2]; rfl
        by_cases h3 : r.l.length = 0
        · have f3 : ((r.l.length : Int) == 0) = true := by rw [h3]; rfl
          have hr : nb = true := by rw [HNB.out]; simp [noneB, h1, h2]; exact List.eq_nil_of_length_eq_zero h3
          have HR := Lib.hid hr
          clear h1 h2 h3 hr
          go_wp2_with fail
          go_meet
          exact ⟨by rw [HR.out], rfl⟩
        · have hr : nb = false := by rw [HNB.out]; simp [noneB, h1, h2]; intro e; rw [e] at h3; simp at h3
          have h4 : ((r.l.length : Int) == 0) = false := by rw [beq_eq_false_iff_ne]; omega
          have HR := Lib.hid hr
          clear h1 h2 h3 hr
          go_wp2_with fail
          go_meet
          exact ⟨by rw [HR.out], rfl⟩
      · have hr : nb = false := by rw [HNB.out]; simp [noneB, h2]
        have h4 : (r.tt == 0) = false := by rw [beq_eq_false_iff_ne]; exact h2
        have HR := Lib.hid hr
        clear h1 h2 hr
        go_wp2_with fail
        go_meet
        exact ⟨by rw [HR.out], rfl⟩
    · have hr : nb = false := by rw [HNB.out]; simp [noneB, h1]
      have h4 : (r.fr == 0) = false := by rw [beq_eq_false_iff_ne]; exact h1
      have HR := Lib.hid hr
      clear h1 hr
      go_wp2_with fail
      go_meet
      exact ⟨by rw [HR.out], rfl⟩
  case rest =>
  obtain ⟨rfl, rfl⟩ := hcut
  go_upto_region 2 with (fail)
  go_cut [4] (fun v4 wc => v4 = .bool tb ∧ wc = w.alloc (.cells #[.int .i64 r.kind, .int .i64 r.track, .int .i64 r.fr, .int .i64 r.tt, .slice A r.l.length c] 33))
  case first =>
    by_cases h1 : 0 ≤ r.track
    · by_cases h2 : r.track ≤ 99
      · have hr : tb = true := by rw [HTB.out]; simp [trackB, h1, h2]
        have HR := Lib.hid hr
        clear hr
        go_wp2_with fail
        go_meet
        exact ⟨by rw [HR.out], rfl⟩
      · have hr : tb = false := by rw [HTB.out]; simp [trackB]; omega
        have HR := Lib.hid hr
        clear hr
        go_wp2_with fail
        go_meet
        exact ⟨by rw [HR.out], rfl⟩
    · have hr : tb = false := by rw [HTB.out]; simp [trackB]; omega
      have HR := Lib.hid hr
      clear hr
      go_wp2_with fail
      go_meet
      exact ⟨by rw [HR.out], rfl⟩
  case rest =>
  obtain ⟨rfl, rfl⟩ := hcut
  by_cases k1 : r.kind = 1
  · have hr : vr = (nb && tb) := by rw [HVR.out, HNB.out, HTB.out]; simp [validRec, k1]
    have HR := Lib.hid hr
    rw [k1]
    clear hr k1
    cases nb <;> cases tb <;> (go_wp2_with fail; go_ret; exact ⟨ret_bool HR.out.symm, (Bl.refl _).alloc _⟩)
  · by_cases k2 : r.kind = 2
    · have hr : vr = (nb && tb) := by rw [HVR.out, HNB.out, HTB.out]; simp [validRec, k2]
      have HR := Lib.hid hr
      rw [k2]
      clear hr k1 k2
      cases nb <;> cases tb <;> (go_wp2_with fail; go_ret; exact ⟨ret_bool HR.out.symm, (Bl.refl _).alloc _⟩)
    · have e1 : (r.kind == 1) = false := by rw [beq_eq_false_iff_ne]; exact k1
      have e2 : (r.kind == 2) = false := by rw [beq_eq_false_iff_ne]; exact k2
      by_cases k4 : r.kind = 4 ∨ r.kind = 5
      · have hr : vr = (nb && decide (r.track = 0)) := by rw [HVR.out, HNB.out]; unfold validRec; rw [if_neg (by omega), if_pos k4]
        have HR := Lib.hid hr
        clear hr k1 k2 e1 e2
        have ht : (r.track == 0) = decide (r.track = 0) := rfl
        rcases k4 with k4 | k4
        all_goals
          rw [k4]
          clear k4
          cases nb with
          | false => go_wp2_with fail; go_ret; exact ⟨ret_bool HR.out.symm, (Bl.refl _).alloc _⟩
          | true => go_wp2_with fail; go_ret; exact ⟨ret_bool (by rw [HR.out]; simp), (Bl.refl _).alloc _⟩
      · have e4 : (r.kind == 4) = false := by rw [beq_eq_false_iff_ne]; omega
        have e5 : (r.kind == 5) = false := by rw [beq_eq_false_iff_ne]; omega
        by_cases k3 : r.kind = 3
        · have hr : vr = spliceB r := by rw [HVR.out]; unfold validRec; rw [if_neg (by omega), if_neg k4, if_pos k3]
          have HR := Lib.hid hr
          have hf : r.kind = 3 := k3
          have HT2 := Lib.hid HTB.out
          clear hr k1 k2 k4
          rw [k3]
          clear k3 hf e1 e2 e4 e5
          cases tb with
          | false =>
            have hs : spliceB r = false := by unfold spliceB; rw [← HT2.out]; rfl
            have HS := Lib.hid hs
            clear hs
            go_wp2_with fail
            go_ret
            exact ⟨ret_bool (by rw [HR.out, HS.out]), (Bl.refl _).alloc _⟩
          | true =>
            by_cases q : (0 ≤ r.fr ∧ r.fr ≤ r.tt) ∧ r.tt ≤ 1000
            · have hs : spliceB r = validFrom 0 r.l := by unfold spliceB; rw [← HT2.out]; simp [q.1.1, q.1.2, q.2]
              have HS := Lib.hid hs
              obtain ⟨⟨q1, q2⟩, q3⟩ := q
              clear hs
              go_wp2_with fail
              refine (pvalid_any _ _ _ (HL.out.bl ((Bl.refl _).alloc _))).mono ?_
              rintro e w1 ⟨rfl, hb⟩
              go_wp2_with fail
              go_ret
              exact ⟨ret_bool (by rw [HR.out, HS.out]), ((Bl.refl _).alloc _).bl hb⟩
            · have hs : spliceB r = false := by
                unfold spliceB
                by_cases a1 : 0 ≤ r.fr
                · by_cases a2 : r.fr ≤ r.tt
                  · have a3 : ¬ r.tt ≤ 1000 := fun a3 => q ⟨⟨a1, a2⟩, a3⟩
                    simp [a3]
                  · simp [a2]
                · simp [a1]
              have HS := Lib.hid hs
              rcases (show r.fr < 0 ∨ (0 ≤ r.fr ∧ r.tt < r.fr) ∨ ((0 ≤ r.fr ∧ r.fr ≤ r.tt) ∧ 1000 < r.tt) from by omega) with q1 | ⟨q1, q2⟩ | ⟨⟨q1, q2⟩, q3⟩
              all_goals
                clear hs q
                go_wp2_with fail
                go_ret
                exact ⟨ret_bool (by rw [HR.out, HS.out]), (Bl.refl _).alloc _⟩
        · have hr : vr = false := by rw [HVR.out]; unfold validRec; rw [if_neg (by omega), if_neg k4, if_neg k3]
          have e3 : (r.kind == 3) = false := by rw [beq_eq_false_iff_ne]; omega
          have HR := Lib.hid hr
          clear hr k1 k2 k3 k4
          go_wp2_with fail
          go_ret
          exact ⟨ret_bool HR.out.symm, (Bl.refl _).alloc _⟩
end Go.Proofs.Ytddcjekkimajpaa.ExtW

/- Contract of state.Apply. -/
namespace Go.Proofs.Ytddcjekkimajpaa.ExtW
open Go.RowKit Go.Ov Go.Proofs.Ytddcjekkimajpaa.Need

def spliceOf (t : TreeM) (r : Rec) : List Ext × Int := spliceM t.row r.fr (min r.tt (endM t.row)) r.l
def applyT (s : StM) (r : Rec) (t : TreeM) : StM × Int :=
  if r.kind = 2 then (withoutS s r.track, 0) else if endM t.row < r.fr then ([], 7)
  else if (spliceOf t r).2 = 0 then putR s r.track (treeM (spliceOf t r).1) else ([], (spliceOf t r).2)
def applyR (s : StM) (r : Rec) : StM × Int :=
  if validRec r = false ∨ 3 < r.kind then ([], 1)
  else if r.kind = 1 then (if 0 ≤ findS s r.track then ([], 6) else putR s r.track (treeM []))
  else match getS s r.track with
    | none => ([], 5)
    | some t => applyT s r t
def StOK (s : StM) : Prop := s.length ≤ 6 ∧ ∀ t ∈ s, validFrom 0 t.2.row = true
theorem find_none {s : StM} {id : Int} (h : getS s id = none) : findS s id = -1 := by
  rcases findS_get s id with ⟨h1, _⟩ | ⟨i, _, _, _, h3⟩
  · exact h1
  · rw [h] at h3; cases h3

set_option maxRecDepth 100000 in
set_option maxHeartbeats 4000000 in
theorem sapply_G (G : Nat → Bool) (v rv : Value) (s : StM) (r : Rec) (w : World) (h : StateIs (only w G) v s) (hr : RecIs w rv r) (hs : StOK s) :
    Calls Try.prog 14 #[v, rv] w fun e w' => StRes (only w' (gor G w)) e (applyR s r) ∧ Bl w w' := by
  have HSM := Lib.hid h
  replace h := (Sub.un w G).state h
  have HS := Lib.hid h
  have HR := Lib.hid hr
  obtain ⟨b, u, hs0, rfl, c0, h1, h2⟩ := h
  obtain ⟨u2, rfl, hl⟩ := hr
  have HL := Lib.hid hl
  obtain ⟨A, c, rfl, _⟩ := hl
  obtain ⟨A0, cc0, e0, _, _, _, hat⟩ := h1
  rw [e0] at c0
  have HAT := Lib.hid hat
  have HTR := Lib.hid h2
  have HOK := Lib.hid hs
  have hu := Try.underlying33
  have hu2 := Try.underlying76
  have hu3 := Try.underlying83
  clear e0 hat h2 hs
  cases hv : validRec r with
  | false =>
    have HVR := Lib.hid hv
    have HA := Lib.hid (show applyR s r = ([], 1) from if_pos (.inl hv))
    clear hv
    go_enter Try.func14, Try.ntmps14
    go_wp2_with fail
    refine (rvalidRec_any _ r _ (HR.out.bl ((Bl.refl _).alloc _))).mono ?_
    rintro e w1 ⟨rfl, hb⟩
    have HB := Lib.hid (((Bl.refl w).alloc _).bl hb)
    have HK := Lib.hid ((Blk.new w #[.int .i64 r.kind, .int .i64 r.track, .int .i64 r.fr, .int .i64 r.tt, .slice A r.l.length c] 33).bl hb)
    have d0 := HK.out.cell 0
    have d1 := HK.out.cell 1
    have d2 := HK.out.cell 2
    have d3 := HK.out.cell 3
    have d4 := HK.out.cell 4
    simp at d0 d1 d2 d3 d4
    clear hb
    rw [HVR.out]
    go_wp2_with fail
    go_ret2
    exact ⟨by rw [HA.out]; exact StRes.bad (by decide) _, HB.out⟩
  | true =>
    have HVR := Lib.hid hv
    by_cases hk3 : 3 < r.kind
    · have HA := Lib.hid (show applyR s r = ([], 1) from if_pos (.inr hk3))
      clear hv
      go_enter Try.func14, Try.ntmps14
      go_wp2_with fail
      refine (rvalidRec_any _ r _ (HR.out.bl ((Bl.refl _).alloc _))).mono ?_
      rintro e w1 ⟨rfl, hb⟩
      have HB := Lib.hid (((Bl.refl w).alloc _).bl hb)
      have HK := Lib.hid ((Blk.new w #[.int .i64 r.kind, .int .i64 r.track, .int .i64 r.fr, .int .i64 r.tt, .slice A r.l.length c] 33).bl hb)
      have d0 := HK.out.cell 0
      have d1 := HK.out.cell 1
      have d2 := HK.out.cell 2
      have d3 := HK.out.cell 3
      have d4 := HK.out.cell 4
      simp at d0 d1 d2 d3 d4
      clear hb
      rw [HVR.out]
      go_wp2_with fail
      go_ret2
      exact ⟨by rw [HA.out]; exact StRes.bad (by decide) _, HB.out⟩
    · have hk3' : r.kind ≤ 3 := by omega
      have ha0 : applyR s r = (if r.kind = 1 then (if 0 ≤ findS s r.track then ([], 6) else putR s r.track (treeM [])) else match getS s r.track with | none => ([], 5) | some t => applyT s r t) := by
        unfold applyR; rw [if_neg (by rw [hv]; simp; omega)]
      have hk123 : r.kind = 1 ∨ r.kind = 2 ∨ r.kind = 3 := by
        unfold validRec at hv
        by_cases a : r.kind = 1 ∨ r.kind = 2
        · omega
        · rw [if_neg a] at hv
          by_cases b : r.kind = 4 ∨ r.kind = 5
          · omega
          · rw [if_neg b] at hv
            by_cases c : r.kind = 3
            · omega
            · rw [if_neg c] at hv; cases hv
      have hsl : r.kind = 3 → validFrom 0 r.l = true := by
        intro h3
        unfold validRec at hv
        rw [if_neg (by omega), if_neg (by omega), if_pos h3] at hv
        unfold spliceB at hv
        simp at hv; exact hv.2
      clear hv
      by_cases hk1 : r.kind = 1
      · have hq : (r.kind == 1) = true := by rw [hk1]; rfl
        rw [if_pos hk1] at ha0
        by_cases hf : 0 ≤ findS s r.track
        · rw [if_pos hf] at ha0
          have HA := Lib.hid ha0
          clear ha0 hk1
          go_enter Try.func14, Try.ntmps14
          go_wp2_with fail
          refine (rvalidRec_any _ r _ (HR.out.bl ((Bl.refl _).alloc _))).mono ?_
          rintro e w1 ⟨rfl, hb⟩
          have HB := Lib.hid (((Bl.refl w).alloc _).bl hb)
          have HK := Lib.hid ((Blk.new w #[.int .i64 r.kind, .int .i64 r.track, .int .i64 r.fr, .int .i64 r.tt, .slice A r.l.length c] 33).bl hb)
          have d0 := HK.out.cell 0
          have d1 := HK.out.cell 1
          have d2 := HK.out.cell 2
          have d3 := HK.out.cell 3
          have d4 := HK.out.cell 4
          simp at d0 d1 d2 d3 d4
          clear hb
          rw [HVR.out]
          go_wp2_with fail
          refine (sfind_any _ s _ _ (HS.out.bl HB.out)).mono ?_
          rintro e w2 ⟨rfl, hb⟩
          replace d0 := hb.cell d0
          go_wp2_with fail
          go_ret2
          exact ⟨by rw [HA.out]; exact StRes.bad (by decide) _, HB.out.bl hb⟩
        · rw [if_neg hf] at ha0
          have HA := Lib.hid ha0
          clear ha0 hk1
          go_enter Try.func14, Try.ntmps14
          go_wp2_with fail
          refine (rvalidRec_any _ r _ (HR.out.bl ((Bl.refl _).alloc _))).mono ?_
          rintro e w1 ⟨rfl, hb⟩
          have HB := Lib.hid (((Bl.refl w).alloc _).bl hb)
          have HK := Lib.hid ((Blk.new w #[.int .i64 r.kind, .int .i64 r.track, .int .i64 r.fr, .int .i64 r.tt, .slice A r.l.length c] 33).bl hb)
          have d0 := HK.out.cell 0
          have d1 := HK.out.cell 1
          have d2 := HK.out.cell 2
          have d3 := HK.out.cell 3
          have d4 := HK.out.cell 4
          simp at d0 d1 d2 d3 d4
          clear hb
          rw [HVR.out]
          go_wp2_with fail
          refine (sfind_any _ s _ _ (HS.out.bl HB.out)).mono ?_
          rintro e w2 ⟨rfl, hb⟩
          replace d0 := hb.cell d0
          replace d1 := hb.cell d1
          have HB2 := Lib.hid (HB.out.bl hb)
          clear hb d2 d3 d4
          go_wp2_with fail
          refine wp_region_ways (S := (fun w' => w'.cell? ⟨w.heap.size, 1, none⟩ = some (.int .i64 r.track))) [0, 1, 2, 5, 6, 7, 8] (y := .take 0 (.take 1 (.take 2 (.ev 3 (.ev 4 (.take 5 (.take 6 (.take 7 (.take 8 (.done))))) (.stop)) (.stop))))) (by kernel_rfl) (by kernel_rfl) (by kernel_rfl) ?_ (fun hHeld => ?_)
          · exact Bl.cell (Bl.refl _).drew d1
          have HH := Lib.hid hHeld
          repeat (first | (refine wpWay_take rfl (by rfl) (by intro w hSw; (try dsimp only at hSw); first | (go_simp; done) | (go_simp; with_reducible rfl)) ?_; try simp only [Act.put, List.setIfInBounds_toArray, List.set_cons_zero, List.set_cons_succ]) | (refine wpWay_skip rfl (by rfl) ?_; try simp only [Act.put, List.setIfInBounds_toArray, List.set_cons_zero, List.set_cons_succ]))
          clear hHeld
          refine wpWay_ev rfl (fun K hK => ?_) wpWay_stop
          go_wp2_with fail
          refine (tnew_G _).mono ?_
          rintro e w3 ⟨t3, rfl, ht, hb⟩
          have HT := Lib.hid ht
          have HB3 := Lib.hid ((HB2.out.drew).bl hb)
          replace HH := Lib.hid (hb.cell HH.out)
          clear ht hb
          go_wp2_with fail
          refine ⟨HH.out, ?_⟩
          repeat (first | (refine wpWay_take rfl (by rfl) (by intro w hSw; (try dsimp only at hSw); first | (go_simp; done) | (go_simp; with_reducible rfl)) ?_; try simp only [Act.put, List.setIfInBounds_toArray, List.set_cons_zero, List.set_cons_succ]) | (refine wpWay_skip rfl (by rfl) ?_; try simp only [Act.put, List.setIfInBounds_toArray, List.set_cons_zero, List.set_cons_succ]))
          refine wpWay_ev rfl (fun K hK => ?_) wpWay_stop
          go_wp2_with fail
          refine (sput_G (gor G w) _ s r.track t3 (treeM []) _ ((Sub.mono (gor_l G w)).state (HSM.out.bl (HB3.out.only G))) ((Sub.mono (fun b hb => fr_gor G w b (fr_le HB2.out.drew.size b hb))).tree HT.out) HOK.out.1).mono ?_
          rintro e w4 ⟨hres, hb⟩
          replace hres := hres.sub (Sub.mono (gor_gor HB3.out.size))
          replace HH := Lib.hid (hb.cell HH.out)
          have HB4 := Lib.hid (HB3.out.bl hb)
          clear hb
          by_cases hz : (putR s r.track (treeM [])).2 = 0
          · obtain ⟨u3, rfl, hst⟩ := hres.1 hz
            have HST := Lib.hid hst
            have HZ := Lib.hid hz
            clear hres hst hz
            go_wp2_with fail
            refine ⟨HH.out, ?_⟩
            repeat (first | (refine wpWay_take rfl (by rfl) (by intro w hSw; (try dsimp only at hSw); first | (go_simp; done) | (go_simp; with_reducible rfl)) ?_; try simp only [Act.put, List.setIfInBounds_toArray, List.set_cons_zero, List.set_cons_succ]) | (refine wpWay_skip rfl (by rfl) ?_; try simp only [Act.put, List.setIfInBounds_toArray, List.set_cons_zero, List.set_cons_succ]))
            refine wpWay_done ?_
            go_wp2_with fail
            go_ret2
            exact ⟨by rw [HA.out]; exact ⟨fun _ => ⟨_, rfl, HST.out⟩, fun h => absurd HZ.out h⟩, HB4.out⟩
          · obtain rfl := hres.2 hz
            have HZ := Lib.hid hz
            clear hres hz
            go_wp2_with fail
            refine ⟨HH.out, ?_⟩
            repeat (first | (refine wpWay_take rfl (by rfl) (by intro w hSw; (try dsimp only at hSw); first | (go_simp; done) | (go_simp; with_reducible rfl)) ?_; try simp only [Act.put, List.setIfInBounds_toArray, List.set_cons_zero, List.set_cons_succ]) | (refine wpWay_skip rfl (by rfl) ?_; try simp only [Act.put, List.setIfInBounds_toArray, List.set_cons_zero, List.set_cons_succ]))
            refine wpWay_done ?_
            go_wp2_with fail
            go_ret2
            exact ⟨by rw [HA.out]; exact ⟨fun h => absurd h HZ.out, fun _ => rfl⟩, HB4.out⟩
      · have e1 : (r.kind == 1) = false := by rw [beq_eq_false_iff_ne]; exact hk1
        rw [if_neg hk1] at ha0
        have hk23 : r.kind = 2 ∨ r.kind = 3 := by omega
        rcases findS_get s r.track with ⟨g1, g2⟩ | ⟨i, hi, g1, g2, g3⟩
        · rw [g2] at ha0
          have HA := Lib.hid (show applyR s r = ([], 5) from ha0)
          have HF := Lib.hid g1
          clear ha0 g1 g2 hk1 hk123 hk23 hsl
          go_enter Try.func14, Try.ntmps14
          go_wp2_with fail
          refine (rvalidRec_any _ r _ (HR.out.bl ((Bl.refl _).alloc _))).mono ?_
          rintro e w1 ⟨rfl, hb⟩
          have HB := Lib.hid (((Bl.refl w).alloc _).bl hb)
          have HK := Lib.hid ((Blk.new w #[.int .i64 r.kind, .int .i64 r.track, .int .i64 r.fr, .int .i64 r.tt, .slice A r.l.length c] 33).bl hb)
          have d0 := HK.out.cell 0
          have d1 := HK.out.cell 1
          have d2 := HK.out.cell 2
          have d3 := HK.out.cell 3
          have d4 := HK.out.cell 4
          simp at d0 d1 d2 d3 d4
          clear hb
          rw [HVR.out]
          go_wp2_with fail
          refine (sfind_any _ s _ _ (HS.out.bl HB.out)).mono ?_
          rintro e w2 ⟨rfl, hb⟩
          replace d0 := hb.cell d0
          rw [HF.out]
          go_wp2_with fail
          go_ret2
          exact ⟨by rw [HA.out]; exact StRes.bad (by decide) _, HB.out.bl hb⟩
        · rw [g3] at ha0
          have HF := Lib.hid g1
          obtain ⟨hi2, htr⟩ := HTR.out.at i hi
          have HT := Lib.hid htr.2
          have HV := Lib.hid (HOK.out.2 s[i] (List.getElem_mem hi))
          have hln := HTR.out.1
          have hii : (i : Int) < hs0.length := by omega
          clear g1 g2 g3 htr hln
          rcases hk23 with hk2 | hk3
          · have HA := Lib.hid (show applyR s r = (withoutS s r.track, 0) by rw [ha0]; exact if_pos hk2)
            have hq : (r.kind == 2) = true := by rw [hk2]; rfl
            clear ha0 hk1 hk123 hk2 hsl
            go_enter Try.func14, Try.ntmps14
            go_wp2_with fail
            refine (rvalidRec_any _ r _ (HR.out.bl ((Bl.refl _).alloc _))).mono ?_
            rintro e w1 ⟨rfl, hb⟩
            have HB := Lib.hid (((Bl.refl w).alloc _).bl hb)
            have HK := Lib.hid ((Blk.new w #[.int .i64 r.kind, .int .i64 r.track, .int .i64 r.fr, .int .i64 r.tt, .slice A r.l.length c] 33).bl hb)
            have d0 := HK.out.cell 0
            have d1 := HK.out.cell 1
            have d2 := HK.out.cell 2
            have d3 := HK.out.cell 3
            have d4 := HK.out.cell 4
            simp at d0 d1 d2 d3 d4
            clear hb
            rw [HVR.out]
            go_wp2_with fail
            refine (sfind_any _ s _ _ (HS.out.bl HB.out)).mono ?_
            rintro e w2 ⟨rfl, hb⟩
            replace d0 := hb.cell d0
            replace d1 := hb.cell d1
            have HB2 := Lib.hid (HB.out.bl hb)
            rw [HF.out]
            clear hb
            go_wp2_with fail
            refine (swithout_G G _ s _ _ (HSM.out.bl (HB2.out.only G)) (Nat.le_trans HOK.out.1 (by decide))).mono ?_
            rintro e w3 ⟨u3, rfl, hst, hb⟩
            have HST := Lib.hid ((Sub.mono (gor_le HB2.out.size)).state hst)
            clear hst
            go_wp2_with fail
            go_ret2
            exact ⟨by rw [HA.out]; exact StRes.ok HST.out, HB2.out.bl hb⟩
          · have ha1 : applyR s r = if endM s[i].2.row < r.fr then ([], 7) else if (spliceOf s[i].2 r).2 = 0 then putR s r.track (treeM (spliceOf s[i].2 r).1) else ([], (spliceOf s[i].2 r).2) := by
              rw [ha0]; exact if_neg (by omega)
            have hrl := hsl hk3
            have hlr := valid_len _ hrl
            have e2 : (r.kind == 2) = false := by rw [beq_eq_false_iff_ne]; omega
            clear ha0 hsl hrl hk1 hk123 hk3
            generalize s[i].2 = t at *
            have hvb := validFrom_bd t.row 0 (by decide) HV.out
            have HA1 := Lib.hid ha1
            clear ha1
            go_enter Try.func14, Try.ntmps14
            go_wp2_with fail
            refine (rvalidRec_any _ r _ (HR.out.bl ((Bl.refl _).alloc _))).mono ?_
            rintro e w1 ⟨rfl, hb⟩
            have HB := Lib.hid (((Bl.refl w).alloc _).bl hb)
            have HK := Lib.hid ((Blk.new w #[.int .i64 r.kind, .int .i64 r.track, .int .i64 r.fr, .int .i64 r.tt, .slice A r.l.length c] 33).bl hb)
            have d0 := HK.out.cell 0
            have d1 := HK.out.cell 1
            have d2 := HK.out.cell 2
            have d3 := HK.out.cell 3
            have d4 := HK.out.cell 4
            simp at d0 d1 d2 d3 d4
            clear hb
            rw [HVR.out]
            go_wp2_with fail
            refine (sfind_any _ s _ _ (HS.out.bl HB.out)).mono ?_
            rintro e w2 ⟨rfl, hb⟩
            replace d0 := hb.cell d0
            replace d1 := hb.cell d1
            replace d2 := hb.cell d2
            replace d3 := hb.cell d3
            replace d4 := hb.cell d4
            have HB2 := Lib.hid (HB.out.bl hb)
            have c1 := hb.cell (HB.out.cell c0)
            rw [HF.out]
            clear hb
            obtain ⟨ad, rfl, k0, k1⟩ := track_at (HAT.out.bl HB2.out) i hi2
            generalize hs0[i] = th at *
            obtain ⟨ti, tb⟩ := th
            dsimp only at k0 k1 HT
            go_wp2_with fail
            by_cases hfr : endM t.row < r.fr
            · have HA := Lib.hid (show applyR s r = ([], 7) by rw [HA1.out]; exact if_pos hfr)
              refine wp_region_ways (S := (fun w' => w'.cell? ⟨w.heap.size, 2, none⟩ = some (.int .i64 r.fr))) [0, 1, 2, 4] (y := .take 0 (.take 1 (.take 2 (.ev 3 (.take 4 (.done)) (.stop))))) (by kernel_rfl) (by kernel_rfl) (by kernel_rfl) ?_ (fun hHeld => ?_)
              · exact Bl.cell (Bl.refl _).drew d2
              repeat (first | (refine wpWay_take rfl (by rfl) (by intro w hSw; (try dsimp only at hSw); first | (go_simp; done) | (go_simp; with_reducible rfl)) ?_; try simp only [Act.put, List.setIfInBounds_toArray, List.set_cons_zero, List.set_cons_succ]) | (refine wpWay_skip rfl (by rfl) ?_; try simp only [Act.put, List.setIfInBounds_toArray, List.set_cons_zero, List.set_cons_succ]))
              refine wpWay_ev rfl (fun K hK => ?_) wpWay_stop
              go_wp2_with fail
              refine (tend_any _ t _ (HT.out.bl (HB2.out.drew)) HV.out).mono ?_
              rintro e w3 ⟨rfl, hb⟩
              go_wp2_with fail
              refine ⟨hb.cell hHeld, ?_⟩
              repeat (first | (refine wpWay_take rfl (by rfl) (by intro w hSw; (try dsimp only at hSw); first | (go_simp; done) | (go_simp; with_reducible rfl)) ?_; try simp only [Act.put, List.setIfInBounds_toArray, List.set_cons_zero, List.set_cons_succ]) | (refine wpWay_skip rfl (by rfl) ?_; try simp only [Act.put, List.setIfInBounds_toArray, List.set_cons_zero, List.set_cons_succ]))
              refine wpWay_done ?_
              go_wp2_with fail
              go_ret2
              exact ⟨by rw [HA.out]; exact StRes.bad (by decide) _, (HB2.out.drew).bl hb⟩
            · have HA := Lib.hid (show applyR s r = if (spliceOf t r).2 = 0 then putR s r.track (treeM (spliceOf t r).1) else ([], (spliceOf t r).2) by rw [HA1.out]; exact if_neg hfr)
              refine wp_region_ways (S := (fun w' => w'.cell? ⟨w.heap.size, 2, none⟩ = some (.int .i64 r.fr))) [0, 1, 2, 4] (y := .take 0 (.take 1 (.take 2 (.ev 3 (.take 4 (.done)) (.stop))))) (by kernel_rfl) (by kernel_rfl) (by kernel_rfl) ?_ (fun hHeld => ?_)
              · exact Bl.cell (Bl.refl _).drew d2
              repeat (first | (refine wpWay_take rfl (by rfl) (by intro w hSw; (try dsimp only at hSw); first | (go_simp; done) | (go_simp; with_reducible rfl)) ?_; try simp only [Act.put, List.setIfInBounds_toArray, List.set_cons_zero, List.set_cons_succ]) | (refine wpWay_skip rfl (by rfl) ?_; try simp only [Act.put, List.setIfInBounds_toArray, List.set_cons_zero, List.set_cons_succ]))
              refine wpWay_ev rfl (fun K hK => ?_) wpWay_stop
              go_wp2_with fail
              refine (tend_any _ t _ (HT.out.bl (HB2.out.drew)) HV.out).mono ?_
              rintro e w3 ⟨rfl, hb⟩
              go_wp2_with fail
              refine ⟨hb.cell hHeld, ?_⟩
              have HB3 := Lib.hid ((HB2.out.drew).bl hb)
              have hb3 := Bl.bl (Bl.refl w2).drew hb
              replace d1 := hb3.cell d1
              replace d2 := hb3.cell d2
              replace d3 := hb3.cell d3
              replace d4 := hb3.cell d4
              clear hb hb3 hHeld d0 c1 k0 k1
              repeat (first | (refine wpWay_take rfl (by rfl) (by intro w hSw; (try dsimp only at hSw); first | (go_simp; done) | (go_simp; with_reducible rfl)) ?_; try simp only [Act.put, List.setIfInBounds_toArray, List.set_cons_zero, List.set_cons_succ]) | (refine wpWay_skip rfl (by rfl) ?_; try simp only [Act.put, List.setIfInBounds_toArray, List.set_cons_zero, List.set_cons_succ]))
              refine wpWay_done ?_
              go_wp2_with fail
              refine wp_region_ways (S := (fun w' => w'.cell? ⟨w.heap.size, 2, none⟩ = some (.int .i64 r.fr) ∧ w'.cell? ⟨w.heap.size, 3, none⟩ = some (.int .i64 r.tt) ∧ w'.cell? ⟨w.heap.size, 4, none⟩ = some (.slice A r.l.length c))) [0, 1, 2, 3, 4, 5, 7, 8, 9, 11, 12, 13, 14, 15] (y := .take 0 (.take 1 (.take 2 (.take 3 (.take 4 (.take 5 (.take 8 (.take 9 (.ev 6 (.take 7 (.ev 10 (.take 11 (.take 12 (.take 13 (.take 14 (.take 15 (.done)))))) (.stop))) (.stop)))))))))) (by kernel_rfl) (by kernel_rfl) (by kernel_rfl) ?_ (fun hHeld => ?_)
              · exact ⟨Bl.cell (Bl.refl _).drew d2, Bl.cell (Bl.refl _).drew d3, Bl.cell (Bl.refl _).drew d4⟩
              have HH := Lib.hid hHeld
              repeat (first | (refine wpWay_take rfl (by rfl) (by intro w hSw; (try dsimp only at hSw); first | (go_simp; done) | (go_simp; with_reducible rfl)) ?_; try simp only [Act.put, List.setIfInBounds_toArray, List.set_cons_zero, List.set_cons_succ]) | (refine wpWay_skip rfl (by rfl) ?_; try simp only [Act.put, List.setIfInBounds_toArray, List.set_cons_zero, List.set_cons_succ]))
              clear hHeld
              refine wpWay_ev rfl (fun K hK => ?_) wpWay_stop
              go_wp2_with fail
              refine (tend_any _ t _ (HT.out.bl (HB3.out.drew)) HV.out).mono ?_
              rintro e w4 ⟨rfl, hb⟩
              replace HH := Lib.hid (And.intro (hb.cell HH.out.1) (And.intro (hb.cell HH.out.2.1) (hb.cell HH.out.2.2)))
              have HB4 := Lib.hid ((HB3.out.drew).bl hb)
              have hb4 := Bl.bl (Bl.refl w3).drew hb
              replace d1 := hb4.cell d1
              clear hb hb4 d2 d3 d4
              go_wp2_with fail
              refine ⟨HH.out, ?_⟩
              repeat (first | (refine wpWay_take rfl (by rfl) (by intro w hSw; (try dsimp only at hSw); first | (go_simp; done) | (go_simp; with_reducible rfl)) ?_; try simp only [Act.put, List.setIfInBounds_toArray, List.set_cons_zero, List.set_cons_succ]) | (refine wpWay_skip rfl (by rfl) ?_; try simp only [Act.put, List.setIfInBounds_toArray, List.set_cons_zero, List.set_cons_succ]))
              refine wpWay_ev rfl (fun K hK => ?_) wpWay_stop
              go_wp2_with fail
              refine (tsplice_G _ _ t r.l r.fr (min r.tt (endM t.row)) _ (HT.out.bl HB4.out) (HL.out.bl HB4.out) HV.out (by omega)).mono ?_
              rintro e w5 ⟨hres, hb⟩
              have HB5 := Lib.hid (HB4.out.bl hb)
              replace HH := Lib.hid (And.intro (hb.cell HH.out.1) (And.intro (hb.cell HH.out.2.1) (hb.cell HH.out.2.2)))
              replace d1 := hb.cell d1
              clear hb
              have hres' : SpliceRes (only w5 (gor G w)) e (spliceOf t r) := SpliceRes.sub hres (Sub.mono (fun b hb => fr_gor G w b (fr_le HB4.out.size b hb)))
              clear hres
              by_cases hz : (spliceOf t r).2 = 0
              · obtain ⟨u3, rfl, hst⟩ := hres'.1 hz
                have HST := Lib.hid hst
                have HA2 := Lib.hid (show applyR s r = putR s r.track (treeM (spliceOf t r).1) by rw [HA.out]; exact if_pos hz)
                clear hres' hst hz
                go_wp2_with fail
                refine ⟨HH.out, ?_⟩
                repeat (first | (refine wpWay_take rfl (by rfl) (by intro w hSw; (try dsimp only at hSw); first | (go_simp; done) | (go_simp; with_reducible rfl)) ?_; try simp only [Act.put, List.setIfInBounds_toArray, List.set_cons_zero, List.set_cons_succ]) | (refine wpWay_skip rfl (by rfl) ?_; try simp only [Act.put, List.setIfInBounds_toArray, List.set_cons_zero, List.set_cons_succ]))
                refine wpWay_done ?_
                go_wp2_with fail
                refine (sput_G (gor G w) _ s r.track u3 (treeM (spliceOf t r).1) _ ((Sub.mono (gor_l G w)).state (HSM.out.bl (HB5.out.only G))) HST.out HOK.out.1).mono ?_
                rintro e w6 ⟨hres, hb⟩
                replace hres := hres.sub (Sub.mono (gor_gor HB5.out.size))
                have HB6 := Lib.hid (HB5.out.bl hb)
                clear hb
                by_cases hz : (putR s r.track (treeM (spliceOf t r).1)).2 = 0
                · obtain ⟨u4, rfl, hst⟩ := hres.1 hz
                  have HST2 := Lib.hid hst
                  have HZ := Lib.hid hz
                  clear hres hst hz
                  go_wp2_with fail
                  go_ret2
                  exact ⟨by rw [HA2.out]; exact ⟨fun _ => ⟨_, rfl, HST2.out⟩, fun h => absurd HZ.out h⟩, HB6.out⟩
                · obtain rfl := hres.2 hz
                  have HZ := Lib.hid hz
                  clear hres hz
                  go_wp2_with fail
                  go_ret2
                  exact ⟨by rw [HA2.out]; exact ⟨fun h => absurd h HZ.out, fun _ => rfl⟩, HB6.out⟩
              · obtain rfl := hres'.2 hz
                have HZ := Lib.hid hz
                have HA2 := Lib.hid (show applyR s r = ([], (spliceOf t r).2) by rw [HA.out]; exact if_neg hz)
                generalize (spliceOf t r).2 = er at *
                have hz1 : (er == 0) = false := by simpa using hz
                have hz2 : (er != 0) = true := by simpa using hz
                clear hres' hz
                go_wp2_with fail
                refine ⟨HH.out, ?_⟩
                repeat (first | (refine wpWay_take rfl (by rfl) (by intro w hSw; (try dsimp only at hSw); first | (go_simp; done) | (go_simp; with_reducible rfl)) ?_; try simp only [Act.put, List.setIfInBounds_toArray, List.set_cons_zero, List.set_cons_succ]) | (refine wpWay_skip rfl (by rfl) ?_; try simp only [Act.put, List.setIfInBounds_toArray, List.set_cons_zero, List.set_cons_succ]))
                refine wpWay_done ?_
                go_wp2_with fail
                go_ret2
                exact ⟨by rw [HA2.out]; exact StRes.bad HZ.out _, HB5.out⟩
theorem sapply_any (v rv : Value) (s : StM) (r : Rec) (w : World) (h : StateIs w v s) (hr : RecIs w rv r) (hs : StOK s) :
    Calls Try.prog 14 #[v, rv] w fun e w' => StRes w' e (applyR s r) ∧ Bl w w' :=
  (sapply_G (fun _ => true) v rv s r w (Sub.state (fun _ _ h => cell_only rfl h) h) hr hs).mono fun _ w' ⟨h, hb⟩ => ⟨h.sub (Sub.un w' _), hb⟩
end Go.Proofs.Ytddcjekkimajpaa.ExtW

/- Contracts of ref20's Lines: find, Put. -/
namespace Go.Proofs.Ytddcjekkimajpaa.ExtW
open Go.RowKit Go.Ov Go.Proofs.Ytddcjekkimajpaa.Need

theorem infoRow20 : (Try.prog.info? 103).map (fun i => (i.zero, i.size, i.bytes)) = some (some (.agg #[.int .i64 0, .slice none 0 0]), 2, 32) := by kernel_rfl

set_option maxHeartbeats 1000000 in
theorem lfind_any (v : Value) (s : LnM) (id : Int) (w : World) (h : LnIs w v s) :
    Calls Try.prog 54 #[v, .int .i64 id] w fun e w' => e = .returned (.int .i64 (idxFrom id 0 (s.map (·.1)))) ∧ w = w' := by
  obtain ⟨hs, ⟨A, c, rfl, _, q1, _, hA⟩, hr⟩ := h
  have HA := Lib.hid hA
  have HE := Lib.hid (show hs.map RH.id = s.map (·.1) from hr.ids)
  unfold maxLen at q1
  have hl : hs.length ≤ 9223372036854775807 := by omega
  clear hA q1 hr
  go_enter Try.func54, Try.ntmps54
  go_wp2_with fail
  go_loopg [8, 5] hs.length (fun g i v5 wr => ∃ k : Nat, k ≤ hs.length ∧ g = hs.length - k ∧ i = .int .i64 k ∧ wr = w ∧ Hid (idxFrom id 0 (s.map (·.1)) = idxFrom id k ((hs.drop k).map RH.id)))
  case atStart => exact ⟨0, by omega, rfl, rfl, rfl, Lib.hid (by rw [List.drop_zero, HE.out])⟩
  case round =>
    obtain ⟨k, hk, rfl, rfl, rfl, HV⟩ := hrel
    by_cases hlt : k < hs.length
    · obtain ⟨ad, rfl, c0, _⟩ := row_at HA.out k hlt
      have hd := Lib.hid (List.drop_eq_getElem_cons hlt)
      by_cases he : hs[k].id = id
      · have HE2 := Lib.hid he
        rw [he] at c0
        clear he
        go_wp2_with fail
        go_ret
        refine ⟨ret_int ?_, rfl⟩
        rw [HV.out, hd.out, List.map_cons, idxFrom, if_pos HE2.out]
      · generalize hx : hs[k].id = x at *
        have he1 : (x == id) = false := by simpa using he
        have HE2 := Lib.hid he
        have HX := Lib.hid hx
        clear he hx
        go_wp2_with fail
        go_roundg (hs.length - (k + 1))
        case measure => omega
        case rel => exact ⟨k + 1, by omega, rfl, by go_num, rfl, Lib.hid (by rw [HV.out, hd.out, List.map_cons, idxFrom, HX.out, if_neg HE2.out])⟩
    · go_wp2_with fail
      go_ret
      refine ⟨ret_int ?_, rfl⟩
      rw [HV.out, List.drop_of_length_le (by omega)]; rfl

theorem lput_low (v : Value) (A2 : Option Addr) (n2 c2 : Nat) (id : Int) (w : World) (h : id < 0 ∨ 99 < id) :
    Calls Try.prog 34 #[v, .int .i64 id, .slice A2 n2 c2] w fun e w' => e = .returned (.tuple #[.slice none 0 0, .int .i64 1]) ∧ w = w' := by
  by_cases h1 : id < 0
  · go_enter Try.func34, Try.ntmps34
    go_wp2_with fail
    go_ret2
    exact ⟨rfl, rfl⟩
  · have h2 : 99 < id := by omega
    clear h
    go_enter Try.func34, Try.ntmps34
    go_wp2_with fail
    go_ret2
    exact ⟨rfl, rfl⟩

set_option maxRecDepth 100000 in
set_option maxHeartbeats 2000000 in
theorem lput_G (G : Nat → Bool) (v : Value) (s : LnM) (id : Int) (rv : Value) (row : List Ext) (w : World) (h : LnIs (only w G) v s) (hr : extE.Is (only w G) rv row) (hn : s.length ≤ 1000) :
    Calls Try.prog 34 #[v, .int .i64 id, rv] w fun e w' => LnRes (only w' (gor G w)) e (lputM s id row) ∧ Bl w w' := by
  have HS := Lib.hid (LnIs.sub (Sub.un w G) h)
  have HRow := Lib.hid hr
  obtain ⟨A2, c2, rfl, _⟩ := hr
  unfold lputM
  by_cases hb : id < 0 ∨ 99 < id
  · rw [if_pos hb]
    exact (lput_low v A2 row.length c2 id w hb).mono fun e w' ⟨h1, h2⟩ => ⟨⟨fun h => absurd h (by decide), fun _ => h1⟩, h2 ▸ Bl.refl _⟩
  rw [if_neg hb]
  obtain ⟨hs, ⟨A, c, rfl, _, q1, _, hA⟩, hrows⟩ := h
  have HA := Lib.hid ((Sub.un w G).at hA)
  have HR := Lib.hid hrows
  have hl0 : hs.length ≤ 1000 := by rw [hrows.1]; exact hn
  have HL := Lib.hid hrows.1
  have hb1 : ¬ id < 0 := by omega
  have hb2 : ¬ 99 < id := by omega
  clear hA q1 hrows hb
  by_cases hlim : idxFrom id 0 (s.map (·.1)) < 0 ∧ 6 ≤ s.length
  · rw [if_pos hlim]
    obtain ⟨hf, hm⟩ := hlim
    have hm2 : 6 ≤ hs.length := by have := HL.out; omega
    have hm3 : (6 : Int) ≤ hs.length := by omega
    go_enter Try.func34, Try.ntmps34
    go_wp2_with fail
    refine (lfind_any _ s id _ HS.out).mono ?_
    rintro e w1 ⟨rfl, rfl⟩
    go_wp2_with fail
    go_ret2
    exact ⟨⟨fun h => absurd h (by decide), fun _ => rfl⟩, Bl.refl _⟩
  rw [if_neg hlim]
  rcases (show 0 ≤ idxFrom id 0 (s.map (·.1)) ∨ (idxFrom id 0 (s.map (·.1)) < 0 ∧ hs.length < 6) from by have := HL.out; omega) with hf | ⟨hf, hm⟩
  · clear hlim
    go_enter Try.func34, Try.ntmps34
    go_wp2_with fail
    refine (lfind_any _ s id _ HS.out).mono ?_
    rintro e w1 ⟨rfl, rfl⟩
    go_wp2_with fail
    generalize hn2 : row.length = n2 at *
    have HN2 := Lib.hid hn2
    clear hn2
    go_loopg [28, 8, 9, 10] hs.length (fun g i v8 v9 v10 wr => ∃ (k : Nat) (o : LnM) (os : List RH) (d : Bool), k ≤ hs.length ∧ g = hs.length - k ∧ i = .int .i64 k ∧ v9 = .bool d ∧ Hid (o ++ lgo (id, row) d (s.drop k) = lgo (id, row) false s) ∧ Hid (rowE.Own 103 wr w.heap.size v8 os) ∧ Hid (LnRows (only w G) os o) ∧ Hid (Bl w wr))
    case atStart => exact ⟨0, [], [], false, by omega, rfl, rfl, rfl, Lib.hid rfl, Lib.hid (Enc.Own.nil _ _ _), Lib.hid (LnRows.nil _), Lib.hid (Bl.refl _)⟩
    case round =>
      obtain ⟨k, o, os, d, hk, rfl, rfl, rfl, HG, HO, HLo, HB⟩ := hrel
      have hol : os.length ≤ 1001 := by
        have h1 := HLo.out.1
        have h2 := congrArg List.length HG.out
        rw [List.length_append] at h2
        have := lgo_len (id, row) false s
        omega
      obtain ⟨A7, c7, rfl⟩ := HO.out.slice
      by_cases hlt : k < hs.length
      · have hlt2 : k < s.length := by have := HL.out; omega
        obtain ⟨ad, rfl, c0, c1⟩ := row_at HA.out k hlt
        obtain ⟨hlt', hR⟩ := HR.out.at k hlt2
        have HD := Lib.hid (List.drop_eq_getElem_cons hlt2)
        rw [hR.1] at c0
        have HT := Lib.hid hR
        have HX := Lib.hid (show LnR (only w G) (id, row) ⟨id, ⟨A2, n2, c2⟩⟩ from ⟨rfl, HRow.out⟩)
        clear hR
        have HE2 := Lib.hid (show LnR (only w G) s[k] ⟨s[k].1, hs[k].h⟩ from ⟨rfl, HT.out.2⟩)
        generalize s[k] = t at *
        generalize hs[k] = hh at *
        obtain ⟨ti, trow⟩ := t
        obtain ⟨hid, hA3, n3, c3⟩ := hh
        dsimp only at c0 c1 HE2
        have B0 := Lib.hid c0
        have B1 := Lib.hid c1
        replace c0 := HB.out.cell c0
        replace c1 := HB.out.cell c1
        cases d with
        | true =>
          by_cases e : ti = id
          · obtain rfl := e
            go_wp2_with fail
            go_roundg (hs.length - (k + 1))
            case measure => omega
            case rel => exact ⟨k + 1, _, _, _, by omega, rfl, by go_num, rfl, Lib.hid (by have h := HG.out; rw [HD.out, lgo] at h; simpa [lgo, List.append_assoc] using h), HO, HLo, HB⟩
          · have e1 : (ti != id) = true := by simpa using e
            have e2 : (ti == id) = false := by simpa using e
            have E := Lib.hid e
            clear e
            go_wp2_with (at_builtin; refine Enc.Own.append1 (E := rowE) rfl (.tmp 55) (.tmp 60) 62 rfl w.heap.size 103 (.agg #[.int .i64 0, .slice none 0 0]) 2 32 Try.underlying62 infoRow20 rfl rfl (by decide) (by decide) _ _ rfl HO.out ⟨ti, ⟨hA3, n3, c3⟩⟩ _ rfl rfl rfl ?hlen1 ?hbase1 ?_; (case hlen1 => have := hol; omega); (case hbase1 => exact (HB.out).size); intro v1 w4 ho hg; have HB1 := Lib.hid ((HB.out.alloc _).grown hg (fun k hk => (Enc.Own.lt HO.out k hk).1)); clear hg; obtain ⟨A51, c51, rfl⟩ := ho.slice; simp only [List.length_append, List.length_singleton] at ho; have HO1 := Lib.hid ho; clear ho; have k01 := HB1.out.cell B0.out; have k11 := HB1.out.cell B1.out)
            go_roundg (hs.length - (k + 1))
            case measure => omega
            case rel => exact ⟨k + 1, _, _, _, by omega, rfl, by go_num, rfl, Lib.hid (by have h := HG.out; rw [HD.out, lgo] at h; simpa [E.out, List.append_assoc] using h), HO1, Lib.hid (HLo.out.snoc HE2.out), HB1⟩
        | false =>
          by_cases le : id ≤ ti
          · by_cases e : ti = id
            · obtain rfl := e
              go_wp2_with (at_builtin; refine Enc.Own.append1 (E := rowE) rfl (.tmp 42) (.tmp 46) 62 rfl w.heap.size 103 (.agg #[.int .i64 0, .slice none 0 0]) 2 32 Try.underlying62 infoRow20 rfl rfl (by decide) (by decide) _ _ rfl HO.out ⟨ti, ⟨A2, n2, c2⟩⟩ _ rfl rfl rfl ?hlen1 ?hbase1 ?_; (case hlen1 => have := hol; omega); (case hbase1 => exact (HB.out).size); intro v1 w4 ho hg; have HB1 := Lib.hid ((HB.out.alloc _).grown hg (fun k hk => (Enc.Own.lt HO.out k hk).1)); clear hg; obtain ⟨A51, c51, rfl⟩ := ho.slice; simp only [List.length_append, List.length_singleton] at ho; have HO1 := Lib.hid ho; clear ho; have k01 := HB1.out.cell B0.out; have k11 := HB1.out.cell B1.out)
              go_roundg (hs.length - (k + 1))
              case measure => omega
              case rel => exact ⟨k + 1, _, _, _, by omega, rfl, by go_num, rfl, Lib.hid (by have h := HG.out; rw [HD.out, lgo] at h; simpa [lgo, List.append_assoc] using h), HO1, Lib.hid (HLo.out.snoc HX.out), HB1⟩
            · have e1 : (ti != id) = true := by simpa using e
              have e2 : (ti == id) = false := by simpa using e
              have E := Lib.hid e
              have LE := Lib.hid le
              clear e
              go_upto_region 13 with (at_builtin; refine Enc.Own.append1 (E := rowE) rfl (.tmp 42) (.tmp 46) 62 rfl w.heap.size 103 (.agg #[.int .i64 0, .slice none 0 0]) 2 32 Try.underlying62 infoRow20 rfl rfl (by decide) (by decide) _ _ rfl HO.out ⟨id, ⟨A2, n2, c2⟩⟩ _ rfl rfl rfl ?hlen1 ?hbase1 ?_; (case hlen1 => have := hol; omega); (case hbase1 => exact (HB.out.size)); intro v1 w4 ho hg; have HB1 := Lib.hid ((HB.out.alloc _).grown hg (fun k hk => (Enc.Own.lt HO.out k hk).1)); clear hg; obtain ⟨A51, c51, rfl⟩ := ho.slice; simp only [List.length_append, List.length_singleton] at ho; have HO1 := Lib.hid ho; clear ho; have k01 := HB1.out.cell B0.out; have k11 := HB1.out.cell B1.out)
              have hol2 : (os ++ [(⟨id, ⟨A2, n2, c2⟩⟩ : RH)]).length ≤ 1002 := by simp; omega
              go_wp2_with (at_builtin; refine Enc.Own.append1 (E := rowE) rfl (.tmp 55) (.tmp 60) 62 rfl w.heap.size 103 (.agg #[.int .i64 0, .slice none 0 0]) 2 32 Try.underlying62 infoRow20 rfl rfl (by decide) (by decide) _ _ rfl HO1.out ⟨ti, ⟨hA3, n3, c3⟩⟩ _ rfl rfl rfl ?hlen2 ?hbase2 ?_; (case hlen2 => have := hol2; omega); (case hbase2 => exact (HB1.out).size); intro v1 w4 ho hg; have HB2 := Lib.hid ((HB1.out.alloc _).grown hg (fun k hk => (Enc.Own.lt HO1.out k hk).1)); clear hg; obtain ⟨A52, c52, rfl⟩ := ho.slice; simp only [List.length_append, List.length_singleton] at ho; have HO2 := Lib.hid ho; clear ho; have k02 := HB2.out.cell B0.out; have k12 := HB2.out.cell B1.out)
              go_roundg (hs.length - (k + 1))
              case measure => omega
              case rel => exact ⟨k + 1, _, _, _, by omega, rfl, by go_num, rfl, Lib.hid (by have h := HG.out; rw [HD.out, lgo] at h; simpa [E.out, LE.out, List.append_assoc] using h), HO2, Lib.hid ((HLo.out.snoc HX.out).snoc HE2.out), HB2⟩
          · have e : ti ≠ id := by omega
            have e1 : (ti != id) = true := by simpa using e
            have e2 : (ti == id) = false := by simpa using e
            have E := Lib.hid e
            have LE := Lib.hid le
            clear e
            go_wp2_with (at_builtin; refine Enc.Own.append1 (E := rowE) rfl (.tmp 55) (.tmp 60) 62 rfl w.heap.size 103 (.agg #[.int .i64 0, .slice none 0 0]) 2 32 Try.underlying62 infoRow20 rfl rfl (by decide) (by decide) _ _ rfl HO.out ⟨ti, ⟨hA3, n3, c3⟩⟩ _ rfl rfl rfl ?hlen1 ?hbase1 ?_; (case hlen1 => have := hol; omega); (case hbase1 => exact (HB.out).size); intro v1 w4 ho hg; have HB1 := Lib.hid ((HB.out.alloc _).grown hg (fun k hk => (Enc.Own.lt HO.out k hk).1)); clear hg; obtain ⟨A51, c51, rfl⟩ := ho.slice; simp only [List.length_append, List.length_singleton] at ho; have HO1 := Lib.hid ho; clear ho; have k01 := HB1.out.cell B0.out; have k11 := HB1.out.cell B1.out)
            go_roundg (hs.length - (k + 1))
            case measure => omega
            case rel => exact ⟨k + 1, _, _, _, by omega, rfl, by go_num, rfl, Lib.hid (by have h := HG.out; rw [HD.out, lgo] at h; simpa [E.out, (show ¬ id ≤ ti from by have := LE.out; omega), List.append_assoc] using h), HO1, Lib.hid (HLo.out.snoc HE2.out), HB1⟩
      · have hds : s.drop k = [] := List.drop_of_length_le (by have := HL.out; omega)
        cases d with
        | true =>
          have HF := Lib.hid (show o = lgo (id, row) false s by have := HG.out; rw [hds] at this; simpa [lgo] using this)
          clear hds
          go_wp2_with fail
          go_ret2
          exact ⟨⟨fun _ => ⟨_, rfl, os, HO.out.isM (fun k hk => fr_gor G w k (fr_ge (Nat.le_refl _) hk)), by rw [← HF.out]; exact LnRows.sub (Sub.mono (gor_l G w)) (HLo.out.bl (HB.out.only G))⟩, fun h => absurd rfl h⟩, HB.out⟩
        | false =>
          have HF := Lib.hid (show o ++ [(id, row)] = lgo (id, row) false s by have := HG.out; rw [hds] at this; simpa [lgo] using this)
          have HX := Lib.hid (show LnR (only w G) (id, row) ⟨id, ⟨A2, n2, c2⟩⟩ from ⟨rfl, HRow.out⟩)
          clear hds
          go_wp2_with (at_builtin; refine Enc.Own.append1 (E := rowE) rfl (.tmp 65) (.tmp 69) 62 rfl w.heap.size 103 (.agg #[.int .i64 0, .slice none 0 0]) 2 32 Try.underlying62 infoRow20 rfl rfl (by decide) (by decide) _ _ rfl HO.out ⟨id, ⟨A2, n2, c2⟩⟩ _ rfl rfl rfl ?hlen1 ?hbase1 ?_; (case hlen1 => have := hol; omega); (case hbase1 => exact (HB.out.size)); intro v1 w4 ho hg; have HB1 := Lib.hid ((HB.out.alloc _).grown hg (fun k hk => (Enc.Own.lt HO.out k hk).1)); clear hg; obtain ⟨A51, c51, rfl⟩ := ho.slice; simp only [List.length_append, List.length_singleton] at ho; have HO1 := Lib.hid ho; clear ho)
          go_ret2
          exact ⟨⟨fun _ => ⟨_, rfl, os ++ [(⟨id, ⟨A2, n2, c2⟩⟩ : RH)], HO1.out.isM (fun k hk => fr_gor G w k (fr_ge (Nat.le_refl _) hk)), by rw [← HF.out]; exact LnRows.sub (Sub.mono (gor_l G w)) ((HLo.out.snoc HX.out).bl (HB1.out.only G))⟩, fun h => absurd rfl h⟩, HB1.out⟩
  · have hm3 : (hs.length : Int) < 6 := by omega
    clear hlim
    go_enter Try.func34, Try.ntmps34
    go_wp2_with fail
    refine (lfind_any _ s id _ HS.out).mono ?_
    rintro e w1 ⟨rfl, rfl⟩
    go_wp2_with fail
    generalize hn2 : row.length = n2 at *
    have HN2 := Lib.hid hn2
    clear hn2
    go_loopg [28, 8, 9, 10] hs.length (fun g i v8 v9 v10 wr => ∃ (k : Nat) (o : LnM) (os : List RH) (d : Bool), k ≤ hs.length ∧ g = hs.length - k ∧ i = .int .i64 k ∧ v9 = .bool d ∧ Hid (o ++ lgo (id, row) d (s.drop k) = lgo (id, row) false s) ∧ Hid (rowE.Own 103 wr w.heap.size v8 os) ∧ Hid (LnRows (only w G) os o) ∧ Hid (Bl w wr))
    case atStart => exact ⟨0, [], [], false, by omega, rfl, rfl, rfl, Lib.hid rfl, Lib.hid (Enc.Own.nil _ _ _), Lib.hid (LnRows.nil _), Lib.hid (Bl.refl _)⟩
    case round =>
      obtain ⟨k, o, os, d, hk, rfl, rfl, rfl, HG, HO, HLo, HB⟩ := hrel
      have hol : os.length ≤ 1001 := by
        have h1 := HLo.out.1
        have h2 := congrArg List.length HG.out
        rw [List.length_append] at h2
        have := lgo_len (id, row) false s
        omega
      obtain ⟨A7, c7, rfl⟩ := HO.out.slice
      by_cases hlt : k < hs.length
      · have hlt2 : k < s.length := by have := HL.out; omega
        obtain ⟨ad, rfl, c0, c1⟩ := row_at HA.out k hlt
        obtain ⟨hlt', hR⟩ := HR.out.at k hlt2
        have HD := Lib.hid (List.drop_eq_getElem_cons hlt2)
        rw [hR.1] at c0
        have HT := Lib.hid hR
        have HX := Lib.hid (show LnR (only w G) (id, row) ⟨id, ⟨A2, n2, c2⟩⟩ from ⟨rfl, HRow.out⟩)
        clear hR
        have HE2 := Lib.hid (show LnR (only w G) s[k] ⟨s[k].1, hs[k].h⟩ from ⟨rfl, HT.out.2⟩)
        generalize s[k] = t at *
        generalize hs[k] = hh at *
        obtain ⟨ti, trow⟩ := t
        obtain ⟨hid, hA3, n3, c3⟩ := hh
        dsimp only at c0 c1 HE2
        have B0 := Lib.hid c0
        have B1 := Lib.hid c1
        replace c0 := HB.out.cell c0
        replace c1 := HB.out.cell c1
        cases d with
        | true =>
          by_cases e : ti = id
          · obtain rfl := e
            go_wp2_with fail
            go_roundg (hs.length - (k + 1))
            case measure => omega
            case rel => exact ⟨k + 1, _, _, _, by omega, rfl, by go_num, rfl, Lib.hid (by have h := HG.out; rw [HD.out, lgo] at h; simpa [lgo, List.append_assoc] using h), HO, HLo, HB⟩
          · have e1 : (ti != id) = true := by simpa using e
            have e2 : (ti == id) = false := by simpa using e
            have E := Lib.hid e
            clear e
            go_wp2_with (at_builtin; refine Enc.Own.append1 (E := rowE) rfl (.tmp 55) (.tmp 60) 62 rfl w.heap.size 103 (.agg #[.int .i64 0, .slice none 0 0]) 2 32 Try.underlying62 infoRow20 rfl rfl (by decide) (by decide) _ _ rfl HO.out ⟨ti, ⟨hA3, n3, c3⟩⟩ _ rfl rfl rfl ?hlen1 ?hbase1 ?_; (case hlen1 => have := hol; omega); (case hbase1 => exact (HB.out).size); intro v1 w4 ho hg; have HB1 := Lib.hid ((HB.out.alloc _).grown hg (fun k hk => (Enc.Own.lt HO.out k hk).1)); clear hg; obtain ⟨A51, c51, rfl⟩ := ho.slice; simp only [List.length_append, List.length_singleton] at ho; have HO1 := Lib.hid ho; clear ho; have k01 := HB1.out.cell B0.out; have k11 := HB1.out.cell B1.out)
            go_roundg (hs.length - (k + 1))
            case measure => omega
            case rel => exact ⟨k + 1, _, _, _, by omega, rfl, by go_num, rfl, Lib.hid (by have h := HG.out; rw [HD.out, lgo] at h; simpa [E.out, List.append_assoc] using h), HO1, Lib.hid (HLo.out.snoc HE2.out), HB1⟩
        | false =>
          by_cases le : id ≤ ti
          · by_cases e : ti = id
            · obtain rfl := e
              go_wp2_with (at_builtin; refine Enc.Own.append1 (E := rowE) rfl (.tmp 42) (.tmp 46) 62 rfl w.heap.size 103 (.agg #[.int .i64 0, .slice none 0 0]) 2 32 Try.underlying62 infoRow20 rfl rfl (by decide) (by decide) _ _ rfl HO.out ⟨ti, ⟨A2, n2, c2⟩⟩ _ rfl rfl rfl ?hlen1 ?hbase1 ?_; (case hlen1 => have := hol; omega); (case hbase1 => exact (HB.out).size); intro v1 w4 ho hg; have HB1 := Lib.hid ((HB.out.alloc _).grown hg (fun k hk => (Enc.Own.lt HO.out k hk).1)); clear hg; obtain ⟨A51, c51, rfl⟩ := ho.slice; simp only [List.length_append, List.length_singleton] at ho; have HO1 := Lib.hid ho; clear ho; have k01 := HB1.out.cell B0.out; have k11 := HB1.out.cell B1.out)
              go_roundg (hs.length - (k + 1))
              case measure => omega
              case rel => exact ⟨k + 1, _, _, _, by omega, rfl, by go_num, rfl, Lib.hid (by have h := HG.out; rw [HD.out, lgo] at h; simpa [lgo, List.append_assoc] using h), HO1, Lib.hid (HLo.out.snoc HX.out), HB1⟩
            · have e1 : (ti != id) = true := by simpa using e
              have e2 : (ti == id) = false := by simpa using e
              have E := Lib.hid e
              have LE := Lib.hid le
              clear e
              go_upto_region 13 with (at_builtin; refine Enc.Own.append1 (E := rowE) rfl (.tmp 42) (.tmp 46) 62 rfl w.heap.size 103 (.agg #[.int .i64 0, .slice none 0 0]) 2 32 Try.underlying62 infoRow20 rfl rfl (by decide) (by decide) _ _ rfl HO.out ⟨id, ⟨A2, n2, c2⟩⟩ _ rfl rfl rfl ?hlen1 ?hbase1 ?_; (case hlen1 => have := hol; omega); (case hbase1 => exact (HB.out.size)); intro v1 w4 ho hg; have HB1 := Lib.hid ((HB.out.alloc _).grown hg (fun k hk => (Enc.Own.lt HO.out k hk).1)); clear hg; obtain ⟨A51, c51, rfl⟩ := ho.slice; simp only [List.length_append, List.length_singleton] at ho; have HO1 := Lib.hid ho; clear ho; have k01 := HB1.out.cell B0.out; have k11 := HB1.out.cell B1.out)
              have hol2 : (os ++ [(⟨id, ⟨A2, n2, c2⟩⟩ : RH)]).length ≤ 1002 := by simp; omega
              go_wp2_with (at_builtin; refine Enc.Own.append1 (E := rowE) rfl (.tmp 55) (.tmp 60) 62 rfl w.heap.size 103 (.agg #[.int .i64 0, .slice none 0 0]) 2 32 Try.underlying62 infoRow20 rfl rfl (by decide) (by decide) _ _ rfl HO1.out ⟨ti, ⟨hA3, n3, c3⟩⟩ _ rfl rfl rfl ?hlen2 ?hbase2 ?_; (case hlen2 => have := hol2; omega); (case hbase2 => exact (HB1.out).size); intro v1 w4 ho hg; have HB2 := Lib.hid ((HB1.out.alloc _).grown hg (fun k hk => (Enc.Own.lt HO1.out k hk).1)); clear hg; obtain ⟨A52, c52, rfl⟩ := ho.slice; simp only [List.length_append, List.length_singleton] at ho; have HO2 := Lib.hid ho; clear ho; have k02 := HB2.out.cell B0.out; have k12 := HB2.out.cell B1.out)
              go_roundg (hs.length - (k + 1))
              case measure => omega
              case rel => exact ⟨k + 1, _, _, _, by omega, rfl, by go_num, rfl, Lib.hid (by have h := HG.out; rw [HD.out, lgo] at h; simpa [E.out, LE.out, List.append_assoc] using h), HO2, Lib.hid ((HLo.out.snoc HX.out).snoc HE2.out), HB2⟩
          · have e : ti ≠ id := by omega
            have e1 : (ti != id) = true := by simpa using e
            have e2 : (ti == id) = false := by simpa using e
            have E := Lib.hid e
            have LE := Lib.hid le
            clear e
            go_wp2_with (at_builtin; refine Enc.Own.append1 (E := rowE) rfl (.tmp 55) (.tmp 60) 62 rfl w.heap.size 103 (.agg #[.int .i64 0, .slice none 0 0]) 2 32 Try.underlying62 infoRow20 rfl rfl (by decide) (by decide) _ _ rfl HO.out ⟨ti, ⟨hA3, n3, c3⟩⟩ _ rfl rfl rfl ?hlen1 ?hbase1 ?_; (case hlen1 => have := hol; omega); (case hbase1 => exact (HB.out).size); intro v1 w4 ho hg; have HB1 := Lib.hid ((HB.out.alloc _).grown hg (fun k hk => (Enc.Own.lt HO.out k hk).1)); clear hg; obtain ⟨A51, c51, rfl⟩ := ho.slice; simp only [List.length_append, List.length_singleton] at ho; have HO1 := Lib.hid ho; clear ho; have k01 := HB1.out.cell B0.out; have k11 := HB1.out.cell B1.out)
            go_roundg (hs.length - (k + 1))
            case measure => omega
            case rel => exact ⟨k + 1, _, _, _, by omega, rfl, by go_num, rfl, Lib.hid (by have h := HG.out; rw [HD.out, lgo] at h; simpa [E.out, (show ¬ id ≤ ti from by have := LE.out; omega), List.append_assoc] using h), HO1, Lib.hid (HLo.out.snoc HE2.out), HB1⟩
      · have hds : s.drop k = [] := List.drop_of_length_le (by have := HL.out; omega)
        cases d with
        | true =>
          have HF := Lib.hid (show o = lgo (id, row) false s by have := HG.out; rw [hds] at this; simpa [lgo] using this)
          clear hds
          go_wp2_with fail
          go_ret2
          exact ⟨⟨fun _ => ⟨_, rfl, os, HO.out.isM (fun k hk => fr_gor G w k (fr_ge (Nat.le_refl _) hk)), by rw [← HF.out]; exact LnRows.sub (Sub.mono (gor_l G w)) (HLo.out.bl (HB.out.only G))⟩, fun h => absurd rfl h⟩, HB.out⟩
        | false =>
          have HF := Lib.hid (show o ++ [(id, row)] = lgo (id, row) false s by have := HG.out; rw [hds] at this; simpa [lgo] using this)
          have HX := Lib.hid (show LnR (only w G) (id, row) ⟨id, ⟨A2, n2, c2⟩⟩ from ⟨rfl, HRow.out⟩)
          clear hds
          go_wp2_with (at_builtin; refine Enc.Own.append1 (E := rowE) rfl (.tmp 65) (.tmp 69) 62 rfl w.heap.size 103 (.agg #[.int .i64 0, .slice none 0 0]) 2 32 Try.underlying62 infoRow20 rfl rfl (by decide) (by decide) _ _ rfl HO.out ⟨id, ⟨A2, n2, c2⟩⟩ _ rfl rfl rfl ?hlen1 ?hbase1 ?_; (case hlen1 => have := hol; omega); (case hbase1 => exact (HB.out.size)); intro v1 w4 ho hg; have HB1 := Lib.hid ((HB.out.alloc _).grown hg (fun k hk => (Enc.Own.lt HO.out k hk).1)); clear hg; obtain ⟨A51, c51, rfl⟩ := ho.slice; simp only [List.length_append, List.length_singleton] at ho; have HO1 := Lib.hid ho; clear ho)
          go_ret2
          exact ⟨⟨fun _ => ⟨_, rfl, os ++ [(⟨id, ⟨A2, n2, c2⟩⟩ : RH)], HO1.out.isM (fun k hk => fr_gor G w k (fr_ge (Nat.le_refl _) hk)), by rw [← HF.out]; exact LnRows.sub (Sub.mono (gor_l G w)) ((HLo.out.snoc HX.out).bl (HB1.out.only G))⟩, fun h => absurd rfl h⟩, HB1.out⟩
end Go.Proofs.Ytddcjekkimajpaa.ExtW

/- Contracts of the document's own functions on extents (overdubref14). -/
namespace Go.Proofs.Ytddcjekkimajpaa.ExtW
open Go.RowKit Go.Ov Go.Proofs.Ytddcjekkimajpaa.Need

set_option maxRecDepth 100000 in
set_option maxHeartbeats 1000000 in
theorem rend_any (v : Value) (l : List Ext) (w : World) (h : extE.Is w v l) :
    Calls Try.prog 55 #[v] w fun e w' => e = .returned (.int .i64 (wrap64 (endM l))) ∧ w = w' := by
  obtain ⟨A, c, rfl, h1, h2, h3, h4⟩ := h
  have HA := Lib.hid h4
  have hl : l.length ≤ 9223372036854775807 := by unfold maxLen at h2; omega
  have hu := Try.underlying38
  clear h1 h2 h3 h4
  go_enter Try.func55, Try.ntmps55
  go_wp2
  go_loopg [3, 7] l.length (fun g s i wr => ∃ k : Nat, k ≤ l.length ∧ g = l.length - k ∧ i = .int .i64 k ∧ s = .int .i64 (wrap64 (psum Ext.take l k)) ∧ wr = w)
  case atStart => exact ⟨0, by omega, rfl, rfl, by rw [psum_zero]; exact congrArg (Value.int .i64) (wrap_id (by decide) (by decide)).symm, rfl⟩
  case round =>
    obtain ⟨k, hk, rfl, rfl, rfl, rfl⟩ := hrel
    by_cases hlt : k < l.length
    · obtain ⟨ad, rfl, c0, c1, c2, c3, c4⟩ := ext_at HA.out k hlt
      have hst := Lib.hid (psum_succ Ext.take l k hlt)
      generalize l[k] = x at *
      obtain ⟨x0, x1, x2, x3, x4⟩ := x
      dsimp only at c0 c1 c2 c3 c4
      go_wp2
      go_roundg (l.length - (k + 1))
      case measure => omega
      case rel => exact ⟨k + 1, by omega, rfl, by go_num, by rw [hst.out, wrap_wrap_add], rfl⟩
    · go_wp2
      go_ret
      exact ⟨ret_int (by rw [psum_all _ _ _ (by omega)]; rfl), rfl⟩

theorem first_bad (x : Ext) (a : Int) : x.at_ ≠ a ∨ x.at_ = a ∧ (x.take < 1 ∨ ¬ x.take < 1 ∧ (x.skip < 0 ∨ ¬ x.skip < 0 ∧ (64 < x.count ∨ ¬ 64 < x.count ∧ (x.count < x.skip ∨ ¬ x.count < x.skip ∧ (x.count - x.skip < x.take ∨ ¬ x.count - x.skip < x.take ∧ (x.sector < 1 ∨ ¬ x.sector < 1 ∧ (4096 ≤ x.sector ∨ ¬ 4096 ≤ x.sector))))))) := by omega

set_option maxRecDepth 100000 in
set_option maxHeartbeats 2000000 in
theorem rvalid_any (v : Value) (l : List Ext) (w : World) (h : extE.Is w v l) : Calls Try.prog 71 #[v] w fun e w' => e = .returned (.bool (validFrom 0 l)) ∧ Bl w w' := by
  obtain ⟨A, c, rfl, h1, h2, h3, h4⟩ := h
  have HA := Lib.hid h4
  have hl : l.length ≤ 9223372036854775807 := by unfold maxLen at h2; omega
  have hu := Try.underlying38
  clear h1 h2 h3 h4
  go_enter Try.func71, Try.ntmps71
  go_wp2
  go_loopg [3, 8] l.length (fun g s i wr => ∃ (k : Nat) (a : Int), k ≤ l.length ∧ g = l.length - k ∧ i = .int .i64 k ∧ s = .int .i64 a ∧ Hid (validFrom 0 l = validFrom a (l.drop k)) ∧ 0 ≤ a ∧ a ≤ 1000 ∧ Bl w wr)
  case atStart => exact ⟨0, 0, by omega, rfl, rfl, rfl, Lib.hid rfl, by omega, by omega, Bl.refl _⟩
  case round =>
    obtain ⟨k, a, hk, rfl, rfl, rfl, hv, ha0, ha1, hbl⟩ := hrel
    have HB := Lib.hid hbl
    clear hbl
    by_cases hlt : k < l.length
    · obtain ⟨ad, rfl, c0, c1, c2, c3, c4⟩ := ext_at (HA.out.bl HB.out) k hlt
      have hd := Lib.hid (List.drop_eq_getElem_cons hlt)
      generalize l[k] = x at *
      have hf := first_bad x a
      obtain ⟨x0, x1, x2, x3, x4⟩ := x
      dsimp only at c0 c1 c2 c3 c4 hf
      rcases hf with g | ⟨rfl, g | ⟨g1, g | ⟨g2, g | ⟨g3, g | ⟨g4, g | ⟨g5, g | ⟨g6, g | g7⟩⟩⟩⟩⟩⟩⟩
      rotate_right
      · have hw2 : wrap64 (x2 - x3) = x2 - x3 := wrap_id (by omega) (by omega)
        go_wp2
        · go_ret
          refine ⟨ret_bool ?_, HB.out.alloc _⟩
          rw [hv.out, hd.out, Bool.eq_iff_iff]; simp [validFrom, oneB]; intros; exfalso; omega
        · go_roundg (l.length - (k + 1))
          case measure => omega
          case rel =>
            refine ⟨k + 1, x0 + x4, by omega, rfl, by go_num, rfl, Lib.hid ?_, by omega, by omega, HB.out.alloc _⟩
            rw [hv.out, hd.out]; simp [validFrom, oneB]; omega
      all_goals
        go_wp2
        go_ret
        refine ⟨ret_bool ?_, HB.out.alloc _⟩
        rw [hv.out, hd.out, Bool.eq_iff_iff]; simp [validFrom, oneB]; intros; exfalso; omega
    · go_wp2
      go_ret
      refine ⟨ret_bool ?_, HB.out⟩
      rw [hv.out, List.drop_of_length_le (by omega)]; rfl

set_option maxRecDepth 100000 in
set_option maxHeartbeats 1000000 in
theorem rshift_any (v : Value) (l : List Ext) (by_ : Int) (w : World) (h : extE.Is w v l) (hn : l.length * 40 ≤ 140737488355328) :
    Calls Try.prog 73 #[v, .int .i64 by_] w fun e w' => ∃ u, e = .returned u ∧ extE.Own 38 w' w.heap.size u (shiftM by_ l) ∧ Bl w w' := by
  obtain ⟨A, c, rfl, h1, h2, h3, h4⟩ := h
  have HA := Lib.hid h4
  have hl : l.length ≤ 9223372036854775807 := by unfold maxLen at h2; omega
  have hu := Try.underlying38
  clear h1 h2 h3 h4
  go_enter Try.func73, Try.ntmps73
  go_wp2
  go_loopg [5, 10] l.length (fun g s i wr => ∃ (k : Nat), k ≤ l.length ∧ g = l.length - k ∧ i = .int .i64 k ∧ extE.Own 38 wr w.heap.size s (pmap (shiftE by_) l k) ∧ Bl w wr)
  case atStart => exact ⟨0, by omega, rfl, rfl, Enc.Own.nil _ _ _, Bl.refl _⟩
  case round =>
    obtain ⟨k, hk, rfl, rfl, ho, hbl⟩ := hrel
    have HB := Lib.hid hbl
    have HO := Lib.hid ho
    clear hbl ho
    by_cases hlt : k < l.length
    · obtain ⟨ad, rfl, c0, c1, c2, c3, c4⟩ := ext_at (HA.out.bl HB.out) k hlt
      have hst := Lib.hid (pmap_succ (shiftE by_) l k hlt)
      have hlen := Lib.hid (pmap_len (shiftE by_) l k hk)
      generalize pmap (shiftE by_) l k = xs at *
      generalize l[k] = x at *
      obtain ⟨x0, x1, x2, x3, x4⟩ := x
      dsimp only at c0 c1 c2 c3 c4
      go_wp2_with (at_builtin; refine Enc.Own.append1 (E := extE) rfl (.tmp 22) (.tmp 24) 31 rfl w.heap.size 38 (.agg #[.int .i64 0, .int .i64 0, .int .i64 0, .int .i64 0, .int .i64 0]) 5 40 Try.underlying31 infoExt rfl rfl (by decide) (by decide) u5 xs rfl (HO.out.bl ((Bl.refl _).alloc _)) ⟨wrap64 (x0 + by_), x1, x2, x3, x4⟩ _ rfl (by simp) rfl ?hlen ?hbase ?_; (case hlen => have := hlen.out; omega); (case hbase => exact (HB.out.alloc _).size); intro v1 w1 ho hg)
      go_roundg (l.length - (k + 1))
      case measure => omega
      case rel => exact ⟨k + 1, by omega, rfl, by go_num, by rw [hst.out]; exact ho, ((HB.out.alloc _).alloc _).grown hg (fun k hk => (Enc.Own.lt HO.out k hk).1)⟩
    · go_wp2
      go_ret
      exact ⟨_, rfl, by have := HO.out; rw [pmap_all _ _ _ (by omega)] at this; exact this, HB.out⟩

set_option maxRecDepth 100000 in
set_option maxHeartbeats 1000000 in
theorem rcut_any (v : Value) (l : List Ext) (a b : Int) (w : World) (h : extE.Is w v l) (hn : l.length * 40 ≤ 140737488355328) :
    Calls Try.prog 72 #[v, .int .i64 a, .int .i64 b] w fun e w' => ∃ u, e = .returned u ∧ extE.Own 38 w' w.heap.size u (cutM (max a 0) (min b (wrap64 (endM l))) l) ∧ Bl w w' := by
  obtain ⟨A, c, rfl, h1, h2, h3, h4⟩ := h
  have HI := Lib.hid (show extE.Is w (.slice A l.length c) l from ⟨A, c, rfl, h1, h2, h3, h4⟩)
  have HA := Lib.hid h4
  have hl : l.length ≤ 9223372036854775807 := by unfold maxLen at h2; omega
  have hu := Try.underlying38
  clear h1 h2 h3 h4
  go_enter Try.func72, Try.ntmps72
  go_wp2_with fail
  refine (rend_any _ _ _ HI.out).mono ?_
  rintro e w1 ⟨rfl, rfl⟩
  go_wp2_with fail
  clear HI
  generalize ha : max a 0 = a1 at *
  generalize hb : min b (wrap64 (endM l)) = b1 at *
  have Ha := Lib.hid ha
  have Hb := Lib.hid hb
  clear ha hb
  go_loopg [7, 20] l.length (fun g s i wr => ∃ (k : Nat), k ≤ l.length ∧ g = l.length - k ∧ i = .int .i64 k ∧ extE.Own 38 wr w.heap.size s (pflat (cutE a1 b1) l k) ∧ Bl w wr)
  case atStart => exact ⟨0, by omega, rfl, rfl, Enc.Own.nil _ _ _, Bl.refl _⟩
  case round =>
    obtain ⟨k, hk, rfl, rfl, ho, hbl⟩ := hrel
    have HB := Lib.hid hbl
    have HO := Lib.hid ho
    clear hbl ho
    by_cases hlt : k < l.length
    · obtain ⟨ad, rfl, c0, c1, c2, c3, c4⟩ := ext_at (HA.out.bl HB.out) k hlt
      have hst := Lib.hid (pflat_succ (cutE a1 b1) l k hlt)
      have hlen := Lib.hid (pflat_len (cutE a1 b1) (cutE_len a1 b1) l k)
      generalize pflat (cutE a1 b1) l k = xs at *
      generalize l[k] = x at *
      obtain ⟨x0, x1, x2, x3, x4⟩ := x
      dsimp only at c0 c1 c2 c3 c4
      go_wp2_with fail
      go_quiet (fail)
      have hcc : cutE a1 b1 ⟨x0, x1, x2, x3, x4⟩ = if max a1 x0 < min b1 (wrap64 (x0 + x4)) then [⟨max a1 x0, x1, x2, wrap64 (wrap64 (x3 + max a1 x0) - x0), wrap64 (min b1 (wrap64 (x0 + x4)) - max a1 x0)⟩] else [] := by
        unfold cutE; rw [Int.max_comm x0 a1, Int.min_comm _ b1]
      have HCC := Lib.hid hcc
      clear hcc
      by_cases ht : max a1 x0 < min b1 (wrap64 (x0 + x4))
      · have HC := Lib.hid (HCC.out.trans (if_pos ht))
        clear HCC
        go_wp2_with (at_builtin; refine Enc.Own.append1 (E := extE) rfl (.tmp 41) (.tmp 58) 31 rfl w.heap.size 38 (.agg #[.int .i64 0, .int .i64 0, .int .i64 0, .int .i64 0, .int .i64 0]) 5 40 Try.underlying31 infoExt rfl rfl (by decide) (by decide) u7 xs rfl (HO.out.bl (((Bl.refl _).alloc _).drewN _)) ⟨max a1 x0, x1, x2, wrap64 (wrap64 (x3 + max a1 x0) - x0), wrap64 (min b1 (wrap64 (x0 + x4)) - max a1 x0)⟩ _ rfl (by simp) rfl ?hlen ?hbase ?_; (case hlen => have := hlen.out; omega); (case hbase => exact ((HB.out.alloc _).drewN _).size); intro v1 w1 ho hg)
        go_roundg (l.length - (k + 1))
        case measure => omega
        case rel => exact ⟨k + 1, by omega, rfl, by go_num, by rw [hst.out, HC.out]; exact ho, (((HB.out.alloc _).drewN _).alloc _).grown hg (fun k hk => (Enc.Own.lt HO.out k hk).1)⟩
      · have HC := Lib.hid (HCC.out.trans (if_neg ht))
        clear HCC
        go_wp2
        go_roundg (l.length - (k + 1))
        case measure => omega
        case rel => exact ⟨k + 1, by omega, rfl, by go_num, by rw [hst.out, HC.out, List.append_nil]; exact HO.out.bl (((Bl.refl _).alloc _).drewN _), (HB.out.alloc _).drewN _⟩
    · go_wp2
      go_ret
      exact ⟨_, rfl, by have := HO.out; rw [pflat_all _ _ _ (by omega)] at this; rw [Ha.out, Hb.out]; exact this, HB.out⟩
end Go.Proofs.Ytddcjekkimajpaa.ExtW

/- Contract of ref14.ValidRecord. -/
namespace Go.Proofs.Ytddcjekkimajpaa.ExtW
open Go.RowKit Go.Ov Go.Proofs.Ytddcjekkimajpaa.Need

set_option maxRecDepth 100000 in
set_option maxHeartbeats 4000000 in
theorem rvalidR_any (v : Value) (r : Rec) (w : World) (h : RecIs w v r) :
    Calls Try.prog 53 #[v] w fun e w' => e = .returned (.bool (validRec r)) ∧ Bl w w' := by
  obtain ⟨u, rfl, hl⟩ := h
  have HL := Lib.hid hl
  obtain ⟨A, c, rfl, _⟩ := hl
  have hu := Try.underlying33
  have hw : ∃ vr, vr = validRec r := ⟨_, rfl⟩
  obtain ⟨vr, hvr⟩ := hw
  rw [← hvr]
  have HVR := Lib.hid hvr
  clear hvr
  have hnb : ∃ nb, nb = noneB r := ⟨_, rfl⟩
  obtain ⟨nb, hnb⟩ := hnb
  have HNB := Lib.hid hnb
  clear hnb
  have htb : ∃ tb, tb = trackB r := ⟨_, rfl⟩
  obtain ⟨tb, htb⟩ := htb
  have HTB := Lib.hid htb
  clear htb
  go_enter Try.func53, Try.ntmps53
  go_upto_region 1 with (fail)
  go_cut [3] (fun v3 wc => v3 = .bool nb ∧ wc = w.alloc (.cells #[.int .i64 r.kind, .int .i64 r.track, .int .i64 r.fr, .int .i64 r.tt, .slice A r.l.length c] 33))
  case first =>
    by_cases h1 : r.fr = 0
    · have f1 : (r.fr == 0) = true := by rw [h1]; rfl
      by_cases h2 : r.tt = 0
      · have f2 : (r.tt == 0) = true := by rw [h2]; rfl
        by_cases h3 : r.l.length = 0
        · have f3 : ((r.l.length : Int) == 0) = true := by rw [h3]; rfl
          have hr : nb = true := by rw [HNB.out]; simp [noneB, h1, h2]; exact List.eq_nil_of_length_eq_zero h3
          have HR := Lib.hid hr
          clear h1 h2 h3 hr
          go_wp2_with fail
          go_meet
          exact ⟨by rw [HR.out], rfl⟩
        · have hr : nb = false := by rw [HNB.out]; simp [noneB, h1, h2]; intro e; rw [e] at h3; simp at h3
          have h4 : ((r.l.length : Int) == 0) = false := by rw [beq_eq_false_iff_ne]; omega
          have HR := Lib.hid hr
          clear h1 h2 h3 hr
          go_wp2_with fail
          go_meet
          exact ⟨by rw [HR.out], rfl⟩
      · have hr : nb = false := by rw [HNB.out]; simp [noneB, h2]
        have h4 : (r.tt == 0) = false := by rw [beq_eq_false_iff_ne]; exact h2
        have HR := Lib.hid hr
        clear h1 h2 hr
        go_wp2_with fail
        go_meet
        exact ⟨by rw [HR.out], rfl⟩
    · have hr : nb = false := by rw [HNB.out]; simp [noneB, h1]
      have h4 : (r.fr == 0) = false := by rw [beq_eq_false_iff_ne]; exact h1
      have HR := Lib.hid hr
      clear h1 hr
      go_wp2_with fail
      go_meet
      exact ⟨by rw [HR.out], rfl⟩
  case rest =>
  obtain ⟨rfl, rfl⟩ := hcut
  rcases (show r.track < 0 ∨ (0 ≤ r.track ∧ r.track ≤ 99) ∨ (0 ≤ r.track ∧ 99 < r.track) from by omega) with t1 | ⟨t1, t2⟩ | ⟨t1, t2⟩
  · have htb : tb = false := by rw [HTB.out]; simp [trackB]; omega
    subst htb
    by_cases k1 : r.kind = 1
    · have hr : vr = (nb && false) := by rw [HVR.out, HNB.out, HTB.out]; simp [validRec, k1]
      have HR := Lib.hid hr
      rw [k1]
      clear hr k1
      cases nb <;> (go_wp2_with fail; go_ret; first | exact ⟨ret_bool HR.out.symm, (Bl.refl _).alloc _⟩ | exact ⟨ret_bool (by rw [HR.out]; simp; omega), (Bl.refl _).alloc _⟩)
    · by_cases k2 : r.kind = 2
      · have hr : vr = (nb && false) := by rw [HVR.out, HNB.out, HTB.out]; simp [validRec, k2]
        have HR := Lib.hid hr
        rw [k2]
        clear hr k1 k2
        cases nb <;> (go_wp2_with fail; go_ret; first | exact ⟨ret_bool HR.out.symm, (Bl.refl _).alloc _⟩ | exact ⟨ret_bool (by rw [HR.out]; simp; omega), (Bl.refl _).alloc _⟩)
      · have e1 : (r.kind == 1) = false := by rw [beq_eq_false_iff_ne]; exact k1
        have e2 : (r.kind == 2) = false := by rw [beq_eq_false_iff_ne]; exact k2
        by_cases k4 : r.kind = 4 ∨ r.kind = 5
        · have hr : vr = (nb && decide (r.track = 0)) := by rw [HVR.out, HNB.out]; unfold validRec; rw [if_neg (by omega), if_pos k4]
          have HR := Lib.hid hr
          clear hr k1 k2 e1 e2
          have ht : (r.track == 0) = decide (r.track = 0) := rfl
          rcases k4 with k4 | k4
          all_goals
            rw [k4]
            clear k4
            cases nb with
            | false => go_wp2_with fail; go_ret; exact ⟨ret_bool HR.out.symm, (Bl.refl _).alloc _⟩
            | true => go_wp2_with fail; go_ret; exact ⟨ret_bool (by rw [HR.out]; simp), (Bl.refl _).alloc _⟩
        · have e4 : (r.kind == 4) = false := by rw [beq_eq_false_iff_ne]; omega
          have e5 : (r.kind == 5) = false := by rw [beq_eq_false_iff_ne]; omega
          by_cases k3 : r.kind = 3
          · have hr : vr = spliceB r := by rw [HVR.out]; unfold validRec; rw [if_neg (by omega), if_neg k4, if_pos k3]
            have HR := Lib.hid hr
            clear hr k1 k2 k4
            rw [k3]
            clear k3 e1 e2 e4 e5
            have hs : spliceB r = false := by unfold spliceB; rw [← HTB.out]; rfl
            have HS := Lib.hid hs
            clear hs
            go_wp2_with fail
            go_ret
            exact ⟨ret_bool (by rw [HR.out, HS.out]), (Bl.refl _).alloc _⟩
          · have hr : vr = false := by rw [HVR.out]; unfold validRec; rw [if_neg (by omega), if_neg k4, if_neg k3]
            have e3 : (r.kind == 3) = false := by rw [beq_eq_false_iff_ne]; omega
            have HR := Lib.hid hr
            clear hr k1 k2 k3 k4
            go_wp2_with fail
            go_ret
            exact ⟨ret_bool HR.out.symm, (Bl.refl _).alloc _⟩
  · have htb : tb = true := by rw [HTB.out]; simp [trackB, t1, t2]
    subst htb
    by_cases k1 : r.kind = 1
    · have hr : vr = (nb && true) := by rw [HVR.out, HNB.out, HTB.out]; simp [validRec, k1]
      have HR := Lib.hid hr
      rw [k1]
      clear hr k1
      cases nb <;> (go_wp2_with fail; go_ret; first | exact ⟨ret_bool HR.out.symm, (Bl.refl _).alloc _⟩ | exact ⟨ret_bool (by rw [HR.out]; simp; omega), (Bl.refl _).alloc _⟩)
    · by_cases k2 : r.kind = 2
      · have hr : vr = (nb && true) := by rw [HVR.out, HNB.out, HTB.out]; simp [validRec, k2]
        have HR := Lib.hid hr
        rw [k2]
        clear hr k1 k2
        cases nb <;> (go_wp2_with fail; go_ret; first | exact ⟨ret_bool HR.out.symm, (Bl.refl _).alloc _⟩ | exact ⟨ret_bool (by rw [HR.out]; simp; omega), (Bl.refl _).alloc _⟩)
      · have e1 : (r.kind == 1) = false := by rw [beq_eq_false_iff_ne]; exact k1
        have e2 : (r.kind == 2) = false := by rw [beq_eq_false_iff_ne]; exact k2
        by_cases k4 : r.kind = 4 ∨ r.kind = 5
        · have hr : vr = (nb && decide (r.track = 0)) := by rw [HVR.out, HNB.out]; unfold validRec; rw [if_neg (by omega), if_pos k4]
          have HR := Lib.hid hr
          clear hr k1 k2 e1 e2
          have ht : (r.track == 0) = decide (r.track = 0) := rfl
          rcases k4 with k4 | k4
          all_goals
            rw [k4]
            clear k4
            cases nb with
            | false => go_wp2_with fail; go_ret; exact ⟨ret_bool HR.out.symm, (Bl.refl _).alloc _⟩
            | true => go_wp2_with fail; go_ret; exact ⟨ret_bool (by rw [HR.out]; simp), (Bl.refl _).alloc _⟩
        · have e4 : (r.kind == 4) = false := by rw [beq_eq_false_iff_ne]; omega
          have e5 : (r.kind == 5) = false := by rw [beq_eq_false_iff_ne]; omega
          by_cases k3 : r.kind = 3
          · have hr : vr = spliceB r := by rw [HVR.out]; unfold validRec; rw [if_neg (by omega), if_neg k4, if_pos k3]
            have HR := Lib.hid hr
            clear hr k1 k2 k4
            rw [k3]
            clear k3 e1 e2 e4 e5
            by_cases q : (0 ≤ r.fr ∧ r.fr ≤ r.tt) ∧ r.tt ≤ 1000
            · have hs : spliceB r = validFrom 0 r.l := by unfold spliceB; rw [← HTB.out]; simp [q.1.1, q.1.2, q.2]
              have HS := Lib.hid hs
              obtain ⟨⟨q1, q2⟩, q3⟩ := q
              clear hs
              go_wp2_with fail
              refine (rvalid_any _ _ _ (HL.out.bl ((Bl.refl _).alloc _))).mono ?_
              rintro e w1 ⟨rfl, hb⟩
              go_wp2_with fail
              go_ret
              exact ⟨ret_bool (by rw [HR.out, HS.out]), ((Bl.refl _).alloc _).bl hb⟩
            · have hs : spliceB r = false := by
                unfold spliceB
                by_cases a1 : 0 ≤ r.fr
                · by_cases a2 : r.fr ≤ r.tt
                  · have a3 : ¬ r.tt ≤ 1000 := fun a3 => q ⟨⟨a1, a2⟩, a3⟩
                    simp [a3]
                  · simp [a2]
                · simp [a1]
              have HS := Lib.hid hs
              rcases (show r.fr < 0 ∨ (0 ≤ r.fr ∧ r.tt < r.fr) ∨ ((0 ≤ r.fr ∧ r.fr ≤ r.tt) ∧ 1000 < r.tt) from by omega) with q1 | ⟨q1, q2⟩ | ⟨⟨q1, q2⟩, q3⟩
              all_goals
                clear hs q
                go_wp2_with fail
                go_ret
                exact ⟨ret_bool (by rw [HR.out, HS.out]), (Bl.refl _).alloc _⟩
          · have hr : vr = false := by rw [HVR.out]; unfold validRec; rw [if_neg (by omega), if_neg k4, if_neg k3]
            have e3 : (r.kind == 3) = false := by rw [beq_eq_false_iff_ne]; omega
            have HR := Lib.hid hr
            clear hr k1 k2 k3 k4
            go_wp2_with fail
            go_ret
            exact ⟨ret_bool HR.out.symm, (Bl.refl _).alloc _⟩
  · have htb : tb = false := by rw [HTB.out]; simp [trackB]; omega
    subst htb
    by_cases k1 : r.kind = 1
    · have hr : vr = (nb && false) := by rw [HVR.out, HNB.out, HTB.out]; simp [validRec, k1]
      have HR := Lib.hid hr
      rw [k1]
      clear hr k1
      cases nb <;> (go_wp2_with fail; go_ret; first | exact ⟨ret_bool HR.out.symm, (Bl.refl _).alloc _⟩ | exact ⟨ret_bool (by rw [HR.out]; simp; omega), (Bl.refl _).alloc _⟩)
    · by_cases k2 : r.kind = 2
      · have hr : vr = (nb && false) := by rw [HVR.out, HNB.out, HTB.out]; simp [validRec, k2]
        have HR := Lib.hid hr
        rw [k2]
        clear hr k1 k2
        cases nb <;> (go_wp2_with fail; go_ret; first | exact ⟨ret_bool HR.out.symm, (Bl.refl _).alloc _⟩ | exact ⟨ret_bool (by rw [HR.out]; simp; omega), (Bl.refl _).alloc _⟩)
      · have e1 : (r.kind == 1) = false := by rw [beq_eq_false_iff_ne]; exact k1
        have e2 : (r.kind == 2) = false := by rw [beq_eq_false_iff_ne]; exact k2
        by_cases k4 : r.kind = 4 ∨ r.kind = 5
        · have hr : vr = (nb && decide (r.track = 0)) := by rw [HVR.out, HNB.out]; unfold validRec; rw [if_neg (by omega), if_pos k4]
          have HR := Lib.hid hr
          clear hr k1 k2 e1 e2
          have ht : (r.track == 0) = decide (r.track = 0) := rfl
          rcases k4 with k4 | k4
          all_goals
            rw [k4]
            clear k4
            cases nb with
            | false => go_wp2_with fail; go_ret; exact ⟨ret_bool HR.out.symm, (Bl.refl _).alloc _⟩
            | true => go_wp2_with fail; go_ret; exact ⟨ret_bool (by rw [HR.out]; simp), (Bl.refl _).alloc _⟩
        · have e4 : (r.kind == 4) = false := by rw [beq_eq_false_iff_ne]; omega
          have e5 : (r.kind == 5) = false := by rw [beq_eq_false_iff_ne]; omega
          by_cases k3 : r.kind = 3
          · have hr : vr = spliceB r := by rw [HVR.out]; unfold validRec; rw [if_neg (by omega), if_neg k4, if_pos k3]
            have HR := Lib.hid hr
            clear hr k1 k2 k4
            rw [k3]
            clear k3 e1 e2 e4 e5
            have hs : spliceB r = false := by unfold spliceB; rw [← HTB.out]; rfl
            have HS := Lib.hid hs
            clear hs
            go_wp2_with fail
            go_ret
            exact ⟨ret_bool (by rw [HR.out, HS.out]), (Bl.refl _).alloc _⟩
          · have hr : vr = false := by rw [HVR.out]; unfold validRec; rw [if_neg (by omega), if_neg k4, if_neg k3]
            have e3 : (r.kind == 3) = false := by rw [beq_eq_false_iff_ne]; omega
            have HR := Lib.hid hr
            clear hr k1 k2 k3 k4
            go_wp2_with fail
            go_ret
            exact ⟨ret_bool HR.out.symm, (Bl.refl _).alloc _⟩
end Go.Proofs.Ytddcjekkimajpaa.ExtW

/- Contract of overdubref14.Splice. -/
namespace Go.Proofs.Ytddcjekkimajpaa.ExtW
open Go.RowKit Go.Ov Go.Proofs.Ytddcjekkimajpaa.Need

theorem rsplice_pure (l new : List Ext) (fr tt : Int) (hv : validFrom 0 l = true) (h0 : 0 ≤ fr) (h1 : fr ≤ tt) :
    (cutM tt (endM l) l = [] → spliceL l fr tt new = cutM 0 fr l ++ shiftM fr new) ∧
    (∀ c0 cl, cutM tt (endM l) l = c0 :: cl → tt < endM l ∧ c0.at_ = tt ∧ spliceL l fr tt new = (cutM 0 fr l ++ shiftM fr new) ++ shiftM (fr + endM new - tt) (c0 :: cl)) := by
  have hb := valid_bd l 0 (by decide) hv
  have he := cut_end l 0 tt (endM l) (Int.le_refl _) (by decide) hv
  refine ⟨fun h => ?_, fun c0 cl h => ?_⟩
  · rw [h] at he
    have : endM [] = 0 := rfl
    unfold spliceL
    rw [show min tt (endM l) = endM l by omega, cut_nil l 0 (endM l) (endM l) (Int.le_refl _) hv (by omega)]
    simp [shiftM]
  · have hcv := cut_valid l 0 tt (endM l) (Int.le_refl _) hv
    rw [h] at hcv he
    have hc := valid_cons hcv
    have hpos : 0 < endM (c0 :: cl) := by
      have := (validFrom_bd (c0 :: cl) (max 0 tt) ?_ hcv).1
      · simp only [List.length_cons] at this; omega
      · by_cases hm : max 0 tt ≤ 1000
        · exact hm
        · exfalso
          have := cut_nil l 0 tt (endM l) (Int.le_refl _) hv (by omega)
          rw [h] at this; cases this
    have ht : tt < endM l := by omega
    refine ⟨ht, by have := hc.1; omega, ?_⟩
    unfold spliceL
    rw [show min tt (endM l) = tt by omega, h]

theorem rcut_eq (v : Value) (l : List Ext) (a b : Int) (w : World) (h : extE.Is w v l) (hn : l.length * 40 ≤ 140737488355328) {X : List Ext} (hX : cutM (max a 0) (min b (wrap64 (endM l))) l = X) :
    Calls Try.prog 72 #[v, .int .i64 a, .int .i64 b] w fun e w' => ∃ u, e = .returned u ∧ extE.Own 38 w' w.heap.size u X ∧ Bl w w' := hX ▸ rcut_any v l a b w h hn
theorem rend_eq (v : Value) (l : List Ext) (w : World) (h : extE.Is w v l) {n : Int} (hm : wrap64 (endM l) = n) :
    Calls Try.prog 55 #[v] w fun e w' => e = .returned (.int .i64 n) ∧ w = w' := hm ▸ rend_any v l w h

set_option maxRecDepth 100000 in
set_option maxHeartbeats 2000000 in
theorem rsplice_any (v u : Value) (l new : List Ext) (fr tt : Int) (w : World) (h : extE.Is w v l) (hn : extE.Is w u new) (hv : validFrom 0 l = true) (hlen : new.length * 40 ≤ 100000000000000) :
    Calls Try.prog 56 #[v, .int .i64 fr, .int .i64 tt, u] w fun e w' => ∃ z, e = .returned (.tuple #[z, .int .i64 (spliceM l fr tt new).2]) ∧ extE.Own 38 w' w.heap.size z (spliceM l fr tt new).1 ∧ Bl w w' := by
  have hb := validFrom_bd l 0 (by decide) hv
  have HE := Lib.hid (show wrap64 (endM l) = endM l from wrap_id (by omega) (by omega))
  have HL := Lib.hid h
  have HN := Lib.hid hn
  have HV := Lib.hid hv
  clear h hn hv
  obtain ⟨hb1, hb2⟩ := hb
  by_cases hbad : spliceBad l fr tt new = true
  · have hm : spliceM l fr tt new = ([], 1) := if_pos hbad
    rw [hm]
    clear hm
    have hor : validFrom 0 new = false ∨ validFrom 0 new = true ∧ (fr < 0 ∨ ¬ fr < 0 ∧ (tt < fr ∨ ¬ tt < fr ∧ endM l < fr)) := by
      simp only [spliceBad, Bool.or_eq_true, Bool.not_eq_true', decide_eq_true_eq] at hbad
      cases hq : validFrom 0 new
      · exact .inl rfl
      · refine .inr ⟨rfl, ?_⟩
        simp [hq] at hbad; omega
    clear hbad
    rcases hor with hq | ⟨hq, h1 | ⟨h1, h2 | ⟨h2, h3⟩⟩⟩
    all_goals
      have HQ := Lib.hid hq
      clear hq
      go_enter Try.func56, Try.ntmps56
      go_wp2_with (first
        | (go_at_call 71; refine (rvalid_any _ _ _ HN.out).mono ?_; rintro e w1 ⟨rfl, hb⟩; rw [HQ.out])
        | (go_at_call 55; refine (rend_eq _ _ _ (HL.out.bl hb) HE.out).mono ?_; rintro e w2 ⟨rfl, rfl⟩))
      go_ret2
      exact ⟨_, rfl, Enc.Own.nil _ _ _, hb⟩
  · have hg : validFrom 0 new = true ∧ ¬ fr < 0 ∧ ¬ tt < fr ∧ ¬ endM l < fr := by
      simp only [spliceBad, Bool.or_eq_true, Bool.not_eq_true', decide_eq_true_eq, not_or] at hbad
      simp at hbad; exact ⟨hbad.1.1.1, by omega, by omega, by omega⟩
    have hm : spliceM l fr tt new = (if spliceLong l fr tt new then ([], 4) else (spliceL l fr tt new, 0)) := if_neg hbad
    clear hbad
    obtain ⟨hq, h1, h2, h3⟩ := hg
    have ⟨nb1, nb2⟩ := validFrom_bd new 0 (by decide) hq
    have HF := Lib.hid (show wrap64 (endM new) = endM new from wrap_id (by omega) (by omega))
    have HQ := Lib.hid hq
    clear hq
    have HP := Lib.hid (rsplice_pure l new fr tt HV.out (by omega) (by omega))
    have hse := splice_end l new fr tt HV.out (by omega) (by omega) (by omega)
    have HSE := Lib.hid (show wrap64 (endM (spliceL l fr tt new)) = fr + endM new + endM l - min tt (endM l) by rw [hse]; exact wrap_id (by omega) (by omega))
    have HY := Lib.hid (show spliceLong l fr tt new = decide (1000 < fr + endM new + endM l - min tt (endM l)) from rfl)
    have HM := Lib.hid hm
    rw [hm]
    clear hm hse
    have ln1 := cutM_len 0 fr l
    have ln2 := shiftM_len fr new
    have ln3 := cutM_len tt (endM l) l
    have HX1 := Lib.hid (show cutM (max 0 0) (min fr (wrap64 (endM l))) l = cutM 0 fr l by rw [HE.out, show (max 0 0 : Int) = 0 from rfl, show min fr (endM l) = fr by omega])
    have HX2 := Lib.hid (show cutM (max tt 0) (min (endM l) (wrap64 (endM l))) l = cutM tt (endM l) l by rw [HE.out, show (max tt 0 : Int) = tt by omega, show min (endM l) (endM l) = endM l by omega])
    generalize spliceL l fr tt new = R at *
    generalize cutM 0 fr l = C1 at *
    generalize hT : cutM tt (endM l) l = T at *
    have HT := Lib.hid hT
    clear hT
    have hlg : spliceLong l fr tt new = true ∧ 1000 < fr + endM new + endM l - min tt (endM l) ∨ spliceLong l fr tt new = false ∧ ¬ 1000 < fr + endM new + endM l - min tt (endM l) := by
      rw [HY.out]; simp; omega
    rcases hlg with ⟨hl1, hl2⟩ | ⟨hl1, hl2⟩
    all_goals
      simp only [hl1, if_true, Bool.false_eq_true, if_false]
      clear hl1
      go_enter Try.func56, Try.ntmps56
      go_wp2_with fail
      refine (rvalid_any _ _ _ HN.out).mono ?_
      rintro e w1 ⟨rfl, hb⟩
      rw [HQ.out]
      have HB := Lib.hid hb
      have HL1 := Lib.hid (HL.out.bl hb)
      have HN1 := Lib.hid (HN.out.bl hb)
      clear hb
      go_wp2_with fail
      refine (rend_eq _ _ _ HL1.out HE.out).mono ?_
      rintro e w2 ⟨rfl, rfl⟩
      go_wp2_with fail
      refine (rcut_eq _ _ _ _ _ HL1.out (by omega) HX1.out).mono ?_
      rintro e w4 ⟨u1, rfl, ho, hb⟩
      have HO1 := Lib.hid ho
      have HS1 := Lib.hid (HB.out.size)
      clear ho
      try replace HE := Lib.hid (HE.out.bl hb)
      try replace HL := Lib.hid (HL.out.bl hb)
      try replace HN := Lib.hid (HN.out.bl hb)
      try replace HV := Lib.hid (HV.out.bl hb)
      try replace HQ := Lib.hid (HQ.out.bl hb)
      try replace HF := Lib.hid (HF.out.bl hb)
      try replace HP := Lib.hid (HP.out.bl hb)
      try replace HSE := Lib.hid (HSE.out.bl hb)
      try replace HY := Lib.hid (HY.out.bl hb)
      try replace HM := Lib.hid (HM.out.bl hb)
      try replace HX1 := Lib.hid (HX1.out.bl hb)
      try replace HX2 := Lib.hid (HX2.out.bl hb)
      try replace HT := Lib.hid (HT.out.bl hb)
      try replace HB := Lib.hid (HB.out.bl hb)
      try replace HL1 := Lib.hid (HL1.out.bl hb)
      try replace HN1 := Lib.hid (HN1.out.bl hb)
      try replace HO1 := Lib.hid (HO1.out.bl hb)
      try replace HS1 := Lib.hid (HS1.out.bl hb)
      clear hb
      go_wp2_with fail
      refine (rshift_any _ _ _ _ HN1.out (by omega)).mono ?_
      rintro e w5 ⟨u2, rfl, ho, hb⟩
      have HO2 := Lib.hid ho
      clear ho
      try replace HE := Lib.hid (HE.out.bl hb)
      try replace HL := Lib.hid (HL.out.bl hb)
      try replace HN := Lib.hid (HN.out.bl hb)
      try replace HV := Lib.hid (HV.out.bl hb)
      try replace HQ := Lib.hid (HQ.out.bl hb)
      try replace HF := Lib.hid (HF.out.bl hb)
      try replace HP := Lib.hid (HP.out.bl hb)
      try replace HSE := Lib.hid (HSE.out.bl hb)
      try replace HY := Lib.hid (HY.out.bl hb)
      try replace HM := Lib.hid (HM.out.bl hb)
      try replace HX1 := Lib.hid (HX1.out.bl hb)
      try replace HX2 := Lib.hid (HX2.out.bl hb)
      try replace HT := Lib.hid (HT.out.bl hb)
      try replace HB := Lib.hid (HB.out.bl hb)
      try replace HL1 := Lib.hid (HL1.out.bl hb)
      try replace HN1 := Lib.hid (HN1.out.bl hb)
      try replace HO1 := Lib.hid (HO1.out.bl hb)
      try replace HS1 := Lib.hid (HS1.out.bl hb)
      try replace HO2 := Lib.hid (HO2.out.bl hb)
      clear hb
      go_wp2_with (at_builtin; refine Enc.Own.append (E := extE) rfl (.tmp 32) (.tmp 35) 31 rfl w.heap.size 38 (.agg #[.int .i64 0, .int .i64 0, .int .i64 0, .int .i64 0, .int .i64 0]) 5 40 Try.underlying31 infoExt rfl rfl (by decide) (by decide) u1 _ rfl (HO1.out.low HS1.out) u2 _ rfl HO2.out.is ?hlen HB.out.size ?_; (case hlen => omega); intro u3 w6 ho3 hg3)
      have HB6 := Lib.hid (HB.out.grown hg3 (fun k hk => Nat.le_trans HS1.out (Enc.Own.lt HO1.out k hk).1))
      have HO3 := Lib.hid ho3
      clear ho3 hg3 HO1 HO2 HB HL1 HN1
      have HL1 := Lib.hid (HL.out.bl HB6.out)
      have HN1 := Lib.hid (HN.out.bl HB6.out)
      go_wp2_with fail
      refine (rend_eq _ _ _ HL1.out HE.out).mono ?_
      rintro e w7 ⟨rfl, rfl⟩
      go_wp2_with fail
      refine (rcut_eq _ _ _ _ _ HL1.out (by omega) HX2.out).mono ?_
      rintro e w8 ⟨u4, rfl, ho, hb⟩
      have HO4 := Lib.hid ho
      have HS6 := Lib.hid HB6.out.size
      clear ho
      try replace HE := Lib.hid (HE.out.bl hb)
      try replace HL := Lib.hid (HL.out.bl hb)
      try replace HN := Lib.hid (HN.out.bl hb)
      try replace HV := Lib.hid (HV.out.bl hb)
      try replace HQ := Lib.hid (HQ.out.bl hb)
      try replace HF := Lib.hid (HF.out.bl hb)
      try replace HP := Lib.hid (HP.out.bl hb)
      try replace HSE := Lib.hid (HSE.out.bl hb)
      try replace HY := Lib.hid (HY.out.bl hb)
      try replace HM := Lib.hid (HM.out.bl hb)
      try replace HX1 := Lib.hid (HX1.out.bl hb)
      try replace HX2 := Lib.hid (HX2.out.bl hb)
      try replace HT := Lib.hid (HT.out.bl hb)
      try replace HB := Lib.hid (HB.out.bl hb)
      try replace HL1 := Lib.hid (HL1.out.bl hb)
      try replace HN1 := Lib.hid (HN1.out.bl hb)
      try replace HO1 := Lib.hid (HO1.out.bl hb)
      try replace HS1 := Lib.hid (HS1.out.bl hb)
      try replace HO2 := Lib.hid (HO2.out.bl hb)
      try replace HB6 := Lib.hid (HB6.out.bl hb)
      try replace HO3 := Lib.hid (HO3.out.bl hb)
      try replace HO4 := Lib.hid (HO4.out.bl hb)
      try replace HS6 := Lib.hid (HS6.out.bl hb)
      clear hb
      obtain ⟨A4, c4, rfl⟩ := Enc.Own.slice HO4.out
      cases T with
      | nil =>
        have HR := Lib.hid (HP.out.1 rfl)
        clear HP
        rw [← HR.out] at HO3
        go_wp2_with fail
        refine (rend_eq _ _ _ HO3.out.is HSE.out).mono ?_
        rintro e w9 ⟨rfl, rfl⟩
        go_wp2
        go_ret2
        first
          | exact ⟨_, rfl, Enc.Own.nil _ _ _, HB6.out⟩
          | exact ⟨_, rfl, HO3.out, HB6.out⟩
      | cons c0 cl =>
        obtain ⟨htt, hat, hR⟩ := HP.out.2 c0 cl rfl
        have HR := Lib.hid hR
        clear HP hR
        obtain ⟨_, _, e4, _, _, _, h4⟩ := HO4.out.is
        simp at e4
        obtain ⟨rfl, rfl⟩ := e4
        obtain ⟨ad, rfl, d0, _⟩ := ext_at h4 0 (by simp)
        have e0 : ad.add (0 * 5) = ad := rfl
        rw [e0] at d0
        simp only [List.getElem_cons_zero, hat] at d0
        clear h4 e0 hat
        have l5 : (shiftM (fr + endM new - tt) (c0 :: cl)).length = (c0 :: cl).length := shiftM_len _ _
        have hw : IntKind.i64.wrap (fr + endM new) = fr + endM new := IntWalk.i64_in _ (by omega)
        have hw' : IntKind.i64.wrap (fr + endM new - tt) = fr + endM new - tt := IntWalk.i64_in _ (by omega)
        go_wp2_with fail
        refine wp_region_ways (S := (fun _ => True)) [0, 1, 2, 3, 5, 6, 7, 8, 10, 13] (y := .take 0 (.take 1 (.take 2 (.take 3 (.take 6 (.take 7 (.take 8 (.ev 4 (.take 5 (.ev 9 (.take 10 (.ev 11 (.ev 12 (.take 13 (.done)) (.stop)) (.stop))) (.stop))) (.ev 9 (.ev 4 (.take 5 (.take 10 (.ev 11 (.ev 12 (.take 13 (.done)) (.stop)) (.stop)))) (.stop)) (.stop)))))))))) (by kernel_rfl) (by kernel_rfl) (by kernel_rfl) ?_ (fun hHeld => ?_)
        · trivial
        repeat (first | (refine wpWay_take rfl (by rfl) (by intro w hSw; (try dsimp only at hSw); first | (go_simp; done) | (go_simp; with_reducible rfl)) ?_; try simp only [Act.put, List.setIfInBounds_toArray, List.set_cons_zero, List.set_cons_succ]) | (refine wpWay_skip rfl (by rfl) ?_; try simp only [Act.put, List.setIfInBounds_toArray, List.set_cons_zero, List.set_cons_succ]))
        refine wpWay_ev rfl (fun K hK => ?_) ?_
        · go_wp2_with fail
          refine (rend_eq _ _ _ (HN1.out.bl (Bl.refl _).drew) HF.out).mono ?_
          rintro e w9 ⟨rfl, rfl⟩
          go_wp2_with fail
          (try refine ⟨trivial, ?_⟩)
          repeat (first | (refine wpWay_take rfl (by rfl) (by intro w hSw; (try dsimp only at hSw); first | (go_simp; done) | (go_simp; with_reducible rfl)) ?_; try simp only [Act.put, List.setIfInBounds_toArray, List.set_cons_zero, List.set_cons_succ]) | (refine wpWay_skip rfl (by rfl) ?_; try simp only [Act.put, List.setIfInBounds_toArray, List.set_cons_zero, List.set_cons_succ]))
          refine wpWay_ev rfl (fun K hK => ?_) wpWay_stop
          go_wp2_with fail
          (try refine ⟨trivial, ?_⟩)
          repeat (first | (refine wpWay_take rfl (by rfl) (by intro w hSw; (try dsimp only at hSw); first | (go_simp; done) | (go_simp; with_reducible rfl)) ?_; try simp only [Act.put, List.setIfInBounds_toArray, List.set_cons_zero, List.set_cons_succ]) | (refine wpWay_skip rfl (by rfl) ?_; try simp only [Act.put, List.setIfInBounds_toArray, List.set_cons_zero, List.set_cons_succ]))
          refine wpWay_ev rfl (fun K hK => ?_) wpWay_stop
          go_wp2_with fail
          refine (rshift_any _ _ _ _ (HO4.out.is.bl (Bl.refl _).drew) (by omega)).mono ?_
          rintro e w10 ⟨u5, rfl, ho5, hb5⟩
          go_wp2_with fail
          (try refine ⟨trivial, ?_⟩)
          repeat (first | (refine wpWay_take rfl (by rfl) (by intro w hSw; (try dsimp only at hSw); first | (go_simp; done) | (go_simp; with_reducible rfl)) ?_; try simp only [Act.put, List.setIfInBounds_toArray, List.set_cons_zero, List.set_cons_succ]) | (refine wpWay_skip rfl (by rfl) ?_; try simp only [Act.put, List.setIfInBounds_toArray, List.set_cons_zero, List.set_cons_succ]))
          refine wpWay_ev rfl (fun K hK => ?_) wpWay_stop
          go_wp2_with (at_builtin; refine Enc.Own.append (E := extE) rfl (.tmp 45) (.tmp 56) 31 rfl w.heap.size 38 (.agg #[.int .i64 0, .int .i64 0, .int .i64 0, .int .i64 0, .int .i64 0]) 5 40 Try.underlying31 infoExt rfl rfl (by decide) (by decide) u3 _ rfl (HO3.out.bl (Bl.trans (Bl.refl _).drew hb5)) u5 _ rfl ho5.is ?hlen (Nat.le_trans HB6.out.size hb5.size) ?_; (case hlen => rw [List.length_append]; omega); intro u6 w11 ho6 hg6)
          (try refine ⟨trivial, ?_⟩)
          repeat (first | (refine wpWay_take rfl (by rfl) (by intro w hSw; (try dsimp only at hSw); first | (go_simp; done) | (go_simp; with_reducible rfl)) ?_; try simp only [Act.put, List.setIfInBounds_toArray, List.set_cons_zero, List.set_cons_succ]) | (refine wpWay_skip rfl (by rfl) ?_; try simp only [Act.put, List.setIfInBounds_toArray, List.set_cons_zero, List.set_cons_succ]))
          refine wpWay_done ?_
          have HB9 := Lib.hid ((HB6.out.bl (Bl.trans (Bl.refl _).drew hb5)).grown hg6 (fun k hk => (Enc.Own.lt HO3.out k hk).1))
          have HO6 := Lib.hid ho6
          clear ho6 hg6 hb5 ho5 hw hw'
          rw [← HR.out] at HO6
          go_wp2_with fail
          refine (rend_eq _ _ _ HO6.out.is HSE.out).mono ?_
          rintro e w12 ⟨rfl, rfl⟩
          go_wp2
          go_ret2
          first
            | exact ⟨_, rfl, Enc.Own.nil _ _ _, HB9.out⟩
            | exact ⟨_, rfl, HO6.out, HB9.out⟩
        · refine wpWay_ev rfl (fun K hK => ?_) wpWay_stop
          go_wp2_with fail
          (try refine ⟨trivial, ?_⟩)
          repeat (first | (refine wpWay_take rfl (by rfl) (by intro w hSw; (try dsimp only at hSw); first | (go_simp; done) | (go_simp; with_reducible rfl)) ?_; try simp only [Act.put, List.setIfInBounds_toArray, List.set_cons_zero, List.set_cons_succ]) | (refine wpWay_skip rfl (by rfl) ?_; try simp only [Act.put, List.setIfInBounds_toArray, List.set_cons_zero, List.set_cons_succ]))
          refine wpWay_ev rfl (fun K hK => ?_) wpWay_stop
          go_wp2_with fail
          refine (rend_eq _ _ _ (HN1.out.bl (Bl.refl _).drew) HF.out).mono ?_
          rintro e w9 ⟨rfl, rfl⟩
          go_wp2_with fail
          (try refine ⟨trivial, ?_⟩)
          repeat (first | (refine wpWay_take rfl (by rfl) (by intro w hSw; (try dsimp only at hSw); first | (go_simp; done) | (go_simp; with_reducible rfl)) ?_; try simp only [Act.put, List.setIfInBounds_toArray, List.set_cons_zero, List.set_cons_succ]) | (refine wpWay_skip rfl (by rfl) ?_; try simp only [Act.put, List.setIfInBounds_toArray, List.set_cons_zero, List.set_cons_succ]))
          refine wpWay_ev rfl (fun K hK => ?_) wpWay_stop
          go_wp2_with fail
          refine (rshift_any _ _ _ _ (HO4.out.is.bl (Bl.refl _).drew) (by omega)).mono ?_
          rintro e w10 ⟨u5, rfl, ho5, hb5⟩
          go_wp2_with fail
          (try refine ⟨trivial, ?_⟩)
          repeat (first | (refine wpWay_take rfl (by rfl) (by intro w hSw; (try dsimp only at hSw); first | (go_simp; done) | (go_simp; with_reducible rfl)) ?_; try simp only [Act.put, List.setIfInBounds_toArray, List.set_cons_zero, List.set_cons_succ]) | (refine wpWay_skip rfl (by rfl) ?_; try simp only [Act.put, List.setIfInBounds_toArray, List.set_cons_zero, List.set_cons_succ]))
          refine wpWay_ev rfl (fun K hK => ?_) wpWay_stop
          go_wp2_with (at_builtin; refine Enc.Own.append (E := extE) rfl (.tmp 45) (.tmp 56) 31 rfl w.heap.size 38 (.agg #[.int .i64 0, .int .i64 0, .int .i64 0, .int .i64 0, .int .i64 0]) 5 40 Try.underlying31 infoExt rfl rfl (by decide) (by decide) u3 _ rfl (HO3.out.bl (Bl.trans (Bl.refl _).drew hb5)) u5 _ rfl ho5.is ?hlen (Nat.le_trans HB6.out.size hb5.size) ?_; (case hlen => rw [List.length_append]; omega); intro u6 w11 ho6 hg6)
          (try refine ⟨trivial, ?_⟩)
          repeat (first | (refine wpWay_take rfl (by rfl) (by intro w hSw; (try dsimp only at hSw); first | (go_simp; done) | (go_simp; with_reducible rfl)) ?_; try simp only [Act.put, List.setIfInBounds_toArray, List.set_cons_zero, List.set_cons_succ]) | (refine wpWay_skip rfl (by rfl) ?_; try simp only [Act.put, List.setIfInBounds_toArray, List.set_cons_zero, List.set_cons_succ]))
          refine wpWay_done ?_
          have HB9 := Lib.hid ((HB6.out.bl (Bl.trans (Bl.refl _).drew hb5)).grown hg6 (fun k hk => (Enc.Own.lt HO3.out k hk).1))
          have HO6 := Lib.hid ho6
          clear ho6 hg6 hb5 ho5 hw hw'
          rw [← HR.out] at HO6
          go_wp2_with fail
          refine (rend_eq _ _ _ HO6.out.is HSE.out).mono ?_
          rintro e w12 ⟨rfl, rfl⟩
          go_wp2
          go_ret2
          first
            | exact ⟨_, rfl, Enc.Own.nil _ _ _, HB9.out⟩
            | exact ⟨_, rfl, HO6.out, HB9.out⟩
theorem rsplice_eq (v u : Value) (l new : List Ext) (fr tt : Int) (w : World) (h : extE.Is w v l) (hn : extE.Is w u new) (hv : validFrom 0 l = true) (hlen : new.length * 40 ≤ 100000000000000) {R : List Ext} {c : Int} (hm : spliceM l fr tt new = (R, c)) :
    Calls Try.prog 56 #[v, .int .i64 fr, .int .i64 tt, u] w fun e w' => ∃ z, e = .returned (.tuple #[z, .int .i64 c]) ∧ extE.Own 38 w' w.heap.size z R ∧ Bl w w' := by
  have := rsplice_any v u l new fr tt w h hn hv hlen
  rw [hm] at this; exact this
end Go.Proofs.Ytddcjekkimajpaa.ExtW

/- Contract of ref20's Lines.Apply. -/
namespace Go.Ov
open Go.RowKit
def fiL (s : LnM) (id : Int) : Int := idxFrom id 0 (s.map (·.1))
def delL (s : LnM) (i : Nat) : LnM := s.take i ++ s.drop (i + 1)
theorem LnRes.bad {w' : World} {n : Int} (hn : n ≠ 0) (s : LnM) : LnRes w' (.returned (.tuple #[.slice none 0 0, .int .i64 n])) (s, n) := ⟨fun h => absurd h hn, fun _ => rfl⟩
end Go.Ov
namespace Go.Proofs.Ytddcjekkimajpaa.ExtW
open Go.RowKit Go.Ov Go.Proofs.Ytddcjekkimajpaa.Need

def lspl (row : List Ext) (r : Rec) : List Ext × Int := spliceM row r.fr (min r.tt (endM row)) r.l
def lapplyM (s : LnM) (r : Rec) : LnM × Int :=
  if validRec r = false ∨ 3 < r.kind then ([], 1)
  else if r.kind = 1 then (if 0 ≤ fiL s r.track then ([], 6) else lputM s r.track [])
  else if fiL s r.track < 0 then ([], 5)
  else if r.kind = 2 then (delL s (fiL s r.track).toNat, 0)
  else if endM (s.getD (fiL s r.track).toNat (0, [])).2 < r.fr then ([], 7)
  else if (lspl (s.getD (fiL s r.track).toNat (0, [])).2 r).2 = 0 then lputM s r.track (lspl (s.getD (fiL s r.track).toNat (0, [])).2 r).1
  else ([], (lspl (s.getD (fiL s r.track).toNat (0, [])).2 r).2)

theorem fi_cases (id : Int) : ∀ (s : LnM) (k : Nat), idxFrom id k (s.map (·.1)) = -1 ∨ ∃ i, i < s.length ∧ idxFrom id k (s.map (·.1)) = ((k + i : Nat) : Int)
  | [], _ => .inl rfl
  | t :: s, k => by
    rw [List.map_cons, idxFrom]
    by_cases e : t.1 = id
    · rw [if_pos e]; exact .inr ⟨0, by simp, by simp⟩
    · rw [if_neg e]
      rcases fi_cases id s (k + 1) with h | ⟨i, h1, h2⟩
      · exact .inl h
      · exact .inr ⟨i + 1, by simpa using h1, by rw [h2]; omega⟩

set_option maxRecDepth 100000 in
set_option maxHeartbeats 4000000 in
theorem lapply_G (G : Nat → Bool) (v rv : Value) (s : LnM) (r : Rec) (w : World) (h : LnIs (only w G) v s) (hr : RecIs w rv r) (hs : s.length ≤ 1000) (hv : ∀ t ∈ s, validFrom 0 t.2 = true) :
    Calls Try.prog 31 #[v, rv] w fun e w' => LnRes (only w' (gor G w)) e (lapplyM s r) ∧ Bl w w' := by
  have HM := Lib.hid h
  have HS := Lib.hid (LnIs.sub (Sub.un w G) h)
  have HR := Lib.hid hr
  have HV := Lib.hid hv
  obtain ⟨u2, rfl, hl⟩ := hr
  have HL := Lib.hid hl
  obtain ⟨A, c, rfl, _⟩ := hl
  obtain ⟨hs0, hIs, hrows⟩ := h
  have HIS := Lib.hid ((Sub.un w G).is hIs)
  obtain ⟨A0, cc0, e0, q0, _, _, hat⟩ := hIs
  subst e0
  have HAT := Lib.hid ((Sub.un w G).at hat)
  have HATM := Lib.hid hat
  have HTR := Lib.hid hrows
  have hlen := hrows.1
  have HLEN := Lib.hid hlen
  have hu := Try.underlying33
  clear hat hrows hv
  cases hvr : validRec r with
  | false =>
    have HVR := Lib.hid hvr
    have HA := Lib.hid (show lapplyM s r = ([], 1) from if_pos (.inl hvr))
    clear hvr hlen
    go_enter Try.func31, Try.ntmps31
    go_wp2_with fail
    refine (rvalidR_any _ r _ (HR.out.bl ((Bl.refl _).alloc _))).mono ?_
    rintro e w1 ⟨rfl, hb⟩
    have HB := Lib.hid (((Bl.refl w).alloc _).bl hb)
    have HK := Lib.hid ((Blk.new w #[.int .i64 r.kind, .int .i64 r.track, .int .i64 r.fr, .int .i64 r.tt, .slice A r.l.length c] 33).bl hb)
    have d0 := HK.out.cell 0
    have d1 := HK.out.cell 1
    have d2 := HK.out.cell 2
    have d3 := HK.out.cell 3
    have d4 := HK.out.cell 4
    simp at d0 d1 d2 d3 d4
    clear hb
    rw [HVR.out]
    go_wp2_with fail
    go_ret2
    exact ⟨by rw [HA.out]; exact LnRes.bad (by decide) _, HB.out⟩
  | true =>
    have HVR := Lib.hid hvr
    have ha0 : lapplyM s r = if 3 < r.kind then ([], 1) else if r.kind = 1 then (if 0 ≤ fiL s r.track then ([], 6) else lputM s r.track [])
        else if fiL s r.track < 0 then ([], 5) else if r.kind = 2 then (delL s (fiL s r.track).toNat, 0) else if endM (s.getD (fiL s r.track).toNat (0, [])).2 < r.fr then ([], 7)
        else if (lspl (s.getD (fiL s r.track).toNat (0, [])).2 r).2 = 0 then lputM s r.track (lspl (s.getD (fiL s r.track).toNat (0, [])).2 r).1 else ([], (lspl (s.getD (fiL s r.track).toNat (0, [])).2 r).2) := by
      unfold lapplyM; simp only [hvr, Bool.true_eq_false, false_or]
    clear hlen
    by_cases hk3 : 3 < r.kind
    · rw [if_pos hk3] at ha0
      have HA := Lib.hid ha0
      clear ha0 hvr
      go_enter Try.func31, Try.ntmps31
      go_wp2_with fail
      refine (rvalidR_any _ r _ (HR.out.bl ((Bl.refl _).alloc _))).mono ?_
      rintro e w1 ⟨rfl, hb⟩
      have HB := Lib.hid (((Bl.refl w).alloc _).bl hb)
      have HK := Lib.hid ((Blk.new w #[.int .i64 r.kind, .int .i64 r.track, .int .i64 r.fr, .int .i64 r.tt, .slice A r.l.length c] 33).bl hb)
      have d0 := HK.out.cell 0
      have d1 := HK.out.cell 1
      have d2 := HK.out.cell 2
      have d3 := HK.out.cell 3
      have d4 := HK.out.cell 4
      simp at d0 d1 d2 d3 d4
      clear hb
      rw [HVR.out]
      go_wp2_with fail
      go_ret2
      exact ⟨by rw [HA.out]; exact LnRes.bad (by decide) _, HB.out⟩
    · rw [if_neg hk3] at ha0
      have hk0 : 1 ≤ r.kind := by
        unfold validRec at hvr
        by_cases h1 : r.kind = 1 ∨ r.kind = 2
        · omega
        · rw [if_neg h1, if_neg (by omega)] at hvr
          by_cases h3 : r.kind = 3
          · omega
          · rw [if_neg h3] at hvr; cases hvr
      have hvl : r.kind = 3 → validFrom 0 r.l = true := by
        intro h3
        unfold validRec at hvr
        rw [if_neg (by omega), if_neg (by omega), if_pos h3] at hvr
        simp only [spliceB, Bool.and_eq_true] at hvr
        exact hvr.2
      clear hvr
      have hfi := fi_cases r.track s 0
      by_cases hk1 : r.kind = 1
      · have e1 : (r.kind == 1) = true := by rw [hk1]; rfl
        rw [if_pos hk1] at ha0
        rcases hfi with hfi | ⟨i, hi, hfi⟩
        · have HF := Lib.hid hfi
          have HA := Lib.hid (show lapplyM s r = lputM s r.track [] by rw [ha0, if_neg (by unfold fiL; omega)])
          clear ha0 hfi hvl hk1
          go_enter Try.func31, Try.ntmps31
          go_wp2_with fail
          refine (rvalidR_any _ r _ (HR.out.bl ((Bl.refl _).alloc _))).mono ?_
          rintro e w1 ⟨rfl, hb⟩
          have HB := Lib.hid (((Bl.refl w).alloc _).bl hb)
          have HK := Lib.hid ((Blk.new w #[.int .i64 r.kind, .int .i64 r.track, .int .i64 r.fr, .int .i64 r.tt, .slice A r.l.length c] 33).bl hb)
          have d0 := HK.out.cell 0
          have d1 := HK.out.cell 1
          have d2 := HK.out.cell 2
          have d3 := HK.out.cell 3
          have d4 := HK.out.cell 4
          simp at d0 d1 d2 d3 d4
          clear hb
          rw [HVR.out]
          go_wp2_with fail
          refine (lfind_any _ s _ _ (HS.out.bl HB.out)).mono ?_
          rintro e w2 ⟨rfl, rfl⟩
          rw [HF.out]
          go_wp2_with fail
          refine (lput_G (gor G w) _ s r.track _ [] _ (LnIs.sub (Sub.mono (gor_l G w)) (HM.out.bl (HB.out.only G))) (Enc.Is.nil _) (by omega)).mono ?_
          rintro e w4 ⟨hres, hb⟩
          replace hres := hres.sub (Sub.mono (gor_gor HB.out.size))
          have HB4 := Lib.hid (HB.out.bl hb)
          clear hb
          by_cases hz : (lputM s r.track []).2 = 0
          · obtain ⟨u3, rfl, hst⟩ := hres.1 hz
            have HST := Lib.hid hst
            have HZ := Lib.hid hz
            clear hres hst hz
            go_wp2_with fail
            go_ret2
            exact ⟨by rw [HA.out]; exact ⟨fun _ => ⟨_, rfl, HST.out⟩, fun h => absurd HZ.out h⟩, HB4.out⟩
          · obtain rfl := hres.2 hz
            have HZ := Lib.hid hz
            clear hres hz
            go_wp2_with fail
            go_ret2
            exact ⟨by rw [HA.out]; exact ⟨fun h => absurd h HZ.out, fun _ => rfl⟩, HB4.out⟩
        · have HF := Lib.hid (show idxFrom r.track 0 (s.map (·.1)) = (i : Int) by rw [hfi]; omega)
          have HA := Lib.hid (show lapplyM s r = ([], 6) by rw [ha0, if_pos (by unfold fiL; omega)])
          clear ha0 hfi hvl hk1
          go_enter Try.func31, Try.ntmps31
          go_wp2_with fail
          refine (rvalidR_any _ r _ (HR.out.bl ((Bl.refl _).alloc _))).mono ?_
          rintro e w1 ⟨rfl, hb⟩
          have HB := Lib.hid (((Bl.refl w).alloc _).bl hb)
          have HK := Lib.hid ((Blk.new w #[.int .i64 r.kind, .int .i64 r.track, .int .i64 r.fr, .int .i64 r.tt, .slice A r.l.length c] 33).bl hb)
          have d0 := HK.out.cell 0
          have d1 := HK.out.cell 1
          have d2 := HK.out.cell 2
          have d3 := HK.out.cell 3
          have d4 := HK.out.cell 4
          simp at d0 d1 d2 d3 d4
          clear hb
          rw [HVR.out]
          go_wp2_with fail
          refine (lfind_any _ s _ _ (HS.out.bl HB.out)).mono ?_
          rintro e w2 ⟨rfl, rfl⟩
          rw [HF.out]
          go_wp2_with fail
          go_ret2
          exact ⟨by rw [HA.out]; exact LnRes.bad (by decide) _, HB.out⟩
      · have e1 : (r.kind == 1) = false := by rw [beq_eq_false_iff_ne]; exact hk1
        rw [if_neg hk1] at ha0
        rcases hfi with hfi | ⟨i, hi, hfi⟩
        · have HF := Lib.hid hfi
          have HA := Lib.hid (show lapplyM s r = ([], 5) by rw [ha0, if_pos (by unfold fiL; omega)])
          clear ha0 hfi hvl
          rcases (show r.kind = 2 ∨ r.kind = 3 from by omega) with hk2 | hk2
          all_goals
            first | have e2 : (r.kind == 2) = true := by rw [hk2]; rfl
                  | have e2 : (r.kind == 2) = false := by rw [hk2]; rfl
            clear hk1 hk2
            go_enter Try.func31, Try.ntmps31
            go_wp2_with fail
            refine (rvalidR_any _ r _ (HR.out.bl ((Bl.refl _).alloc _))).mono ?_
            rintro e w1 ⟨rfl, hb⟩
            have HB := Lib.hid (((Bl.refl w).alloc _).bl hb)
            have HK := Lib.hid ((Blk.new w #[.int .i64 r.kind, .int .i64 r.track, .int .i64 r.fr, .int .i64 r.tt, .slice A r.l.length c] 33).bl hb)
            have d0 := HK.out.cell 0
            have d1 := HK.out.cell 1
            have d2 := HK.out.cell 2
            have d3 := HK.out.cell 3
            have d4 := HK.out.cell 4
            simp at d0 d1 d2 d3 d4
            clear hb
            rw [HVR.out]
            go_wp2_with fail
            refine (lfind_any _ s _ _ (HS.out.bl HB.out)).mono ?_
            rintro e w2 ⟨rfl, rfl⟩
            rw [HF.out]
            go_wp2_with fail
            go_ret2
            exact ⟨by rw [HA.out]; exact LnRes.bad (by decide) _, HB.out⟩
        · have HF := Lib.hid (show idxFrom r.track 0 (s.map (·.1)) = (i : Int) by rw [hfi]; omega)
          have hfl : fiL s r.track = (i : Int) := HF.out
          rw [if_neg (by omega), hfl, Int.toNat_natCast] at ha0
          have hi2 : i < hs0.length := by have := HLEN.out; omega
          have hii : (i : Int) < hs0.length := by omega
          clear hfi hfl
          by_cases hk2 : r.kind = 2
          · have e2 : (r.kind == 2) = true := by rw [hk2]; rfl
            have HA := Lib.hid (show lapplyM s r = (delL s i, 0) by rw [ha0, if_pos hk2])
            clear ha0 hvl hk1 hk2
            obtain ⟨V1, hV1, hI1⟩ := slice_h (E := rowE) (P := Try.prog) (t := 62) (by kernel_rfl) (fun w => by kernel_rfl) A0 cc0 hs0 (i : Int) (by omega) (by omega) q0
            obtain ⟨V2, hV2, hI2⟩ := slice_l (E := rowE) (P := Try.prog) (t := 62) (by kernel_rfl) (fun w => by kernel_rfl) A0 cc0 hs0 ((i : Int) + 1) (by omega) (by omega)
            have HI1 := Lib.hid (hI1 w HIS.out)
            have HI2 := Lib.hid (hI2 w HIS.out)
            rw [Int.toNat_natCast] at HI1
            rw [show ((i : Int) + 1).toNat = i + 1 by omega] at HI2
            have hT1 : (hs0.take i).length ≤ 1000 := by have := HLEN.out; simp; omega
            have hT2 : (hs0.drop (i + 1)).length ≤ 1000 := by have := HLEN.out; simp; omega
            obtain ⟨T1, hT1e⟩ : ∃ T1, T1 = hs0.take i := ⟨_, rfl⟩
            obtain ⟨T2, hT2e⟩ : ∃ T2, T2 = hs0.drop (i + 1) := ⟨_, rfl⟩
            rw [← hT1e] at HI1 hT1
            rw [← hT2e] at HI2 hT2
            have HT1 := Lib.hid hT1e
            have HT2 := Lib.hid hT2e
            clear hT1e hT2e
            clear hI1 hI2
            have hw : IntKind.i64.wrap ((i : Int) + 1) = (i : Int) + 1 := IntWalk.i64_in _ (by omega)
            go_enter Try.func31, Try.ntmps31
            go_wp2_with fail
            refine (rvalidR_any _ r _ (HR.out.bl ((Bl.refl _).alloc _))).mono ?_
            rintro e w1 ⟨rfl, hb⟩
            have HB := Lib.hid (((Bl.refl w).alloc _).bl hb)
            have HK := Lib.hid ((Blk.new w #[.int .i64 r.kind, .int .i64 r.track, .int .i64 r.fr, .int .i64 r.tt, .slice A r.l.length c] 33).bl hb)
            have d0 := HK.out.cell 0
            have d1 := HK.out.cell 1
            have d2 := HK.out.cell 2
            have d3 := HK.out.cell 3
            have d4 := HK.out.cell 4
            simp at d0 d1 d2 d3 d4
            clear hb
            rw [HVR.out]
            go_wp2_with fail
            refine (lfind_any _ s _ _ (HS.out.bl HB.out)).mono ?_
            rintro e w2 ⟨rfl, rfl⟩
            rw [HF.out]
            go_wp2_with fail
            refine wp_region_ways (S := (fun _ => True)) [0, 1, 2, 4, 5, 6, 7, 9, 10] (y := .take 0 (.take 1 (.take 2 (.take 4 (.take 5 (.take 6 (.take 7 (.ev 3 (.ev 8 (.take 9 (.take 10 (.done))) (.stop)) (.stop))))))))) (by kernel_rfl) (by kernel_rfl) (by kernel_rfl) ?_ (fun hHeld => ?_)
            · trivial
            repeat (first | (refine wpWay_take rfl (by rfl) (by intro w hSw; (try dsimp only at hSw); first | (go_simp; done) | (go_simp; with_reducible rfl)) ?_; try simp only [Act.put, List.setIfInBounds_toArray, List.set_cons_zero, List.set_cons_succ]) | (refine wpWay_skip rfl (by rfl) ?_; try simp only [Act.put, List.setIfInBounds_toArray, List.set_cons_zero, List.set_cons_succ]))
            clear hHeld
            have HB2 := Lib.hid (HB.out.drew)
            refine wpWay_ev rfl (fun K hK => ?_) wpWay_stop
            go_wp2_with (at_builtin; refine Enc.Own.append (E := rowE) rfl (.const (.slice none 0 0)) (.tmp 40) 62 rfl w.heap.size 103 (.agg #[.int .i64 0, .slice none 0 0]) 2 32 Try.underlying62 infoRow20 rfl rfl (by decide) (by decide) (.slice none 0 0) [] rfl (Enc.Own.nil _ _ _) _ _ rfl (HI1.out.bl HB2.out) ?hlen1 ?hbase1 ?_; (case hlen1 => simp; omega); (case hbase1 => exact HB2.out.size); intro v1 w3 ho hg)
            have HB3 := Lib.hid (HB2.out.grown hg (fun k hk => by simp [Value.ownBlock] at hk))
            obtain ⟨A5, c5, rfl⟩ := ho.slice
            simp only [List.nil_append] at ho
            have HO1 := Lib.hid ho
            clear ho hg
            repeat (first | (refine wpWay_take rfl (by rfl) (by intro w hSw; (try dsimp only at hSw); first | (go_simp; done) | (go_simp; with_reducible rfl)) ?_; try simp only [Act.put, List.setIfInBounds_toArray, List.set_cons_zero, List.set_cons_succ]) | (refine wpWay_skip rfl (by rfl) ?_; try simp only [Act.put, List.setIfInBounds_toArray, List.set_cons_zero, List.set_cons_succ]))
            refine wpWay_ev rfl (fun K hK => ?_) wpWay_stop
            go_wp2_with (at_builtin; refine Enc.Own.append (E := rowE) rfl (.tmp 41) (.tmp 45) 62 rfl w.heap.size 103 (.agg #[.int .i64 0, .slice none 0 0]) 2 32 Try.underlying62 infoRow20 rfl rfl (by decide) (by decide) _ _ rfl HO1.out _ _ rfl (HI2.out.bl HB3.out) ?hlen2 ?hbase2 ?_; (case hlen2 => omega); (case hbase2 => exact HB3.out.size); intro v2 w4 ho hg)
            have HB4 := Lib.hid (HB3.out.grown hg (fun k hk => (Enc.Own.lt HO1.out k hk).1))
            obtain ⟨A6, c6, rfl⟩ := ho.slice
            simp only [List.length_append] at ho
            have HO2 := Lib.hid ho
            clear ho hg
            repeat (first | (refine wpWay_take rfl (by rfl) (by intro w hSw; (try dsimp only at hSw); first | (go_simp; done) | (go_simp; with_reducible rfl)) ?_; try simp only [Act.put, List.setIfInBounds_toArray, List.set_cons_zero, List.set_cons_succ]) | (refine wpWay_skip rfl (by rfl) ?_; try simp only [Act.put, List.setIfInBounds_toArray, List.set_cons_zero, List.set_cons_succ]))
            refine wpWay_done ?_
            go_wp2_with fail
            go_ret2
            exact ⟨by rw [HA.out]; exact ⟨fun _ => ⟨_, rfl, _, HO2.out.isM (fun k hk => fr_gor G w k (fr_ge (Nat.le_refl _) hk)), by
              have := LnRows.sub (Sub.mono (gor_l G w)) (HTR.out.bl (HB4.out.only G))
              have h1 := (this.take i).append (this.drop (i + 1))
              rw [HT1.out, HT2.out]; exact h1⟩, fun h => absurd rfl h⟩, HB4.out⟩
          · have e2 : (r.kind == 2) = false := by rw [beq_eq_false_iff_ne]; exact hk2
            have hk : r.kind = 3 := by omega
            rw [if_neg hk2] at ha0
            have hsi : i < s.length := hi
            rw [show s.getD i (0, []) = s[i] by rw [List.getD_eq_getElem?_getD, List.getElem?_eq_getElem hsi]; rfl] at ha0
            obtain ⟨hi3, htr⟩ := HTR.out.at i hsi
            have HT := Lib.hid htr
            have hval := HV.out s[i] (List.getElem_mem hsi)
            have hlr := valid_len _ (hvl hk)
            obtain ⟨ad, rfl, k0, k1⟩ := row_at HAT.out i hi2
            generalize s[i] = t at *
            generalize hs0[i] = th at *
            obtain ⟨ti, row⟩ := t
            obtain ⟨tid, A3, n3, c3⟩ := th
            dsimp only at k0 k1 ha0 hval
            have hvb := validFrom_bd row 0 (by decide) hval
            have HX := Lib.hid ((Sub.un w G).is htr.2)
            have HW := Lib.hid (show wrap64 (endM row) = endM row from wrap_id (by omega) (by omega))
            have HA1 := Lib.hid ha0
            have HVAL := Lib.hid hval
            have B1 := Lib.hid k1
            clear ha0 hvl hk1 hk2 hk htr hval k0 k1
            by_cases hfr : endM row < r.fr
            · have HA := Lib.hid (show lapplyM s r = ([], 7) by rw [HA1.out, if_pos hfr])
              go_enter Try.func31, Try.ntmps31
              go_wp2_with fail
              refine (rvalidR_any _ r _ (HR.out.bl ((Bl.refl _).alloc _))).mono ?_
              rintro e w1 ⟨rfl, hb⟩
              have HB := Lib.hid (((Bl.refl w).alloc _).bl hb)
              have HK := Lib.hid ((Blk.new w #[.int .i64 r.kind, .int .i64 r.track, .int .i64 r.fr, .int .i64 r.tt, .slice A r.l.length c] 33).bl hb)
              have d0 := HK.out.cell 0
              have d1 := HK.out.cell 1
              have d2 := HK.out.cell 2
              have d3 := HK.out.cell 3
              have d4 := HK.out.cell 4
              simp at d0 d1 d2 d3 d4
              clear hb
              rw [HVR.out]
              go_wp2_with fail
              refine (lfind_any _ s _ _ (HS.out.bl HB.out)).mono ?_
              rintro e w2 ⟨rfl, rfl⟩
              rw [HF.out]
              have k1 := HB.out.cell B1.out
              go_wp2_with fail
              refine (rend_eq _ row _ (HX.out.bl HB.out) HW.out).mono ?_
              rintro e w2 ⟨rfl, rfl⟩
              go_wp2_with fail
              go_ret2
              exact ⟨by rw [HA.out]; exact LnRes.bad (by decide) _, HB.out⟩
            · have HA := Lib.hid (show lapplyM s r = if (lspl row r).2 = 0 then lputM s r.track (lspl row r).1 else ([], (lspl row r).2) by rw [HA1.out, if_neg hfr])
              go_enter Try.func31, Try.ntmps31
              go_wp2_with fail
              refine (rvalidR_any _ r _ (HR.out.bl ((Bl.refl _).alloc _))).mono ?_
              rintro e w1 ⟨rfl, hb⟩
              have HB := Lib.hid (((Bl.refl w).alloc _).bl hb)
              have HK := Lib.hid ((Blk.new w #[.int .i64 r.kind, .int .i64 r.track, .int .i64 r.fr, .int .i64 r.tt, .slice A r.l.length c] 33).bl hb)
              have d0 := HK.out.cell 0
              have d1 := HK.out.cell 1
              have d2 := HK.out.cell 2
              have d3 := HK.out.cell 3
              have d4 := HK.out.cell 4
              simp at d0 d1 d2 d3 d4
              clear hb
              rw [HVR.out]
              go_wp2_with fail
              refine (lfind_any _ s _ _ (HS.out.bl HB.out)).mono ?_
              rintro e w2 ⟨rfl, rfl⟩
              rw [HF.out]
              have k1 := HB.out.cell B1.out
              go_wp2_with fail
              refine (rend_eq _ row _ (HX.out.bl HB.out) HW.out).mono ?_
              rintro e w2 ⟨rfl, rfl⟩
              go_wp2_with fail
              refine wp_region_ways (S := (fun w' => w'.cell? ⟨(ad.add (i * 2)).block, (ad.add (i * 2)).off + 1, none⟩ = some (.slice A3 n3 c3) ∧ w'.cell? ⟨w.heap.size, 2, none⟩ = some (.int .i64 r.fr) ∧ w'.cell? ⟨w.heap.size, 3, none⟩ = some (.int .i64 r.tt) ∧ w'.cell? ⟨w.heap.size, 4, none⟩ = some (.slice A r.l.length c))) [0, 1, 2, 3, 4, 5, 6, 7, 8, 9, 10, 11, 12, 14, 15, 16, 17, 18] (y := .take 0 (.take 1 (.take 2 (.take 3 (.take 4 (.take 5 (.take 6 (.take 7 (.take 8 (.take 9 (.take 10 (.take 11 (.take 12 (.ev 13 (.take 14 (.take 15 (.take 16 (.take 17 (.take 18 (.done)))))) (.stop))))))))))))))) (by kernel_rfl) (by kernel_rfl) (by kernel_rfl) ?_ (fun hHeld => ?_)
              · exact ⟨Bl.cell (Bl.refl _).drew k1, Bl.cell (Bl.refl _).drew d2, Bl.cell (Bl.refl _).drew d3, Bl.cell (Bl.refl _).drew d4⟩
              repeat (first | (refine wpWay_take rfl (by rfl) (by intro w hSw; (try dsimp only at hSw); first | (go_simp; done) | (go_simp; with_reducible rfl)) ?_; try simp only [Act.put, List.setIfInBounds_toArray, List.set_cons_zero, List.set_cons_succ]) | (refine wpWay_skip rfl (by rfl) ?_; try simp only [Act.put, List.setIfInBounds_toArray, List.set_cons_zero, List.set_cons_succ]))
              refine wpWay_ev rfl (fun K hK => ?_) wpWay_stop
              have HH := Lib.hid hHeld
              clear hHeld
              have HB2 := Lib.hid HB.out.drew
              replace d1 := Bl.cell (Bl.refl _).drew d1
              go_wp2_with fail
              obtain ⟨q, hq⟩ : ∃ q, q = lspl row r := ⟨_, rfl⟩
              have HQ := Lib.hid hq
              refine (rsplice_eq _ _ row r.l r.fr (min r.tt (endM row)) _ (HX.out.bl HB2.out) (HL.out.bl HB2.out) HVAL.out (by omega) (R := q.1) (c := q.2) (by rw [hq]; rfl)).mono ?_
              clear hq
              rintro e w3 ⟨z, rfl, ho, hb⟩
              have HB3 := Lib.hid (HB2.out.bl hb)
              have HO := Lib.hid ho
              replace d1 := hb.cell d1
              obtain ⟨A4, c4, rfl⟩ := ho.slice
              have hh := And.intro (hb.cell HH.out.1) (And.intro (hb.cell HH.out.2.1) (And.intro (hb.cell HH.out.2.2.1) (hb.cell HH.out.2.2.2)))
              clear ho hb
              go_wp2_with fail
              refine ⟨hh, ?_⟩
              repeat (first | (refine wpWay_take rfl (by rfl) (by intro w hSw; (try dsimp only at hSw); first | (go_simp; done) | (go_simp; with_reducible rfl)) ?_; try simp only [Act.put, List.setIfInBounds_toArray, List.set_cons_zero, List.set_cons_succ]) | (refine wpWay_skip rfl (by rfl) ?_; try simp only [Act.put, List.setIfInBounds_toArray, List.set_cons_zero, List.set_cons_succ]))
              refine wpWay_done ?_
              clear hh
              obtain ⟨q1, q2⟩ := q
              by_cases hz : q2 = 0
              · subst hz
                have HA2 := Lib.hid (show lapplyM s r = lputM s r.track q1 by rw [HA.out, ← HQ.out, if_pos rfl])
                go_wp2_with fail
                refine (lput_G (gor G w) _ s r.track _ q1 _ (LnIs.sub (Sub.mono (gor_l G w)) (HM.out.bl (HB3.out.only G))) (HO.out.isM (fun k hk => fr_gor G w k (fr_ge HB2.out.size hk))) (by omega)).mono ?_
                rintro e w4 ⟨hres, hb⟩
                replace hres := hres.sub (Sub.mono (gor_gor HB3.out.size))
                have HB4 := Lib.hid (HB3.out.bl hb)
                clear hb
                by_cases hz : (lputM s r.track q1).2 = 0
                · obtain ⟨u3, rfl, hst⟩ := hres.1 hz
                  have HST := Lib.hid hst
                  have HZ := Lib.hid hz
                  clear hres hst hz
                  go_wp2_with fail
                  go_ret2
                  exact ⟨by rw [HA2.out]; exact ⟨fun _ => ⟨_, rfl, HST.out⟩, fun h => absurd HZ.out h⟩, HB4.out⟩
                · obtain rfl := hres.2 hz
                  have HZ := Lib.hid hz
                  clear hres hz
                  go_wp2_with fail
                  go_ret2
                  exact ⟨by rw [HA2.out]; exact ⟨fun h => absurd h HZ.out, fun _ => rfl⟩, HB4.out⟩
              · have HA2 := Lib.hid (show lapplyM s r = ([], q2) by rw [HA.out, ← HQ.out, if_neg hz])
                have hz1 : (q2 == 0) = false := by simpa using hz
                have hz2 : (q2 != 0) = true := by simpa using hz
                have HZ := Lib.hid hz
                clear hz
                go_wp2_with fail
                go_ret2
                exact ⟨by rw [HA2.out]; exact LnRes.bad HZ.out _, HB3.out⟩
end Go.Proofs.Ytddcjekkimajpaa.ExtW

/- States in plain words: what put, delete and apply make. -/
namespace Go.Proofs.Ytddcjekkimajpaa.ExtW
open Go.RowKit Go.Ov Go.Proofs.Ytddcjekkimajpaa.Need

theorem getS_none {s : StM} {id : Int} : getS s id = none ↔ ∀ t ∈ s, t.1 ≠ id := by
  induction s with
  | nil => simp [getS]
  | cons t s ih =>
    unfold getS
    by_cases e : t.1 = id
    · rw [if_pos e]; simp [e]
    · rw [if_neg e, ih]; simp [e]
theorem getS_append {a b : StM} {id : Int} (h : getS a id = none) : getS (a ++ b) id = getS b id := by
  induction a with
  | nil => rfl
  | cons t a ih =>
    unfold getS at h
    by_cases e : t.1 = id
    · rw [if_pos e] at h; cases h
    · rw [if_neg e] at h
      rw [List.cons_append]
      conv => lhs; unfold getS
      rw [if_neg e]; exact ih h
theorem getS_append_some {a b : StM} {id : Int} {t : TreeM} (h : getS a id = some t) : getS (a ++ b) id = some t := by
  induction a with
  | nil => cases h
  | cons x a ih =>
    unfold getS at h
    rw [List.cons_append]
    unfold getS
    by_cases e : x.1 = id
    · rw [if_pos e] at h ⊢; exact h
    · rw [if_neg e] at h ⊢; exact ih h
theorem without_none (s : StM) (id : Int) : getS (withoutS s id) id = none := by
  rw [getS_none]
  intro t ht
  have := (List.mem_filter.1 ht).2
  simpa using this
theorem without_other {s : StM} {id j : Int} (h : j ≠ id) : getS (withoutS s id) j = getS s j := by
  induction s with
  | nil => rfl
  | cons t s ih =>
    unfold withoutS at ih ⊢
    by_cases e : t.1 = id
    · rw [List.filter_cons_of_neg (by simpa using e), ih]
      conv => rhs; unfold getS
      rw [if_neg (by rw [e]; exact fun h' => h h'.symm)]
    · rw [List.filter_cons_of_pos (by simpa using e)]
      unfold getS
      rw [ih]
theorem getS_split (a b : StM) (t : TrackM) (j : Int) : getS (a ++ t :: b) j = if t.1 = j ∧ getS a j = none then some t.2 else getS (a ++ b) j := by
  cases h : getS a j with
  | none =>
    rw [getS_append h, getS_append h]
    conv => lhs; unfold getS
    by_cases e : t.1 = j
    · rw [if_pos e, if_pos ⟨e, rfl⟩]
    · rw [if_neg e, if_neg (fun q => e q.1)]
  | some x => rw [getS_append_some h, getS_append_some h, if_neg (fun q => by cases q.2)]
theorem put_get (s : StM) (id j : Int) (t : TreeM) : getS (putL s id t) j = if j = id then some t else getS s j := by
  unfold putL insertS
  rw [getS_split, List.take_append_drop]
  by_cases e : j = id
  · subst e
    have hn : getS ((withoutS s j).take (below j (withoutS s j))) j = none := by
      rw [getS_none]
      intro x hx
      exact getS_none.1 (without_none s j) x (List.mem_of_mem_take hx)
    rw [if_pos ⟨rfl, hn⟩, if_pos rfl]
  · rw [if_neg (fun q => e q.1.symm), if_neg e, without_other e]
theorem put_len (s : StM) (id : Int) (t : TreeM) : (putL s id t).length = (withoutS s id).length + 1 := by
  unfold putL insertS
  have := below_le id (withoutS s id)
  simp; omega
theorem put_mem {s : StM} {id : Int} {t : TreeM} {x : TrackM} (h : x ∈ putL s id t) : x = (id, t) ∨ x ∈ s := by
  unfold putL insertS at h
  rcases List.mem_append.1 h with h | h
  · exact .inr (List.mem_filter.1 (List.mem_of_mem_take h)).1
  · rcases List.mem_cons.1 h with h | h
    · exact .inl h
    · exact .inr (List.mem_filter.1 (List.mem_of_mem_drop h)).1

/-- rising names -/
def Rising (s : StM) : Prop := s.Pairwise fun a b => a.1 < b.1
theorem without_rising {s : StM} (h : Rising s) (id : Int) : Rising (withoutS s id) := List.Pairwise.sublist List.filter_sublist h
theorem without_len_none {s : StM} {id : Int} (h : getS s id = none) : (withoutS s id).length = s.length := by
  unfold withoutS
  rw [List.filter_eq_self.2]
  intro t ht
  have := getS_none.1 h t ht
  simpa using this
theorem without_len_some : ∀ {s : StM} {id : Int} {t : TreeM}, Rising s → getS s id = some t → (withoutS s id).length + 1 = s.length
  | [], _, _, _, h => by cases h
  | x :: s, id, t, hr, h => by
    obtain ⟨h1, h2⟩ := List.pairwise_cons.1 hr
    unfold getS at h
    by_cases e : x.1 = id
    · have hn : getS s id = none := by
        rw [getS_none]
        intro y hy
        have := h1 y hy
        omega
      have := without_len_none hn
      unfold withoutS at this ⊢
      rw [List.filter_cons_of_neg (by simpa using e), this]; rfl
    · rw [if_neg e] at h
      have ih := without_len_some h2 h
      unfold withoutS at ih ⊢
      rw [List.filter_cons_of_pos (by simpa using e), List.length_cons, List.length_cons, ih]
theorem put_rising {s : StM} (h : Rising s) (id : Int) (t : TreeM) : Rising (putL s id t) := by
  have hw := without_rising h id
  have hne : ∀ x ∈ withoutS s id, x.1 ≠ id := fun x hx => getS_none.1 (without_none s id) x hx
  unfold putL insertS
  generalize withoutS s id = S at *
  have hlo : ∀ x ∈ S.take (below id S), x.1 < id := by
    intro x hx
    obtain ⟨k, hk, rfl⟩ := List.getElem_of_mem hx
    rw [List.length_take] at hk
    rw [List.getElem_take]
    exact below_lt id S k (by omega) (by omega)
  have hhi : ∀ x ∈ S.drop (below id S), id < x.1 := by
    intro x hx
    obtain ⟨k, hk, rfl⟩ := List.getElem_of_mem hx
    rw [List.length_drop] at hk
    rw [List.getElem_drop]
    have h0 : below id S < S.length := by omega
    have hg := below_ge id S h0
    have hn := hne S[below id S] (List.getElem_mem h0)
    rcases Nat.eq_zero_or_pos k with rfl | hp
    · simp only [Nat.add_zero]; omega
    · have := List.pairwise_iff_getElem.1 hw (below id S) (below id S + k) h0 (by omega) (by omega)
      omega
  refine List.pairwise_append.2 ⟨hw.sublist (List.take_sublist _ _), List.pairwise_cons.2 ⟨fun x hx => hhi x hx, hw.sublist (List.drop_sublist _ _)⟩, fun a ha b hb => ?_⟩
  rcases List.mem_cons.1 hb with rfl | hb
  · exact hlo a ha
  · exact Int.lt_trans (hlo a ha) (hhi b hb)

/-- states as they come about -/
def SOK (s : StM) : Prop := StOK s ∧ Rising s
theorem SOK.nil : SOK [] := ⟨⟨by decide, fun t h => by cases h⟩, List.Pairwise.nil⟩
theorem SOK.without {s : StM} (h : SOK s) (id : Int) : SOK (withoutS s id) :=
  ⟨⟨Nat.le_trans (List.length_filter_le _ _) h.1.1, fun t ht => h.1.2 t (List.mem_filter.1 ht).1⟩, without_rising h.2 id⟩
theorem SOK.put {s : StM} (h : SOK s) {id : Int} {t : TreeM} (ht : validFrom 0 t.row = true) (hz : (putR s id t).2 = 0) : SOK (putR s id t).1 := by
  unfold putR at *
  split at hz
  · cases hz
  · rename_i hb
    rw [if_neg hb]
    split at hz
    · cases hz
    · rename_i hl
      rw [if_neg hl]
      refine ⟨⟨?_, fun x hx => ?_⟩, put_rising h.2 id t⟩
      · rw [put_len]
        cases hg : getS s id with
        | none =>
          rw [without_len_none hg]
          have := find_none hg
          omega
        | some y => rw [without_len_some h.2 hg]; exact h.1.1
      · rcases put_mem hx with rfl | hx
        · exact ht
        · exact h.1.2 x hx
theorem SOK.apply {s : StM} (h : SOK s) {r : Rec} (hz : (applyR s r).2 = 0) : SOK (applyR s r).1 := by
  unfold applyR at *
  split at hz
  · cases hz
  · rename_i h0
    rw [if_neg h0]
    split at hz
    · rename_i h1
      rw [if_pos h1]
      split at hz
      · cases hz
      · rename_i h2
        rw [if_neg h2]
        exact h.put rfl hz
    · rename_i h1
      rw [if_neg h1]
      cases hg : getS s r.track with
      | none => simp only [hg] at hz; cases hz
      | some t =>
        simp only [hg] at hz ⊢
        have hv : validFrom 0 t.row = true := by
          rcases findS_get s r.track with ⟨_, g2⟩ | ⟨i, hi, _, _, g3⟩
          · rw [hg] at g2; cases g2
          · rw [hg] at g3; injection g3 with g3; rw [g3]; exact h.1.2 s[i] (List.getElem_mem hi)
        unfold applyT at *
        split at hz
        · rename_i h2
          rw [if_pos h2]; exact h.without _
        · rename_i h2
          rw [if_neg h2]
          split at hz
          · cases hz
          · rename_i h3
            rw [if_neg h3]
            by_cases h4 : (spliceOf t r).2 = 0
            · rw [if_pos h4] at hz ⊢
              exact h.put (splice_row_valid hv h4) hz
            · rw [if_neg h4] at hz
              exact absurd hz h4
def recC (id : Int) : Rec := ⟨1, id, 0, 0, []⟩
def recD (id : Int) : Rec := ⟨2, id, 0, 0, []⟩
theorem valid_recC (id : Int) (h0 : 0 ≤ id) (h1 : id ≤ 99) : validRec (recC id) = true := by simp [validRec, recC, noneB, trackB, h0, h1]
theorem valid_recD (id : Int) (h0 : 0 ≤ id) (h1 : id ≤ 99) : validRec (recD id) = true := by simp [validRec, recD, noneB, trackB, h0, h1]
theorem apply_C (s : StM) (id : Int) (h0 : 0 ≤ id) (h1 : id ≤ 99) :
    (getS s id ≠ none → applyR s (recC id) = ([], 6)) ∧ (getS s id = none → 6 ≤ s.length → applyR s (recC id) = ([], 4)) ∧ (getS s id = none → s.length < 6 → applyR s (recC id) = (putL s id (treeM []), 0)) := by
  have e : applyR s (recC id) = if 0 ≤ findS s id then ([], 6) else putR s id (treeM []) := by
    unfold applyR
    rw [if_neg (by rw [valid_recC id h0 h1]; simp [recC]), if_pos (show (recC id).kind = 1 from rfl)]; rfl
  rw [e]
  refine ⟨fun hg => ?_, fun hg hl => ?_, fun hg hl => ?_⟩
  · rcases findS_get s id with ⟨_, g2⟩ | ⟨i, hi, g1, _⟩
    · exact absurd g2 hg
    · rw [if_pos (by omega)]
  · have := find_none hg
    rw [if_neg (by omega)]
    unfold putR
    rw [if_neg (by omega), if_pos ⟨by omega, hl⟩]
  · have := find_none hg
    rw [if_neg (by omega)]
    unfold putR
    rw [if_neg (by omega), if_neg (by omega)]
theorem apply_D (s : StM) (id : Int) (h0 : 0 ≤ id) (h1 : id ≤ 99) :
    (getS s id = none → applyR s (recD id) = ([], 5)) ∧ (getS s id ≠ none → applyR s (recD id) = (withoutS s id, 0)) := by
  have e : applyR s (recD id) = match getS s id with | none => ([], 5) | some t => applyT s (recD id) t := by
    unfold applyR
    rw [if_neg (by rw [valid_recD id h0 h1]; simp [recD]), if_neg (by simp [recD])]; rfl
  rw [e]
  refine ⟨fun hg => by rw [hg], fun hg => ?_⟩
  cases h : getS s id with
  | none => exact absurd h hg
  | some t => simp only; unfold applyT; rw [if_pos (show (recD id).kind = 2 from rfl)]; rfl
end Go.Proofs.Ytddcjekkimajpaa.ExtW
