/- Contract of state.Apply. -/
import Derived.Test.YtddcjekkimajpaaRecValid
namespace Go.Proofs.Ytddcjekkimajpaa.ExtW
open Go.RowKit Go.Ov Go.Proofs.Ytddcjekkimajpaa.Need

def spliceOf (t : TreeM) (r : Rec) : List Ext × Int := spliceM t.row r.fr (min r.tt (endM t.row)) r.l
def applyT (s : StM) (r : Rec) (t : TreeM) : StM × Int :=
  if r.kind = 2 then (withoutS s r.track, 0) else if endM t.row < r.fr then ([], 7)
  else if (spliceOf t r).2 = 0 then putR s r.track (treeM (spliceOf t r).1) else ([], (spliceOf t r).2)
def applyR (s : StM) (r : Rec) : StM × Int :=
  if validRec r = false ∨ 3 < r.kind then ([], 1)
  else if r.kind = 1 then (if 0 ≤ findS s r.track then ([], 6) else putR s r.track (treeM []))
  else match getS s r.track with
    | none => ([], 5)
    | some t => applyT s r t
def StOK (s : StM) : Prop := s.length ≤ 6 ∧ ∀ t ∈ s, validFrom 0 t.2.row = true
theorem find_none {s : StM} {id : Int} (h : getS s id = none) : findS s id = -1 := by
  rcases findS_get s id with ⟨h1, _⟩ | ⟨i, _, _, _, h3⟩
  · exact h1
  · rw [h] at h3; cases h3

set_option maxRecDepth 100000 in
set_option maxHeartbeats 4000000 in
theorem sapply_any (v rv : Value) (s : StM) (r : Rec) (w : World) (h : StateIs w v s) (hr : RecIs w rv r) (hs : StOK s) :
    Calls Try.prog 14 #[v, rv] w fun e w' => StRes w' e (applyR s r) ∧ Bl w w' := by
  have HS := Lib.hid h
  have HR := Lib.hid hr
  obtain ⟨b, u, hs0, rfl, c0, h1, h2⟩ := h
  obtain ⟨u2, rfl, hl⟩ := hr
  have HL := Lib.hid hl
  obtain ⟨A, c, rfl, _⟩ := hl
  obtain ⟨A0, cc0, e0, _, _, _, hat⟩ := h1
  rw [e0] at c0
  have HAT := Lib.hid hat
  have HTR := Lib.hid h2
  have HOK := Lib.hid hs
  have hu := Try.underlying33
  have hu2 := Try.underlying76
  have hu3 := Try.underlying83
  clear e0 hat h2 hs
  cases hv : validRec r with
  | false =>
    have HVR := Lib.hid hv
    have HA := Lib.hid (show applyR s r = ([], 1) from if_pos (.inl hv))
    clear hv
    go_enter Try.func14, Try.ntmps14
    go_wp2_with fail
    refine (rvalidRec_any _ r _ (HR.out.bl ((Bl.refl _).alloc _))).mono ?_
    rintro e w1 ⟨rfl, hb⟩
    have HB := Lib.hid (((Bl.refl w).alloc _).bl hb)
    have HK := Lib.hid ((Blk.new w #[.int .i64 r.kind, .int .i64 r.track, .int .i64 r.fr, .int .i64 r.tt, .slice A r.l.length c] 33).bl hb)
    have d0 := HK.out.cell 0
    have d1 := HK.out.cell 1
    have d2 := HK.out.cell 2
    have d3 := HK.out.cell 3
    have d4 := HK.out.cell 4
    simp at d0 d1 d2 d3 d4
    clear hb
    rw [HVR.out]
    go_wp2_with fail
    go_ret2
    exact ⟨by rw [HA.out]; exact StRes.bad (by decide) _, HB.out⟩
  | true =>
    have HVR := Lib.hid hv
    by_cases hk3 : 3 < r.kind
    · have HA := Lib.hid (show applyR s r = ([], 1) from if_pos (.inr hk3))
      clear hv
      go_enter Try.func14, Try.ntmps14
      go_wp2_with fail
      refine (rvalidRec_any _ r _ (HR.out.bl ((Bl.refl _).alloc _))).mono ?_
      rintro e w1 ⟨rfl, hb⟩
      have HB := Lib.hid (((Bl.refl w).alloc _).bl hb)
      have HK := Lib.hid ((Blk.new w #[.int .i64 r.kind, .int .i64 r.track, .int .i64 r.fr, .int .i64 r.tt, .slice A r.l.length c] 33).bl hb)
      have d0 := HK.out.cell 0
      have d1 := HK.out.cell 1
      have d2 := HK.out.cell 2
      have d3 := HK.out.cell 3
      have d4 := HK.out.cell 4
      simp at d0 d1 d2 d3 d4
      clear hb
      rw [HVR.out]
      go_wp2_with fail
      go_ret2
      exact ⟨by rw [HA.out]; exact StRes.bad (by decide) _, HB.out⟩
    · have hk3' : r.kind ≤ 3 := by omega
      have ha0 : applyR s r = (if r.kind = 1 then (if 0 ≤ findS s r.track then ([], 6) else putR s r.track (treeM [])) else match getS s r.track with | none => ([], 5) | some t => applyT s r t) := by
        unfold applyR; rw [if_neg (by rw [hv]; simp; omega)]
      have hk123 : r.kind = 1 ∨ r.kind = 2 ∨ r.kind = 3 := by
        unfold validRec at hv
        by_cases a : r.kind = 1 ∨ r.kind = 2
        · omega
        · rw [if_neg a] at hv
          by_cases b : r.kind = 4 ∨ r.kind = 5
          · omega
          · rw [if_neg b] at hv
            by_cases c : r.kind = 3
            · omega
            · rw [if_neg c] at hv; cases hv
      have hsl : r.kind = 3 → validFrom 0 r.l = true := by
        intro h3
        unfold validRec at hv
        rw [if_neg (by omega), if_neg (by omega), if_pos h3] at hv
        unfold spliceB at hv
        simp at hv; exact hv.2
      clear hv
      by_cases hk1 : r.kind = 1
      · have hq : (r.kind == 1) = true := by rw [hk1]; rfl
        rw [if_pos hk1] at ha0
        by_cases hf : 0 ≤ findS s r.track
        · rw [if_pos hf] at ha0
          have HA := Lib.hid ha0
          clear ha0 hk1
          go_enter Try.func14, Try.ntmps14
          go_wp2_with fail
          refine (rvalidRec_any _ r _ (HR.out.bl ((Bl.refl _).alloc _))).mono ?_
          rintro e w1 ⟨rfl, hb⟩
          have HB := Lib.hid (((Bl.refl w).alloc _).bl hb)
          have HK := Lib.hid ((Blk.new w #[.int .i64 r.kind, .int .i64 r.track, .int .i64 r.fr, .int .i64 r.tt, .slice A r.l.length c] 33).bl hb)
          have d0 := HK.out.cell 0
          have d1 := HK.out.cell 1
          have d2 := HK.out.cell 2
          have d3 := HK.out.cell 3
          have d4 := HK.out.cell 4
          simp at d0 d1 d2 d3 d4
          clear hb
          rw [HVR.out]
          go_wp2_with fail
          refine (sfind_any _ s _ _ (HS.out.bl HB.out)).mono ?_
          rintro e w2 ⟨rfl, hb⟩
          replace d0 := hb.cell d0
          go_wp2_with fail
          go_ret2
          exact ⟨by rw [HA.out]; exact StRes.bad (by decide) _, HB.out.bl hb⟩
        · rw [if_neg hf] at ha0
          have HA := Lib.hid ha0
          clear ha0 hk1
          go_enter Try.func14, Try.ntmps14
          go_wp2_with fail
          refine (rvalidRec_any _ r _ (HR.out.bl ((Bl.refl _).alloc _))).mono ?_
          rintro e w1 ⟨rfl, hb⟩
          have HB := Lib.hid (((Bl.refl w).alloc _).bl hb)
          have HK := Lib.hid ((Blk.new w #[.int .i64 r.kind, .int .i64 r.track, .int .i64 r.fr, .int .i64 r.tt, .slice A r.l.length c] 33).bl hb)
          have d0 := HK.out.cell 0
          have d1 := HK.out.cell 1
          have d2 := HK.out.cell 2
          have d3 := HK.out.cell 3
          have d4 := HK.out.cell 4
          simp at d0 d1 d2 d3 d4
          clear hb
          rw [HVR.out]
          go_wp2_with fail
          refine (sfind_any _ s _ _ (HS.out.bl HB.out)).mono ?_
          rintro e w2 ⟨rfl, hb⟩
          replace d0 := hb.cell d0
          replace d1 := hb.cell d1
          have HB2 := Lib.hid (HB.out.bl hb)
          clear hb d2 d3 d4
          go_wp2_with fail
          refine wp_region_ways (S := (fun w' => w'.cell? ⟨w.heap.size, 1, none⟩ = some (.int .i64 r.track))) [0, 1, 2, 5, 6, 7, 8] (y := .take 0 (.take 1 (.take 2 (.ev 3 (.ev 4 (.take 5 (.take 6 (.take 7 (.take 8 (.done))))) (.stop)) (.stop))))) (by kernel_rfl) (by kernel_rfl) (by kernel_rfl) ?_ (fun hHeld => ?_)
          · exact Bl.cell (Bl.refl _).drew d1
          have HH := Lib.hid hHeld
          repeat (first | (refine wpWay_take rfl (by rfl) (by intro w hSw; (try dsimp only at hSw); first | (go_simp; done) | (go_simp; with_reducible rfl)) ?_; try simp only [Act.put, List.setIfInBounds_toArray, List.set_cons_zero, List.set_cons_succ]) | (refine wpWay_skip rfl (by rfl) ?_; try simp only [Act.put, List.setIfInBounds_toArray, List.set_cons_zero, List.set_cons_succ]))
          clear hHeld
          refine wpWay_ev rfl (fun K hK => ?_) wpWay_stop
          go_wp2_with fail
          refine (tnew_any _).mono ?_
          rintro e w3 ⟨t3, rfl, ht, hb⟩
          have HT := Lib.hid ht
          have HB3 := Lib.hid ((HB2.out.drew).bl hb)
          replace HH := Lib.hid (hb.cell HH.out)
          clear ht hb
          go_wp2_with fail
          refine ⟨HH.out, ?_⟩
          repeat (first | (refine wpWay_take rfl (by rfl) (by intro w hSw; (try dsimp only at hSw); first | (go_simp; done) | (go_simp; with_reducible rfl)) ?_; try simp only [Act.put, List.setIfInBounds_toArray, List.set_cons_zero, List.set_cons_succ]) | (refine wpWay_skip rfl (by rfl) ?_; try simp only [Act.put, List.setIfInBounds_toArray, List.set_cons_zero, List.set_cons_succ]))
          refine wpWay_ev rfl (fun K hK => ?_) wpWay_stop
          go_wp2_with fail
          refine (sput_any _ s r.track t3 (treeM []) _ (HS.out.bl HB3.out) HT.out HOK.out.1).mono ?_
          rintro e w4 ⟨hres, hb⟩
          replace HH := Lib.hid (hb.cell HH.out)
          have HB4 := Lib.hid (HB3.out.bl hb)
          clear hb
          by_cases hz : (putR s r.track (treeM [])).2 = 0
          · obtain ⟨u3, rfl, hst⟩ := hres.1 hz
            have HST := Lib.hid hst
            have HZ := Lib.hid hz
            clear hres hst hz
            go_wp2_with fail
            refine ⟨HH.out, ?_⟩
            repeat (first | (refine wpWay_take rfl (by rfl) (by intro w hSw; (try dsimp only at hSw); first | (go_simp; done) | (go_simp; with_reducible rfl)) ?_; try simp only [Act.put, List.setIfInBounds_toArray, List.set_cons_zero, List.set_cons_succ]) | (refine wpWay_skip rfl (by rfl) ?_; try simp only [Act.put, List.setIfInBounds_toArray, List.set_cons_zero, List.set_cons_succ]))
            refine wpWay_done ?_
            go_wp2_with fail
            go_ret2
            exact ⟨by rw [HA.out]; exact ⟨fun _ => ⟨_, rfl, HST.out⟩, fun h => absurd HZ.out h⟩, HB4.out⟩
          · obtain rfl := hres.2 hz
            have HZ := Lib.hid hz
            clear hres hz
            go_wp2_with fail
            refine ⟨HH.out, ?_⟩
            repeat (first | (refine wpWay_take rfl (by rfl) (by intro w hSw; (try dsimp only at hSw); first | (go_simp; done) | (go_simp; with_reducible rfl)) ?_; try simp only [Act.put, List.setIfInBounds_toArray, List.set_cons_zero, List.set_cons_succ]) | (refine wpWay_skip rfl (by rfl) ?_; try simp only [Act.put, List.setIfInBounds_toArray, List.set_cons_zero, List.set_cons_succ]))
            refine wpWay_done ?_
            go_wp2_with fail
            go_ret2
            exact ⟨by rw [HA.out]; exact ⟨fun h => absurd h HZ.out, fun _ => rfl⟩, HB4.out⟩
      · have e1 : (r.kind == 1) = false := by rw [beq_eq_false_iff_ne]; exact hk1
        rw [if_neg hk1] at ha0
        have hk23 : r.kind = 2 ∨ r.kind = 3 := by omega
        rcases findS_get s r.track with ⟨g1, g2⟩ | ⟨i, hi, g1, g2, g3⟩
        · rw [g2] at ha0
          have HA := Lib.hid (show applyR s r = ([], 5) from ha0)
          have HF := Lib.hid g1
          clear ha0 g1 g2 hk1 hk123 hk23 hsl
          go_enter Try.func14, Try.ntmps14
          go_wp2_with fail
          refine (rvalidRec_any _ r _ (HR.out.bl ((Bl.refl _).alloc _))).mono ?_
          rintro e w1 ⟨rfl, hb⟩
          have HB := Lib.hid (((Bl.refl w).alloc _).bl hb)
          have HK := Lib.hid ((Blk.new w #[.int .i64 r.kind, .int .i64 r.track, .int .i64 r.fr, .int .i64 r.tt, .slice A r.l.length c] 33).bl hb)
          have d0 := HK.out.cell 0
          have d1 := HK.out.cell 1
          have d2 := HK.out.cell 2
          have d3 := HK.out.cell 3
          have d4 := HK.out.cell 4
          simp at d0 d1 d2 d3 d4
          clear hb
          rw [HVR.out]
          go_wp2_with fail
          refine (sfind_any _ s _ _ (HS.out.bl HB.out)).mono ?_
          rintro e w2 ⟨rfl, hb⟩
          replace d0 := hb.cell d0
          rw [HF.out]
          go_wp2_with fail
          go_ret2
          exact ⟨by rw [HA.out]; exact StRes.bad (by decide) _, HB.out.bl hb⟩
        · rw [g3] at ha0
          have HF := Lib.hid g1
          obtain ⟨hi2, htr⟩ := HTR.out.at i hi
          have HT := Lib.hid htr.2
          have HV := Lib.hid (HOK.out.2 s[i] (List.getElem_mem hi))
          have hln := HTR.out.1
          have hii : (i : Int) < hs0.length := by omega
          clear g1 g2 g3 htr hln
          rcases hk23 with hk2 | hk3
          · have HA := Lib.hid (show applyR s r = (withoutS s r.track, 0) by rw [ha0]; exact if_pos hk2)
            have hq : (r.kind == 2) = true := by rw [hk2]; rfl
            clear ha0 hk1 hk123 hk2 hsl
            go_enter Try.func14, Try.ntmps14
            go_wp2_with fail
            refine (rvalidRec_any _ r _ (HR.out.bl ((Bl.refl _).alloc _))).mono ?_
            rintro e w1 ⟨rfl, hb⟩
            have HB := Lib.hid (((Bl.refl w).alloc _).bl hb)
            have HK := Lib.hid ((Blk.new w #[.int .i64 r.kind, .int .i64 r.track, .int .i64 r.fr, .int .i64 r.tt, .slice A r.l.length c] 33).bl hb)
            have d0 := HK.out.cell 0
            have d1 := HK.out.cell 1
            have d2 := HK.out.cell 2
            have d3 := HK.out.cell 3
            have d4 := HK.out.cell 4
            simp at d0 d1 d2 d3 d4
            clear hb
            rw [HVR.out]
            go_wp2_with fail
            refine (sfind_any _ s _ _ (HS.out.bl HB.out)).mono ?_
            rintro e w2 ⟨rfl, hb⟩
            replace d0 := hb.cell d0
            replace d1 := hb.cell d1
            have HB2 := Lib.hid (HB.out.bl hb)
            rw [HF.out]
            clear hb
            go_wp2_with fail
            refine (swithout_any _ s _ _ (HS.out.bl HB2.out) (Nat.le_trans HOK.out.1 (by decide))).mono ?_
            rintro e w3 ⟨u3, rfl, hst, hb⟩
            have HST := Lib.hid hst
            clear hst
            go_wp2_with fail
            go_ret2
            exact ⟨by rw [HA.out]; exact StRes.ok HST.out, HB2.out.bl hb⟩
          · have ha1 : applyR s r = if endM s[i].2.row < r.fr then ([], 7) else if (spliceOf s[i].2 r).2 = 0 then putR s r.track (treeM (spliceOf s[i].2 r).1) else ([], (spliceOf s[i].2 r).2) := by
              rw [ha0]; exact if_neg (by omega)
            have hrl := hsl hk3
            have hlr := valid_len _ hrl
            have e2 : (r.kind == 2) = false := by rw [beq_eq_false_iff_ne]; omega
            clear ha0 hsl hrl hk1 hk123 hk3
            generalize s[i].2 = t at *
            have hvb := validFrom_bd t.row 0 (by decide) HV.out
            have HA1 := Lib.hid ha1
            clear ha1
            go_enter Try.func14, Try.ntmps14
            go_wp2_with fail
            refine (rvalidRec_any _ r _ (HR.out.bl ((Bl.refl _).alloc _))).mono ?_
            rintro e w1 ⟨rfl, hb⟩
            have HB := Lib.hid (((Bl.refl w).alloc _).bl hb)
            have HK := Lib.hid ((Blk.new w #[.int .i64 r.kind, .int .i64 r.track, .int .i64 r.fr, .int .i64 r.tt, .slice A r.l.length c] 33).bl hb)
            have d0 := HK.out.cell 0
            have d1 := HK.out.cell 1
            have d2 := HK.out.cell 2
            have d3 := HK.out.cell 3
            have d4 := HK.out.cell 4
            simp at d0 d1 d2 d3 d4
            clear hb
            rw [HVR.out]
            go_wp2_with fail
            refine (sfind_any _ s _ _ (HS.out.bl HB.out)).mono ?_
            rintro e w2 ⟨rfl, hb⟩
            replace d0 := hb.cell d0
            replace d1 := hb.cell d1
            replace d2 := hb.cell d2
            replace d3 := hb.cell d3
            replace d4 := hb.cell d4
            have HB2 := Lib.hid (HB.out.bl hb)
            have c1 := hb.cell (HB.out.cell c0)
            rw [HF.out]
            clear hb
            obtain ⟨ad, rfl, k0, k1⟩ := track_at (HAT.out.bl HB2.out) i hi2
            generalize hs0[i] = th at *
            obtain ⟨ti, tb⟩ := th
            dsimp only at k0 k1 HT
            go_wp2_with fail
            by_cases hfr : endM t.row < r.fr
            · have HA := Lib.hid (show applyR s r = ([], 7) by rw [HA1.out]; exact if_pos hfr)
              refine wp_region_ways (S := (fun w' => w'.cell? ⟨w.heap.size, 2, none⟩ = some (.int .i64 r.fr))) [0, 1, 2, 4] (y := .take 0 (.take 1 (.take 2 (.ev 3 (.take 4 (.done)) (.stop))))) (by kernel_rfl) (by kernel_rfl) (by kernel_rfl) ?_ (fun hHeld => ?_)
              · exact Bl.cell (Bl.refl _).drew d2
              repeat (first | (refine wpWay_take rfl (by rfl) (by intro w hSw; (try dsimp only at hSw); first | (go_simp; done) | (go_simp; with_reducible rfl)) ?_; try simp only [Act.put, List.setIfInBounds_toArray, List.set_cons_zero, List.set_cons_succ]) | (refine wpWay_skip rfl (by rfl) ?_; try simp only [Act.put, List.setIfInBounds_toArray, List.set_cons_zero, List.set_cons_succ]))
              refine wpWay_ev rfl (fun K hK => ?_) wpWay_stop
              go_wp2_with fail
              refine (tend_any _ t _ (HT.out.bl (HB2.out.drew)) HV.out).mono ?_
              rintro e w3 ⟨rfl, hb⟩
              go_wp2_with fail
              refine ⟨hb.cell hHeld, ?_⟩
              repeat (first | (refine wpWay_take rfl (by rfl) (by intro w hSw; (try dsimp only at hSw); first | (go_simp; done) | (go_simp; with_reducible rfl)) ?_; try simp only [Act.put, List.setIfInBounds_toArray, List.set_cons_zero, List.set_cons_succ]) | (refine wpWay_skip rfl (by rfl) ?_; try simp only [Act.put, List.setIfInBounds_toArray, List.set_cons_zero, List.set_cons_succ]))
              refine wpWay_done ?_
              go_wp2_with fail
              go_ret2
              exact ⟨by rw [HA.out]; exact StRes.bad (by decide) _, (HB2.out.drew).bl hb⟩
            · have HA := Lib.hid (show applyR s r = if (spliceOf t r).2 = 0 then putR s r.track (treeM (spliceOf t r).1) else ([], (spliceOf t r).2) by rw [HA1.out]; exact if_neg hfr)
              refine wp_region_ways (S := (fun w' => w'.cell? ⟨w.heap.size, 2, none⟩ = some (.int .i64 r.fr))) [0, 1, 2, 4] (y := .take 0 (.take 1 (.take 2 (.ev 3 (.take 4 (.done)) (.stop))))) (by kernel_rfl) (by kernel_rfl) (by kernel_rfl) ?_ (fun hHeld => ?_)
              · exact Bl.cell (Bl.refl _).drew d2
              repeat (first | (refine wpWay_take rfl (by rfl) (by intro w hSw; (try dsimp only at hSw); first | (go_simp; done) | (go_simp; with_reducible rfl)) ?_; try simp only [Act.put, List.setIfInBounds_toArray, List.set_cons_zero, List.set_cons_succ]) | (refine wpWay_skip rfl (by rfl) ?_; try simp only [Act.put, List.setIfInBounds_toArray, List.set_cons_zero, List.set_cons_succ]))
              refine wpWay_ev rfl (fun K hK => ?_) wpWay_stop
              go_wp2_with fail
              refine (tend_any _ t _ (HT.out.bl (HB2.out.drew)) HV.out).mono ?_
              rintro e w3 ⟨rfl, hb⟩
              go_wp2_with fail
              refine ⟨hb.cell hHeld, ?_⟩
              have HB3 := Lib.hid ((HB2.out.drew).bl hb)
              have hb3 := Bl.bl (Bl.refl w2).drew hb
              replace d1 := hb3.cell d1
              replace d2 := hb3.cell d2
              replace d3 := hb3.cell d3
              replace d4 := hb3.cell d4
              clear hb hb3 hHeld d0 c1 k0 k1
              repeat (first | (refine wpWay_take rfl (by rfl) (by intro w hSw; (try dsimp only at hSw); first | (go_simp; done) | (go_simp; with_reducible rfl)) ?_; try simp only [Act.put, List.setIfInBounds_toArray, List.set_cons_zero, List.set_cons_succ]) | (refine wpWay_skip rfl (by rfl) ?_; try simp only [Act.put, List.setIfInBounds_toArray, List.set_cons_zero, List.set_cons_succ]))
              refine wpWay_done ?_
              go_wp2_with fail
              refine wp_region_ways (S := (fun w' => w'.cell? ⟨w.heap.size, 2, none⟩ = some (.int .i64 r.fr) ∧ w'.cell? ⟨w.heap.size, 3, none⟩ = some (.int .i64 r.tt) ∧ w'.cell? ⟨w.heap.size, 4, none⟩ = some (.slice A r.l.length c))) [0, 1, 2, 3, 4, 5, 7, 8, 9, 11, 12, 13, 14, 15] (y := .take 0 (.take 1 (.take 2 (.take 3 (.take 4 (.take 5 (.take 8 (.take 9 (.ev 6 (.take 7 (.ev 10 (.take 11 (.take 12 (.take 13 (.take 14 (.take 15 (.done)))))) (.stop))) (.stop)))))))))) (by kernel_rfl) (by kernel_rfl) (by kernel_rfl) ?_ (fun hHeld => ?_)
              · exact ⟨Bl.cell (Bl.refl _).drew d2, Bl.cell (Bl.refl _).drew d3, Bl.cell (Bl.refl _).drew d4⟩
              have HH := Lib.hid hHeld
              repeat (first | (refine wpWay_take rfl (by rfl) (by intro w hSw; (try dsimp only at hSw); first | (go_simp; done) | (go_simp; with_reducible rfl)) ?_; try simp only [Act.put, List.setIfInBounds_toArray, List.set_cons_zero, List.set_cons_succ]) | (refine wpWay_skip rfl (by rfl) ?_; try simp only [Act.put, List.setIfInBounds_toArray, List.set_cons_zero, List.set_cons_succ]))
              clear hHeld
              refine wpWay_ev rfl (fun K hK => ?_) wpWay_stop
              go_wp2_with fail
              refine (tend_any _ t _ (HT.out.bl (HB3.out.drew)) HV.out).mono ?_
              rintro e w4 ⟨rfl, hb⟩
              replace HH := Lib.hid (And.intro (hb.cell HH.out.1) (And.intro (hb.cell HH.out.2.1) (hb.cell HH.out.2.2)))
              have HB4 := Lib.hid ((HB3.out.drew).bl hb)
              have hb4 := Bl.bl (Bl.refl w3).drew hb
              replace d1 := hb4.cell d1
              clear hb hb4 d2 d3 d4
              go_wp2_with fail
              refine ⟨HH.out, ?_⟩
              repeat (first | (refine wpWay_take rfl (by rfl) (by intro w hSw; (try dsimp only at hSw); first | (go_simp; done) | (go_simp; with_reducible rfl)) ?_; try simp only [Act.put, List.setIfInBounds_toArray, List.set_cons_zero, List.set_cons_succ]) | (refine wpWay_skip rfl (by rfl) ?_; try simp only [Act.put, List.setIfInBounds_toArray, List.set_cons_zero, List.set_cons_succ]))
              refine wpWay_ev rfl (fun K hK => ?_) wpWay_stop
              go_wp2_with fail
              refine (tsplice_any _ _ t r.l r.fr (min r.tt (endM t.row)) _ (HT.out.bl HB4.out) (HL.out.bl HB4.out) HV.out (by omega)).mono ?_
              rintro e w5 ⟨hres, hb⟩
              have HB5 := Lib.hid (HB4.out.bl hb)
              replace HH := Lib.hid (And.intro (hb.cell HH.out.1) (And.intro (hb.cell HH.out.2.1) (hb.cell HH.out.2.2)))
              replace d1 := hb.cell d1
              clear hb
              have hres' : SpliceRes w5 e (spliceOf t r) := hres
              clear hres
              by_cases hz : (spliceOf t r).2 = 0
              · obtain ⟨u3, rfl, hst⟩ := hres'.1 hz
                have HST := Lib.hid hst
                have HA2 := Lib.hid (show applyR s r = putR s r.track (treeM (spliceOf t r).1) by rw [HA.out]; exact if_pos hz)
                clear hres' hst hz
                go_wp2_with fail
                refine ⟨HH.out, ?_⟩
                repeat (first | (refine wpWay_take rfl (by rfl) (by intro w hSw; (try dsimp only at hSw); first | (go_simp; done) | (go_simp; with_reducible rfl)) ?_; try simp only [Act.put, List.setIfInBounds_toArray, List.set_cons_zero, List.set_cons_succ]) | (refine wpWay_skip rfl (by rfl) ?_; try simp only [Act.put, List.setIfInBounds_toArray, List.set_cons_zero, List.set_cons_succ]))
                refine wpWay_done ?_
                go_wp2_with fail
                refine (sput_any _ s r.track u3 (treeM (spliceOf t r).1) _ (HS.out.bl HB5.out) HST.out HOK.out.1).mono ?_
                rintro e w6 ⟨hres, hb⟩
                have HB6 := Lib.hid (HB5.out.bl hb)
                clear hb
                by_cases hz : (putR s r.track (treeM (spliceOf t r).1)).2 = 0
                · obtain ⟨u4, rfl, hst⟩ := hres.1 hz
                  have HST2 := Lib.hid hst
                  have HZ := Lib.hid hz
                  clear hres hst hz
                  go_wp2_with fail
                  go_ret2
                  exact ⟨by rw [HA2.out]; exact ⟨fun _ => ⟨_, rfl, HST2.out⟩, fun h => absurd HZ.out h⟩, HB6.out⟩
                · obtain rfl := hres.2 hz
                  have HZ := Lib.hid hz
                  clear hres hz
                  go_wp2_with fail
                  go_ret2
                  exact ⟨by rw [HA2.out]; exact ⟨fun h => absurd h HZ.out, fun _ => rfl⟩, HB6.out⟩
              · obtain rfl := hres'.2 hz
                have HZ := Lib.hid hz
                have HA2 := Lib.hid (show applyR s r = ([], (spliceOf t r).2) by rw [HA.out]; exact if_neg hz)
                generalize (spliceOf t r).2 = er at *
                have hz1 : (er == 0) = false := by simpa using hz
                have hz2 : (er != 0) = true := by simpa using hz
                clear hres' hz
                go_wp2_with fail
                refine ⟨HH.out, ?_⟩
                repeat (first | (refine wpWay_take rfl (by rfl) (by intro w hSw; (try dsimp only at hSw); first | (go_simp; done) | (go_simp; with_reducible rfl)) ?_; try simp only [Act.put, List.setIfInBounds_toArray, List.set_cons_zero, List.set_cons_succ]) | (refine wpWay_skip rfl (by rfl) ?_; try simp only [Act.put, List.setIfInBounds_toArray, List.set_cons_zero, List.set_cons_succ]))
                refine wpWay_done ?_
                go_wp2_with fail
                go_ret2
                exact ⟨by rw [HA2.out]; exact StRes.bad HZ.out _, HB5.out⟩
end Go.Proofs.Ytddcjekkimajpaa.ExtW
