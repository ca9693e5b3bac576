/- Contract of lpc.Residual. -/
import Derived.Test.YtoocebghlchcoaaLpcW
namespace Go.Proofs.Ytoocebghlchcoaa.ExtW
open Go.RowKit Go.Ov Go.Proofs.Ytoocebghlchcoaa.Need

set_option maxRecDepth 100000 in
set_option maxHeartbeats 1000000 in
theorem pres_any (v uc : Value) (l c : List Int) (w : World) (h : intE.Is w v l) (hc : intE.Is w uc c) (hn : l.length ≤ 1000000) (hcn : c.length ≤ 1000000) :
    Calls Try.prog 38 #[v, uc] w fun e w' => ∃ u cc, e = .returned (.tuple #[u, .int .i64 cc]) ∧ Bl w w' ∧ (cc = 0 → mayC c = true ∧ c.length ≤ l.length ∧ chkM l = 0 ∧ intE.Own 3 w' w.heap.size u (resR (gLpc c) l c.length)) := by
  have HI := Lib.hid h
  have HJ := Lib.hid hc
  obtain ⟨A, cp, rfl, h1, h2, h3, h4⟩ := h
  clear h3 h4
  have HC := Lib.hid h1
  clear h1 h2
  obtain ⟨A3, cp3, rfl, h1, h2, h3, h4⟩ := hc
  clear h1 h2 h3 h4
  go_enter Try.func38, Try.ntmps38
  go_wp2_with fail
  refine (pmay_any _ c _ HJ.out hcn).mono ?_
  rintro e w' ⟨rfl, rfl⟩
  cases hmc : mayC c
  · go_wp2
    go_ret2
    exact ⟨_, 1, rfl, Bl.refl _, fun h => by cases h⟩
  have HM := Lib.hid hmc
  clear hmc
  rcases (show (l.length : Int) < c.length ∨ ¬ (l.length : Int) < c.length by omega) with hol | hol
  · go_wp2
    go_ret2
    exact ⟨_, 1, rfl, Bl.refl _, fun h => by cases h⟩
  go_wp2_with fail
  refine (xcheck_any _ l _ HI.out hn).mono ?_
  rintro e w' ⟨rfl, rfl⟩
  obtain ⟨cc, hcc⟩ : ∃ cc, cc = chkM l := ⟨_, rfl⟩
  rw [← hcc]
  have HCC := Lib.hid hcc
  clear hcc
  rcases (show cc = 0 ∨ cc ≠ 0 by omega) with rfl | hne
  · have HL := Lib.hid (chk_ok HCC.out.symm)
    go_wp2_with fail
    go_loopg [7, 8] (l.length - c.length) (fun gk u i wr => ∃ (k : Nat), c.length ≤ k ∧ k ≤ l.length ∧ gk = l.length - k ∧ i = .int .i64 k ∧ Hid (intE.Own 3 wr w'.heap.size u ((resR (gLpc c) l c.length).take (k - c.length))) ∧ Hid (Bl w' wr))
    case atStart => exact ⟨c.length, by omega, by omega, rfl, rfl, Lib.hid (by rw [Nat.sub_self]; exact Enc.Own.nil _ _ _), Lib.hid (Bl.refl _)⟩
    case round =>
      obtain ⟨k, hok, hk, hgk, rfl, HO, HW⟩ := hrel
      by_cases hlt : k < l.length
      · have hlti : (k : Int) < l.length := by omega
        have HIr := Lib.hid (HI.out.bl HW.out)
        have HJr := Lib.hid (HJ.out.bl HW.out)
        obtain ⟨_, _, e1, _, _, _, hat⟩ := HI.out
        simp only [Value.slice.injEq] at e1
        obtain ⟨rfl, -, -⟩ := e1
        obtain ⟨ad, rfl, c1⟩ := int_at hat k hlt
        clear hat
        have c0 := HW.out.cell c1
        have HC1 := Lib.hid c1
        clear c1
        obtain ⟨V2, hV2, hI2⟩ := slice_h (E := intE) (P := Try.prog) (t := 22) (by kernel_rfl) (fun w => by kernel_rfl) (some ad) cp l (k : Int) (by omega) (by omega) HC.out
        have HV := Lib.hid (hI2 _ HIr.out)
        clear hI2
        obtain ⟨x, hx⟩ : ∃ x, x = l[k] := ⟨_, rfl⟩
        rw [← hx] at c0 HC1
        have HX := Lib.hid hx
        clear hx
        go_wp2_with fail
        refine wp_region_ways (S := (fun w' => w'.cell? (ad.add k) = some (.int .i64 x))) [0, 1, 2, 3, 4, 5, 6, 7, 8] (y := .take 0 (.take 1 (.take 2 (.take 3 (.take 4 (.take 5 (.take 6 (.take 7 (.take 8 (.ev 9 (.ev 10 (.ev 11 (.ev 12 (.ev 13 (.done) (.stop)) (.stop)) (.stop)) (.stop)) (.stop))))))))))) (by kernel_rfl) (by kernel_rfl) (by kernel_rfl) ?_ (fun hHeld => ?_)
        · exact (Bl.refl _).drew.cell c0
        have HHe := Lib.hid hHeld
        clear hHeld
        repeat (first | (refine wpWay_take rfl (by rfl) (by intro w hSw; (try dsimp only at hSw); first | (go_simp; done) | (go_simp; with_reducible rfl)) ?_; try simp only [Act.put, List.setIfInBounds_toArray, List.set_cons_zero, List.set_cons_succ]) | (refine wpWay_skip rfl (by rfl) ?_; try simp only [Act.put, List.setIfInBounds_toArray, List.set_cons_zero, List.set_cons_succ]))
        refine wpWay_ev rfl (fun K hK => ?_) wpWay_stop
        go_wp2_with fail
        have HVd := Lib.hid (HV.out.bl (Bl.refl _).drew)
        have HJd := Lib.hid (HJr.out.bl (Bl.refl _).drew)
        refine (pguess_any _ _ _ c _ HVd.out HJd.out (by simp; omega) (by simp; omega) HM.out).mono ?_
        rintro e w1 ⟨rfl, hb1⟩
        obtain ⟨gg, hgg⟩ : ∃ gg, gg = gLpc c (List.take (k : Int).toNat l) := ⟨_, rfl⟩
        rw [← hgg]
        have HGG := Lib.hid hgg
        have HW1 := Lib.hid (HW.out.drew.trans hb1)
        have HO1 := Lib.hid (HO.out.bl ((Bl.refl _).drew.trans hb1))
        clear hgg hb1
        go_wp2_with fail
        refine ⟨HW1.out.cell HC1.out, ?_⟩
        repeat (first | (refine wpWay_take rfl (by rfl) (by intro w hSw; (try dsimp only at hSw); first | (go_simp; done) | (go_simp; with_reducible rfl)) ?_; try simp only [Act.put, List.setIfInBounds_toArray, List.set_cons_zero, List.set_cons_succ]) | (refine wpWay_skip rfl (by rfl) ?_; try simp only [Act.put, List.setIfInBounds_toArray, List.set_cons_zero, List.set_cons_succ]))
        refine wpWay_ev rfl (fun K hK => ?_) wpWay_stop
        go_wp2_with fail
        refine ⟨HW1.out.cell HC1.out, ?_⟩
        repeat (first | (refine wpWay_take rfl (by rfl) (by intro w hSw; (try dsimp only at hSw); first | (go_simp; done) | (go_simp; with_reducible rfl)) ?_; try simp only [Act.put, List.setIfInBounds_toArray, List.set_cons_zero, List.set_cons_succ]) | (refine wpWay_skip rfl (by rfl) ?_; try simp only [Act.put, List.setIfInBounds_toArray, List.set_cons_zero, List.set_cons_succ]))
        refine wpWay_ev rfl (fun K hK => ?_) wpWay_stop
        go_wp2_with fail
        refine ⟨(((Bl.refl w1).alloc _).cell (HW1.out.cell HC1.out)), ?_⟩
        have hlen8 : (List.take (k - c.length) (resR (gLpc c) l c.length)).length ≤ 1000000 := by rw [List.length_take]; omega
        repeat (first | (refine wpWay_take rfl (by rfl) (by intro w hSw; (try dsimp only at hSw); first | (go_simp; done) | (go_simp; with_reducible rfl)) ?_; try simp only [Act.put, List.setIfInBounds_toArray, List.set_cons_zero, List.set_cons_succ]) | (refine wpWay_skip rfl (by rfl) ?_; try simp only [Act.put, List.setIfInBounds_toArray, List.set_cons_zero, List.set_cons_succ]))
        refine wpWay_ev rfl (fun K hK => ?_) wpWay_stop
        go_wp2_with (at_builtin; refine Enc.Own.append1L (E := intE) rfl (.tmp 32) (.tmp 43) 22 rfl w'.heap.size 3 (.int .i64 0) 1 8 Try.underlying22 infoIntX rfl rfl (by decide) (by decide) _ _ rfl HO1.out (wrap64 (x - gg)) _ rfl rfl rfl (by omega) (HW1.out.size) ?_; intro u1 w2 ho hg hli)
        have HW2 := Lib.hid (((HW1.out).alloc _).grown hg (fun g hgk => (HO.out.lt g hgk).1))
        refine ⟨HW2.out.cell HC1.out, ?_⟩
        have HO2 := Lib.hid (show intE.Own 3 w2 w'.heap.size u1 ((resR (gLpc c) l c.length).take (k + 1 - c.length)) by rw [resR_step _ _ _ _ hok hlt, ← HX.out, ← Int.toNat_natCast k, ← HGG.out]; exact ho)
        clear ho hg hli
        repeat (first | (refine wpWay_take rfl (by rfl) (by intro w hSw; (try dsimp only at hSw); first | (go_simp; done) | (go_simp; with_reducible rfl)) ?_; try simp only [Act.put, List.setIfInBounds_toArray, List.set_cons_zero, List.set_cons_succ]) | (refine wpWay_skip rfl (by rfl) ?_; try simp only [Act.put, List.setIfInBounds_toArray, List.set_cons_zero, List.set_cons_succ]))
        refine wpWay_ev rfl (fun K hK => ?_) wpWay_stop
        go_wp2_with fail
        refine ⟨HW2.out.cell HC1.out, ?_⟩
        repeat (first | (refine wpWay_take rfl (by rfl) (by intro w hSw; (try dsimp only at hSw); first | (go_simp; done) | (go_simp; with_reducible rfl)) ?_; try simp only [Act.put, List.setIfInBounds_toArray, List.set_cons_zero, List.set_cons_succ]) | (refine wpWay_skip rfl (by rfl) ?_; try simp only [Act.put, List.setIfInBounds_toArray, List.set_cons_zero, List.set_cons_succ]))
        refine wpWay_done ?_
        go_wp2_with fail
        go_roundg (l.length - (k + 1))
        case measure => omega
        case rel => exact ⟨k + 1, by omega, by omega, rfl, by go_num, HO2, HW2⟩
      · obtain rfl : k = l.length := by omega
        go_wp2
        go_ret2
        refine ⟨_, 0, rfl, HW.out, fun _ => ⟨HM.out, by omega, HCC.out.symm, ?_⟩⟩
        have := HO.out
        rw [List.take_of_length_le (by rw [resR_len]; exact Nat.le_refl _)] at this
        exact this
  · go_wp2
    go_ret2
    exact ⟨_, cc, rfl, Bl.refl _, fun h => absurd h hne⟩
end Go.Proofs.Ytoocebghlchcoaa.ExtW
