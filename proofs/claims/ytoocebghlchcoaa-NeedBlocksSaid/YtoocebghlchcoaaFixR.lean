/- Contract of fixed.Residual. -/
import Derived.Test.YtoocebghlchcoaaFixW
namespace Go.Proofs.Ytoocebghlchcoaa.ExtW
open Go.RowKit Go.Ov Go.Proofs.Ytoocebghlchcoaa.Need

theorem infoIntX : (Try.prog.info? 3).map (fun i => (i.zero, i.size, i.bytes)) = some (some (.int .i64 0), 1, 8) := by kernel_rfl
theorem resR_step (g : List Int → Int) (x : List Int) (o k : Nat) (ho : o ≤ k) (hk : k < x.length) : (resR g x o).take (k + 1 - o) = (resR g x o).take (k - o) ++ [wrap64 (x[k] - g (x.take k))] := by
  have hl : k - o < (resR g x o).length := by rw [resR_len]; omega
  rw [show k + 1 - o = (k - o) + 1 by omega, List.take_succ_eq_append_getElem hl]
  have : (resR g x o)[k - o] = wrap64 (x[k] - g (x.take k)) := by
    simp only [resR, List.getElem_map, List.getElem_range, show o + (k - o) = k by omega, List.getD_eq_getElem?_getD, List.getElem?_eq_getElem hk, Option.getD_some]
  rw [this]
theorem chk_ok {l : List Int} (h : chkM l = 0) : l.all okS = true ∧ l.length ≤ 64 := by
  unfold chkM at h
  split at h
  · rename_i h1
    split at h
    · omega
    · exact ⟨h1, by omega⟩
  · omega

set_option maxRecDepth 100000 in
set_option maxHeartbeats 1000000 in
theorem xres_any (v : Value) (l : List Int) (o : Nat) (ho : o ≤ 4) (w : World) (h : intE.Is w v l) (hn : l.length ≤ 1000000) :
    Calls Try.prog 26 #[v, .int .i64 o] w fun e w' => ∃ u c, e = .returned (.tuple #[u, .int .i64 c]) ∧ Bl w w' ∧ (c = 0 → o ≤ l.length ∧ chkM l = 0 ∧ intE.Own 3 w' w.heap.size u (resR (gSum (fixC o)) l o)) := by
  have HI := Lib.hid h
  obtain ⟨A, cp, rfl, h1, h2, h3, h4⟩ := h
  clear h3 h4
  have HC := Lib.hid h1
  clear h1 h2
  go_enter Try.func26, Try.ntmps26
  have ho1 : ¬ (o : Int) < 0 := by omega
  have ho2 : ¬ (4 : Int) < o := by omega
  rcases (show (l.length : Int) < o ∨ ¬ (l.length : Int) < o by omega) with hol | hol
  · go_wp2
    go_ret2
    exact ⟨_, 1, rfl, Bl.refl _, fun h => by cases h⟩
  go_wp2_with fail
  refine (xcheck_any _ l _ HI.out hn).mono ?_
  rintro e w' ⟨rfl, rfl⟩
  obtain ⟨cc, hcc⟩ : ∃ cc, cc = chkM l := ⟨_, rfl⟩
  rw [← hcc]
  have HCC := Lib.hid hcc
  clear hcc
  rcases (show cc = 0 ∨ cc ≠ 0 by omega) with rfl | hne
  · go_wp2_with fail
    refine (xcoefs_any o ho _).mono ?_
    rintro e w1 ⟨u7, rfl, h7, hb⟩
    have H7 := Lib.hid h7
    have HB := Lib.hid hb
    have HI1 := Lib.hid (HI.out.bl hb)
    have HL := Lib.hid (chk_ok HCC.out.symm)
    clear h7 hb
    go_wp2_with fail
    go_loopg [8, 9] (l.length - o) (fun gk u i wr => ∃ (k : Nat), o ≤ k ∧ k ≤ l.length ∧ gk = l.length - k ∧ i = .int .i64 k ∧ Hid (intE.Own 3 wr w1.heap.size u ((resR (gSum (fixC o)) l o).take (k - o))) ∧ Hid (Bl w1 wr))
    case atStart => exact ⟨o, by omega, by omega, rfl, rfl, Lib.hid (by rw [Nat.sub_self]; exact Enc.Own.nil _ _ _), Lib.hid (Bl.refl _)⟩
    case round =>
      obtain ⟨k, hok, hk, hgk, rfl, HO, HW⟩ := hrel
      by_cases hlt : k < l.length
      · have hlti : (k : Int) < l.length := by omega
        have HIr := Lib.hid (HI1.out.bl HW.out)
        have H7r := Lib.hid (H7.out.is.bl HW.out)
        obtain ⟨_, _, e1, _, _, _, hat⟩ := HI1.out
        simp only [Value.slice.injEq] at e1
        obtain ⟨rfl, -, -⟩ := e1
        obtain ⟨ad, rfl, c1⟩ := int_at hat k hlt
        clear hat
        have c0 := HW.out.cell c1
        have HC1 := Lib.hid c1
        clear c1
        obtain ⟨V2, hV2, hI2⟩ := slice_h (E := intE) (P := Try.prog) (t := 22) (by kernel_rfl) (fun w => by kernel_rfl) (some ad) cp l (k : Int) (by omega) (by omega) HC.out
        have HV := Lib.hid (hI2 _ HIr.out)
        clear hI2
        obtain ⟨x, hx⟩ : ∃ x, x = l[k] := ⟨_, rfl⟩
        rw [← hx] at c0 HC1
        have HX := Lib.hid hx
        clear hx
        go_wp2_with fail
        refine wp_region_ways (S := (fun w' => w'.cell? (ad.add k) = some (.int .i64 x))) [0, 1, 2, 3, 4, 5, 6, 7, 8] (y := .take 0 (.take 1 (.take 2 (.take 3 (.take 4 (.take 5 (.take 6 (.take 7 (.take 8 (.ev 9 (.ev 10 (.ev 11 (.ev 12 (.ev 13 (.done) (.stop)) (.stop)) (.stop)) (.stop)) (.stop))))))))))) (by kernel_rfl) (by kernel_rfl) (by kernel_rfl) ?_ (fun hHeld => ?_)
        · exact (Bl.refl _).drew.cell c0
        have HHe := Lib.hid hHeld
        clear hHeld
        repeat (first | (refine wpWay_take rfl (by rfl) (by intro w hSw; (try dsimp only at hSw); first | (go_simp; done) | (go_simp; with_reducible rfl)) ?_; try simp only [Act.put, List.setIfInBounds_toArray, List.set_cons_zero, List.set_cons_succ]) | (refine wpWay_skip rfl (by rfl) ?_; try simp only [Act.put, List.setIfInBounds_toArray, List.set_cons_zero, List.set_cons_succ]))
        refine wpWay_ev rfl (fun K hK => ?_) wpWay_stop
        go_wp2_with fail
        have HVd := Lib.hid (HV.out.bl (Bl.refl _).drew)
        have H7d := Lib.hid (H7r.out.bl (Bl.refl _).drew)
        have hfl : (fixC o).length = o := by
          rcases (show o = 0 ∨ o = 1 ∨ o = 2 ∨ o = 3 ∨ o = 4 by omega) with rfl | rfl | rfl | rfl | rfl <;> rfl
        refine (xguess_any _ _ _ (fixC o) _ HVd.out H7d.out (by simp; omega) (by rw [hfl]; simp; omega)).mono ?_
        rintro e w' ⟨rfl, rfl⟩
        obtain ⟨gg, hgg⟩ : ∃ gg, gg = gSum (fixC o) (List.take (k : Int).toNat l) := ⟨_, rfl⟩
        rw [← hgg]
        have HGG := Lib.hid hgg
        clear hgg
        go_wp2_with fail
        refine ⟨HHe.out, ?_⟩
        repeat (first | (refine wpWay_take rfl (by rfl) (by intro w hSw; (try dsimp only at hSw); first | (go_simp; done) | (go_simp; with_reducible rfl)) ?_; try simp only [Act.put, List.setIfInBounds_toArray, List.set_cons_zero, List.set_cons_succ]) | (refine wpWay_skip rfl (by rfl) ?_; try simp only [Act.put, List.setIfInBounds_toArray, List.set_cons_zero, List.set_cons_succ]))
        refine wpWay_ev rfl (fun K hK => ?_) wpWay_stop
        go_wp2_with fail
        refine ⟨HHe.out, ?_⟩
        repeat (first | (refine wpWay_take rfl (by rfl) (by intro w hSw; (try dsimp only at hSw); first | (go_simp; done) | (go_simp; with_reducible rfl)) ?_; try simp only [Act.put, List.setIfInBounds_toArray, List.set_cons_zero, List.set_cons_succ]) | (refine wpWay_skip rfl (by rfl) ?_; try simp only [Act.put, List.setIfInBounds_toArray, List.set_cons_zero, List.set_cons_succ]))
        refine wpWay_ev rfl (fun K hK => ?_) wpWay_stop
        go_wp2_with fail
        refine ⟨(((Bl.refl wr.drew).alloc _).cell HHe.out), ?_⟩
        have HOd := Lib.hid (HO.out.bl (Bl.refl _).drew)
        have hlen8 : (List.take (k - o) (resR (gSum (fixC o)) l o)).length ≤ 1000000 := by rw [List.length_take]; omega
        repeat (first | (refine wpWay_take rfl (by rfl) (by intro w hSw; (try dsimp only at hSw); first | (go_simp; done) | (go_simp; with_reducible rfl)) ?_; try simp only [Act.put, List.setIfInBounds_toArray, List.set_cons_zero, List.set_cons_succ]) | (refine wpWay_skip rfl (by rfl) ?_; try simp only [Act.put, List.setIfInBounds_toArray, List.set_cons_zero, List.set_cons_succ]))
        refine wpWay_ev rfl (fun K hK => ?_) wpWay_stop
        go_wp2_with (at_builtin; refine Enc.Own.append1L (E := intE) rfl (.tmp 36) (.tmp 47) 22 rfl w1.heap.size 3 (.int .i64 0) 1 8 Try.underlying22 infoIntX rfl rfl (by decide) (by decide) _ _ rfl HOd.out (wrap64 (x - gg)) _ rfl rfl rfl (by omega) (HW.out.drew.size) ?_; intro u1 w2 ho hg hli)
        have HW2 := Lib.hid (((HW.out.drew).alloc _).grown hg (fun g hgk => (HO.out.lt g hgk).1))
        refine ⟨HW2.out.cell HC1.out, ?_⟩
        have HO2 := Lib.hid (show intE.Own 3 w2 w1.heap.size u1 ((resR (gSum (fixC o)) l o).take (k + 1 - o)) by rw [resR_step _ _ _ _ hok hlt, ← HX.out, ← Int.toNat_natCast k, ← HGG.out]; exact ho)
        clear ho hg hli
        repeat (first | (refine wpWay_take rfl (by rfl) (by intro w hSw; (try dsimp only at hSw); first | (go_simp; done) | (go_simp; with_reducible rfl)) ?_; try simp only [Act.put, List.setIfInBounds_toArray, List.set_cons_zero, List.set_cons_succ]) | (refine wpWay_skip rfl (by rfl) ?_; try simp only [Act.put, List.setIfInBounds_toArray, List.set_cons_zero, List.set_cons_succ]))
        refine wpWay_ev rfl (fun K hK => ?_) wpWay_stop
        go_wp2_with fail
        refine ⟨HW2.out.cell HC1.out, ?_⟩
        repeat (first | (refine wpWay_take rfl (by rfl) (by intro w hSw; (try dsimp only at hSw); first | (go_simp; done) | (go_simp; with_reducible rfl)) ?_; try simp only [Act.put, List.setIfInBounds_toArray, List.set_cons_zero, List.set_cons_succ]) | (refine wpWay_skip rfl (by rfl) ?_; try simp only [Act.put, List.setIfInBounds_toArray, List.set_cons_zero, List.set_cons_succ]))
        refine wpWay_done ?_
        go_wp2_with fail
        go_roundg (l.length - (k + 1))
        case measure => omega
        case rel => exact ⟨k + 1, by omega, by omega, rfl, by go_num, HO2, HW2⟩
      · obtain rfl : k = l.length := by omega
        go_wp2
        go_ret2
        refine ⟨_, 0, rfl, HB.out.trans HW.out, fun _ => ⟨by omega, HCC.out.symm, ?_⟩⟩
        have := HO.out
        rw [List.take_of_length_le (by rw [resR_len]; exact Nat.le_refl _)] at this
        exact this.low HB.out.size
  · go_wp2
    go_ret2
    exact ⟨_, cc, rfl, Bl.refl _, fun h => absurd h hne⟩
end Go.Proofs.Ytoocebghlchcoaa.ExtW
