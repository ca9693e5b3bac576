/- Several texts joined (see each one's head). -/
import Derived.Test.YtoocebghlchcoaaGreatPkAL
/- Contract of fixed.Residual. -/
namespace Go.Proofs.YtoocebghlchcoaaGreat.ExtW
open Go.RowKit Go.Ov Go.Proofs.YtoocebghlchcoaaGreat.Need

theorem infoIntX : (Tryz.prog.info? 3).map (fun i => (i.zero, i.size, i.bytes)) = some (some (.int .i64 0), 1, 8) := by kernel_rfl
theorem resR_step (g : List Int → Int) (x : List Int) (o k : Nat) (ho : o ≤ k) (hk : k < x.length) : (resR g x o).take (k + 1 - o) = (resR g x o).take (k - o) ++ [wrap64 (x[k] - g (x.take k))] := by
  have hl : k - o < (resR g x o).length := by rw [resR_len]; omega
  rw [show k + 1 - o = (k - o) + 1 by omega, List.take_succ_eq_append_getElem hl]
  have : (resR g x o)[k - o] = wrap64 (x[k] - g (x.take k)) := by
    simp only [resR, List.getElem_map, List.getElem_range, show o + (k - o) = k by omega, List.getD_eq_getElem?_getD, List.getElem?_eq_getElem hk, Option.getD_some]
  rw [this]
theorem chk_ok {l : List Int} (h : chkM l = 0) : l.all okS = true ∧ l.length ≤ 64 := by
  unfold chkM at h
  split at h
  · rename_i h1
    split at h
    · omega
    · exact ⟨h1, by omega⟩
  · omega

end Go.Proofs.YtoocebghlchcoaaGreat.ExtW

/- Contracts of lpc: cut, coef, Guess, May. -/
namespace Go.Proofs.YtoocebghlchcoaaGreat.ExtW
open Go.RowKit Go.Ov Go.Proofs.YtoocebghlchcoaaGreat.Need

theorem pcut_any (n : Int) (w : World) : Calls Tryz.prog 174 #[.int .i64 n] w fun e w' => e = .returned (.int .i64 (cutG n)) ∧ w' = w := by
  obtain ⟨r, hr⟩ : ∃ r, r = cutG n := ⟨_, rfl⟩
  rw [← hr]
  have HR := Lib.hid hr
  clear hr
  go_enter Tryz.func174, Tryz.ntmps174
  have h : n < -16777216 ∨ (-16777216 ≤ n ∧ 16777216 < n) ∨ (-16777216 ≤ n ∧ n ≤ 16777216) := by omega
  rcases h with h1 | ⟨h1, h2⟩ | ⟨h1, h2⟩
  · go_wp2
    go_ret
    exact ⟨by rw [HR.out, cutG, if_pos (by omega)]; rfl, rfl⟩
  · go_wp2
    go_ret
    exact ⟨by rw [HR.out, cutG, if_pos (by omega)]; rfl, rfl⟩
  · go_wp2
    go_ret
    exact ⟨by rw [HR.out, cutG, if_neg (by omega)]; rfl, rfl⟩

theorem pcoef_any (n : Int) (w : World) : Calls Tryz.prog 173 #[.int .i64 n] w fun e w' => e = .returned (.bool (okC n)) ∧ w' = w := by
  obtain ⟨r, hr⟩ : ∃ r, r = okC n := ⟨_, rfl⟩
  rw [← hr]
  have HR := Lib.hid hr
  clear hr
  go_enter Tryz.func173, Tryz.ntmps173
  have h : n < -32768 ∨ (-32768 ≤ n ∧ 32767 < n) ∨ (-32768 ≤ n ∧ n ≤ 32767) := by omega
  rcases h with h1 | ⟨h1, h2⟩ | ⟨h1, h2⟩
  all_goals
    first
    | have hb : okC n = false := by unfold okC; rw [Bool.eq_false_iff]; simp only [ne_eq, Bool.and_eq_true, decide_eq_true_eq]; omega
    | have hb : okC n = true := by unfold okC; simp only [Bool.and_eq_true, decide_eq_true_eq]; omega
    have HB := Lib.hid (HR.out.trans hb)
    clear hb HR
    go_wp2
    go_ret
    exact ⟨by rw [HB.out]; first | rfl | (simp; omega), rfl⟩

def mayC (c : List Int) : Bool := c.all okC && (decide (1 ≤ c.length) && decide (c.length ≤ 12))
theorem pmay_any (v : Value) (l : List Int) (w : World) (h : intE.Is w v l) (hn : l.length ≤ 1000000) :
    Calls Tryz.prog 144 #[v] w fun e w' => e = .returned (.bool (mayC l)) ∧ w' = w := by
  obtain ⟨A, c, rfl, h1, h2, h3, h4⟩ := h
  have HA := Lib.hid h4
  clear h1 h2 h3 h4
  obtain ⟨r, hr⟩ : ∃ r, r = mayC l := ⟨_, rfl⟩
  rw [← hr]
  have HR := Lib.hid hr
  clear hr
  go_enter Tryz.func144, Tryz.ntmps144
  go_wp2_with fail
  go_loopg [7] l.length (fun gk i wr => ∃ k : Nat, k ≤ l.length ∧ gk = l.length - k ∧ i = .int .i64 k ∧ Hid ((l.take k).all okC = true) ∧ wr = w)
  case atStart => exact ⟨0, by omega, rfl, rfl, Lib.hid (by simp), rfl⟩
  case round =>
    obtain ⟨k, hk, hgk, rfl, HK, hw⟩ := hrel
    obtain rfl : w = wr := hw.symm
    by_cases hlt : k < l.length
    · have hlti : (k : Int) < l.length := by omega
      obtain ⟨ad, rfl, c0⟩ := int_at HA.out k hlt
      obtain ⟨x, hx⟩ : ∃ x, x = l[k] := ⟨_, rfl⟩
      rw [← hx] at c0
      have HX := Lib.hid hx
      clear hx
      go_wp2_with fail
      refine (pcoef_any _ _).mono ?_
      rintro e w' ⟨rfl, rfl⟩
      cases hz : okC x
      · go_wp2
        go_ret
        have e : mayC l = false := by
          unfold mayC
          rw [Bool.eq_false_iff]
          intro h
          rw [Bool.and_eq_true, List.all_eq_true] at h
          have := h.1 _ (List.getElem_mem hlt)
          rw [← HX.out, hz] at this
          cases this
        exact ⟨by rw [HR.out, e]; rfl, rfl⟩
      · go_wp2
        go_roundg (l.length - (k + 1))
        case measure => omega
        case rel => exact ⟨k + 1, by omega, rfl, by go_num, Lib.hid (by rw [List.take_succ_eq_append_getElem hlt, List.all_append, HK.out, ← HX.out]; simp [hz]), rfl⟩
    · obtain rfl : k = l.length := by omega
      have e : mayC l = (decide (1 ≤ l.length) && decide (l.length ≤ 12)) := by
        unfold mayC
        rw [show l.all okC = true by have := HK.out; rwa [List.take_of_length_le (Nat.le_refl _)] at this, Bool.true_and]
      have HE := Lib.hid (HR.out.trans e)
      clear e HR
      rcases (show l.length < 1 ∨ (1 ≤ l.length ∧ l.length ≤ 12) ∨ (1 ≤ l.length ∧ 12 < l.length) by omega) with h | ⟨h, h'⟩ | ⟨h, h'⟩
      · have hi : ¬ (1 : Int) ≤ l.length := by omega
        go_wp2
        go_ret
        exact ⟨by rw [HE.out]; simp; omega, rfl⟩
      · have hi : (1 : Int) ≤ l.length := by omega
        have hi2 : (l.length : Int) ≤ 12 := by omega
        go_wp2
        go_ret
        exact ⟨by rw [HE.out]; simp; omega, rfl⟩
      · have hi : (1 : Int) ≤ l.length := by omega
        have hi2 : ¬ (l.length : Int) ≤ 12 := by omega
        go_wp2
        go_ret
        exact ⟨by rw [HE.out]; simp; omega, rfl⟩

def gF (c past : List Int) : Int := (c.zip past.reverse).foldl (fun s p => if okC p.1 then wrap64 (s + wrap64 (p.1 * cutG p.2)) else s) 0
theorem gLpc_eq (c past : List Int) (h : c.length ≤ 12) : gLpc c past = gF c past / 4096 := by
  unfold gLpc gF
  rw [List.take_of_length_le (by simp; omega)]
theorem gF_step (c past : List Int) (k : Nat) (hk : k < c.length) (hl : c.length ≤ past.length) (hc : okC c[k] = true) : gF (c.take (k + 1)) past = wrap64 (gF (c.take k) past + wrap64 (c[k] * cutG (past[past.length - 1 - k]'(by omega)))) := by
  unfold gF
  have h1 : (c.take (k + 1)).zip past.reverse = (c.take k).zip past.reverse ++ [(c[k], past[past.length - 1 - k]'(by omega))] := by
    apply List.ext_getElem
    · simp; omega
    · intro i h1 h2
      rw [List.getElem_append]
      by_cases hi : i < k
      · rw [dif_pos (by simp; omega)]
        simp
      · have : i = k := by simp at h1; omega
        subst this
        rw [dif_neg (by simp; omega)]
        simp
  rw [h1, List.foldl_append]
  simp only [List.foldl_cons, List.foldl_nil, hc, if_true]

set_option maxRecDepth 100000 in
set_option maxHeartbeats 1000000 in
theorem pguess_any (v u : Value) (past c : List Int) (w : World) (h : intE.Is w v past) (hc : intE.Is w u c) (hn : past.length ≤ 1000000) (hl : c.length ≤ past.length) (hm : mayC c = true) :
    Calls Tryz.prog 146 #[v, u] w fun e w' => e = .returned (.int .i64 (gLpc c past)) ∧ Bl w w' := by
  obtain ⟨A, cp, rfl, h1, h2, h3, h4⟩ := h
  have HA := Lib.hid h4
  clear h1 h2 h3 h4
  obtain ⟨A2, cp2, rfl, h1, h2, h3, h4⟩ := hc
  have HA2 := Lib.hid h4
  clear h1 h2 h3 h4
  unfold mayC at hm
  simp only [Bool.and_eq_true, decide_eq_true_eq, List.all_eq_true] at hm
  obtain ⟨hm1, hm2, hm3⟩ := hm
  have HM := Lib.hid hm1
  clear hm1
  obtain ⟨r, hr⟩ : ∃ r, r = gLpc c past := ⟨_, rfl⟩
  rw [← hr]
  have HR := Lib.hid hr
  clear hr
  go_enter Tryz.func146, Tryz.ntmps146
  have hmin : min (min (past.length : Int) c.length) 12 = c.length := by omega
  go_wp2_with fail
  rotate_left
  rw [show ((past.length : Nat) : Int) = ((c.length : Nat) : Int) by omega]
  all_goals
    go_loopg [5, 12] c.length (fun gk s i wr => ∃ (k : Nat) (t : Int), k ≤ c.length ∧ gk = c.length - k ∧ i = .int .i64 k ∧ s = .int .i64 t ∧ Hid (t = gF (c.take k) past) ∧ Hid (Bl w wr))
    case atStart => exact ⟨0, 0, by omega, rfl, rfl, rfl, Lib.hid (by simp [gF]), Lib.hid (Bl.refl _)⟩
    case round =>
      obtain ⟨k, t, hk, hgk, rfl, rfl, HK, HBw⟩ := hrel
      by_cases hlt : k < c.length
      · have hlti : (k : Int) < c.length := by omega
        obtain ⟨ad2, rfl, c2⟩ := int_at HA2.out k hlt
        replace c2 := HBw.out.cell c2
        have hj : past.length - 1 - k < past.length := by omega
        obtain ⟨ad, rfl, c0⟩ := int_at HA.out (past.length - 1 - k) hj
        replace c0 := HBw.out.cell c0
        have hok := HM.out _ (List.getElem_mem hlt)
        have HS := Lib.hid (gF_step c past k hlt hl hok)
        generalize c[k] = x at *
        generalize past[past.length - 1 - k] = y at *
        generalize hj2 : past.length - 1 - k = j at *
        have hw1 : IntKind.i64.wrap ((past.length : Int) - 1) = past.length - 1 := IntWalk.i64_in _ (by omega)
        have hw2 : IntKind.i64.wrap (j : Int) = j := IntWalk.i64_in _ (by omega)
        have hji : (past.length : Int) - 1 - k = j := by omega
        clear hj2
        go_wp2_with fail
        refine (pcoef_any _ _).mono ?_
        rintro e w' ⟨rfl, rfl⟩
        rw [hok]
        go_wp2_with fail
        refine wp_region_ways (S := (fun w'' => w''.cell? (ad2.add k) = some (.int .i64 x) ∧ w''.cell? (ad.add j) = some (.int .i64 y))) [0, 1, 2, 3, 4, 5, 6, 7, 8, 9, 10, 11, 12] (y := .take 0 (.take 1 (.take 2 (.take 3 (.take 4 (.take 5 (.take 6 (.take 7 (.take 8 (.take 9 (.take 10 (.take 11 (.take 12 (.ev 13 (.ev 14 (.ev 15 (.ev 16 (.done) (.stop)) (.stop)) (.stop)) (.stop))))))))))))))) (by kernel_rfl) (by kernel_rfl) (by kernel_rfl) ?_ (fun hHeld => ?_)
        · exact ⟨(Bl.refl _).drew.cell c2, (Bl.refl _).drew.cell c0⟩
        have HHe := Lib.hid hHeld
        clear hHeld
        repeat (first | (refine wpWay_take rfl (by rfl) (by intro w hSw; (try dsimp only at hSw); first | (go_simp; done) | (go_simp; with_reducible rfl)) ?_; try simp only [Act.put, List.setIfInBounds_toArray, List.set_cons_zero, List.set_cons_succ]) | (refine wpWay_skip rfl (by rfl) ?_; try simp only [Act.put, List.setIfInBounds_toArray, List.set_cons_zero, List.set_cons_succ]))
        refine wpWay_ev rfl (fun K hK => ?_) wpWay_stop
        go_wp2_with fail
        refine (pcut_any _ _).mono ?_
        rintro e w1 ⟨rfl, rfl⟩
        go_wp2_with fail
        refine ⟨HHe.out, ?_⟩
        repeat (first | (refine wpWay_take rfl (by rfl) (by intro w hSw; (try dsimp only at hSw); first | (go_simp; done) | (go_simp; with_reducible rfl)) ?_; try simp only [Act.put, List.setIfInBounds_toArray, List.set_cons_zero, List.set_cons_succ]) | (refine wpWay_skip rfl (by rfl) ?_; try simp only [Act.put, List.setIfInBounds_toArray, List.set_cons_zero, List.set_cons_succ]))
        refine wpWay_ev rfl (fun K hK => ?_) wpWay_stop
        go_wp2_with fail
        refine ⟨HHe.out, ?_⟩
        repeat (first | (refine wpWay_take rfl (by rfl) (by intro w hSw; (try dsimp only at hSw); first | (go_simp; done) | (go_simp; with_reducible rfl)) ?_; try simp only [Act.put, List.setIfInBounds_toArray, List.set_cons_zero, List.set_cons_succ]) | (refine wpWay_skip rfl (by rfl) ?_; try simp only [Act.put, List.setIfInBounds_toArray, List.set_cons_zero, List.set_cons_succ]))
        refine wpWay_ev rfl (fun K hK => ?_) wpWay_stop
        go_wp2_with fail
        refine ⟨HHe.out, ?_⟩
        repeat (first | (refine wpWay_take rfl (by rfl) (by intro w hSw; (try dsimp only at hSw); first | (go_simp; done) | (go_simp; with_reducible rfl)) ?_; try simp only [Act.put, List.setIfInBounds_toArray, List.set_cons_zero, List.set_cons_succ]) | (refine wpWay_skip rfl (by rfl) ?_; try simp only [Act.put, List.setIfInBounds_toArray, List.set_cons_zero, List.set_cons_succ]))
        refine wpWay_ev rfl (fun K hK => ?_) wpWay_stop
        go_wp2_with fail
        refine ⟨HHe.out, ?_⟩
        repeat (first | (refine wpWay_take rfl (by rfl) (by intro w hSw; (try dsimp only at hSw); first | (go_simp; done) | (go_simp; with_reducible rfl)) ?_; try simp only [Act.put, List.setIfInBounds_toArray, List.set_cons_zero, List.set_cons_succ]) | (refine wpWay_skip rfl (by rfl) ?_; try simp only [Act.put, List.setIfInBounds_toArray, List.set_cons_zero, List.set_cons_succ]))
        refine wpWay_done ?_
        go_wp2_with fail
        go_roundg (c.length - (k + 1))
        case measure => omega
        case rel => exact ⟨k + 1, _, by omega, rfl, by go_num, rfl, Lib.hid (by rw [HS.out, ← HK.out]), Lib.hid HBw.out.drew⟩
      · obtain rfl : k = c.length := by omega
        go_wp2
        go_ret
        refine ⟨?_, HBw.out⟩
        have := HK.out
        rw [List.take_of_length_le (Nat.le_refl _)] at this
        rw [HR.out, gLpc_eq c past (by omega), ← this]
        rfl
end Go.Proofs.YtoocebghlchcoaaGreat.ExtW

/- Contracts of fixed.Restore, lpc.Restore. -/
namespace Go.Proofs.YtoocebghlchcoaaGreat.ExtW
open Go.RowKit Go.Ov Go.Proofs.YtoocebghlchcoaaGreat.Need
theorem gFix {w : World} {C : Nat} {u : Value} {c : List Int} (hb : Blk w C #[u] 24) (hc : intE.Is w u c) {m : Nat} (hm : c.length ≤ m) : GuessP w 140 (.pointer (some ⟨C, 0, none⟩)) (gSum c) m := fun w' v past hw hi h1 h2 => by
  have c0 := (hb.bl hw).cell 0
  simp at c0
  have HC := Lib.hid (hc.bl hw)
  have HI := Lib.hid hi
  clear hb hc hi hw
  go_enter Tryz.func140, Tryz.ntmps140
  go_wp2_with fail
  refine (xguess_any v u past c _ HI.out HC.out (by omega) (by omega)).mono ?_
  rintro e w1 ⟨rfl, rfl⟩
  go_wp2
  go_ret
  exact ⟨rfl, Bl.refl _⟩
theorem gLpcP {w : World} {C : Nat} {u : Value} {c : List Int} (hb : Blk w C #[u] 24) (hc : intE.Is w u c) (hmay : mayC c = true) {m : Nat} (hm : c.length ≤ m) : GuessP w 145 (.pointer (some ⟨C, 0, none⟩)) (gLpc c) m := fun w' v past hw hi h1 h2 => by
  have c0 := (hb.bl hw).cell 0
  simp at c0
  have HC := Lib.hid (hc.bl hw)
  have HI := Lib.hid hi
  clear hb hc hi hw
  go_enter Tryz.func145, Tryz.ntmps145
  go_wp2_with fail
  refine (pguess_any v u past c _ HI.out HC.out (by omega) (by omega) hmay).mono ?_
  rintro e w1 ⟨rfl, hb1⟩
  have HB1 := Lib.hid hb1
  clear hb1
  go_wp2
  go_ret
  exact ⟨rfl, HB1.out⟩
theorem RunP.low {w w0 w' : World} {o : Option (List Int)} {e : Ending} (h : RunP w w' o e) (hs : w0.heap.size ≤ w.heap.size) : RunP w0 w' o e := by
  cases o with
  | none => exact h
  | some x =>
    obtain ⟨u, h1, h2⟩ := h
    exact ⟨u, h1, h2.low hs⟩
theorem fixC_len (o : Nat) : (fixC o).length ≤ o := by
  unfold fixC
  split <;> simp
set_option maxHeartbeats 1000000 in
theorem fxRestore_any (v u : Value) (warm res : List Int) (w : World) (h : intE.Is w v warm) (hr : intE.Is w u res) (h4 : warm.length ≤ 4) (hn : warm.length + res.length ≤ 64) (ho : ∀ x ∈ warm, okS x = true) :
    Calls Tryz.prog 122 #[v, u] w fun e w' => RunP w w' (runO (gSum (fixC warm.length)) warm res) e ∧ Bl w w' := by
  have HI := Lib.hid h
  have HR := Lib.hid hr
  have HW := Lib.hid ho
  obtain ⟨A, cp, rfl⟩ : ∃ A cp, v = .slice A warm.length cp := by obtain ⟨A, c, e, _⟩ := h; exact ⟨A, c, e⟩
  obtain ⟨o, hO⟩ : ∃ o, o = runO (gSum (fixC warm.length)) warm res := ⟨_, rfl⟩
  rw [← hO]
  have HO := Lib.hid hO
  clear hO
  have hi4 : ¬ (4 : Int) < warm.length := by omega
  clear h hr ho
  go_enter Tryz.func122, Tryz.ntmps122
  go_wp2_with fail
  refine (xcoefs_any warm.length h4 _).mono ?_
  rintro e w1 ⟨uc, rfl, hoc, hb1⟩
  obtain ⟨A3, c3, rfl⟩ := hoc.slice
  have HOC := Lib.hid hoc
  have HB1 := Lib.hid hb1
  clear hoc hb1
  have hal := (Bl.refl w1).alloc (.cells #[.slice A3 (fixC warm.length).length c3] 24)
  have HGP := Lib.hid (gFix (Blk.new w1 #[.slice A3 (fixC warm.length).length c3] 24) (HOC.out.is.bl hal) (fixC_len warm.length))
  have HB2 := Lib.hid (HB1.out.trans hal)
  clear hal
  go_wp2_with fail
  refine (fxRun_fix (.slice A warm.length cp) u warm res _ _ _ (HI.out.bl HB2.out) (HR.out.bl HB2.out) HGP.out hn HW.out).mono ?_
  rintro e w2 ⟨hp, hb⟩
  rw [← HO.out] at hp
  have HP := Lib.hid (hp.low HB2.out.size)
  have HB3 := Lib.hid (HB2.out.trans hb)
  clear hb hp
  cases o with
  | none =>
    obtain rfl := HP.out
    go_wp2
    go_ret2
    exact ⟨rfl, HB3.out⟩
  | some x =>
    obtain ⟨ux, rfl, hx⟩ := HP.out
    go_wp2
    go_ret2
    exact ⟨⟨ux, rfl, hx⟩, HB3.out⟩
set_option maxHeartbeats 1000000 in
theorem lpRestore_any (v u uc : Value) (warm res c : List Int) (w : World) (h : intE.Is w v warm) (hr : intE.Is w u res) (hc : intE.Is w uc c) (hmay : mayC c = true) (hl : warm.length = c.length) (hn : warm.length + res.length ≤ 64) (ho : ∀ x ∈ warm, okS x = true) :
    Calls Tryz.prog 124 #[v, u, uc] w fun e w' => RunP w w' (runO (gLpc c) warm res) e ∧ Bl w w' := by
  have HI := Lib.hid h
  have HR := Lib.hid hr
  have HC := Lib.hid hc
  have HW := Lib.hid ho
  obtain ⟨A, cp, rfl⟩ : ∃ A cp, v = .slice A c.length cp := by obtain ⟨A, c, e, _⟩ := h; exact ⟨A, c, by rw [← hl]; exact e⟩
  obtain ⟨A3, c3, rfl⟩ : ∃ A cp, uc = .slice A c.length cp := by obtain ⟨A, c, e, _⟩ := hc; exact ⟨A, c, e⟩
  obtain ⟨o, hO⟩ : ∃ o, o = runO (gLpc c) warm res := ⟨_, rfl⟩
  rw [← hO]
  have HO := Lib.hid hO
  clear hO
  have hal := (Bl.refl w).alloc (.cells #[.slice A3 c.length c3] 24)
  have HBx := Lib.hid (Blk.new w #[.slice A3 c.length c3] 24)
  have HAL := Lib.hid hal
  have hli : (warm.length : Int) = c.length := by omega
  clear h hr ho hc hal
  generalize hN : w.heap.size = N at *
  go_enter Tryz.func124, Tryz.ntmps124
  go_wp2_with fail
  generalize w.alloc (.cells #[.slice A3 c.length c3] 24) = w0 at *
  have c0 := HBx.out.cell 0
  simp at c0
  refine (pmay_any _ c _ (HC.out.bl HAL.out) (by omega)).mono ?_
  rintro e w1 ⟨rfl, rfl⟩
  rw [hmay]
  have HGP := Lib.hid (gLpcP HBx.out (HC.out.bl HAL.out) hmay (m := warm.length) (by omega))
  go_wp2_with fail
  refine (fxRun_lpc (.slice A c.length cp) u warm res _ _ _ (HI.out.bl HAL.out) (HR.out.bl HAL.out) HGP.out hn HW.out).mono ?_
  rintro e w2 ⟨hp, hb⟩
  rw [← HO.out] at hp
  have HP := Lib.hid (hp.low HAL.out.size)
  have HB3 := Lib.hid (HAL.out.trans hb)
  clear hb hp
  cases o with
  | none =>
    obtain rfl := HP.out
    go_wp2
    go_ret2
    exact ⟨rfl, HB3.out⟩
  | some x =>
    obtain ⟨ux, rfl, hx⟩ := HP.out
    go_wp2
    go_ret2
    exact ⟨⟨ux, rfl, hx⟩, HB3.out⟩
end Go.Proofs.YtoocebghlchcoaaGreat.ExtW
