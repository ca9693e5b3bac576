/- Several texts joined (see each one's head). -/
import Derived.Test.YtoocebghlchcoaaGreatPkAX
import Derived.Test.YtoocebghlchcoaaGreatPkAP
import Derived.Test.YtoocebghlchcoaaGreatPkAQ
/- Contracts, weak ones, of the document's own predictors (overdubref05): Residual, LpcResidual, Auto, Scaled. -/
namespace Go.Proofs.YtoocebghlchcoaaGreat.ExtW
open Go.RowKit Go.Ov Go.Proofs.YtoocebghlchcoaaGreat.Need
theorem q5down_w (a b : Int) (w : World) (hb : 1 ≤ b) :
    Calls Tryz.prog 97 #[.int .i64 a, .int .i64 b] w fun e w' => (∃ q, e = .returned (.int .i64 q)) ∧ w' = w := by
  have hb0 : ¬ b = 0 := by omega
  go_enter Tryz.func97, Tryz.ntmps97
  rcases (show a < 0 ∨ ¬ a < 0 by omega) with hn | hn
  · rcases (show a.tmod b = 0 ∨ ¬ a.tmod b = 0 by omega) with h | h
    · go_wp2
      go_ret
      exact ⟨⟨_, rfl⟩, rfl⟩
    · go_wp2
      go_ret
      exact ⟨⟨_, rfl⟩, rfl⟩
  · have e2 : a.tmod b = a % b := Int.tmod_eq_emod_of_nonneg (by omega)
    generalize a % b = m at *
    rcases (show m = 0 ∨ ¬ m = 0 by omega) with h | h
    · subst h
      go_wp2
      go_ret
      exact ⟨⟨_, rfl⟩, rfl⟩
    · go_wp2
      go_ret
      exact ⟨⟨_, rfl⟩, rfl⟩
/-- residuals, or an error -/
def ResW (w w' : World) (L o : Nat) (e : Ending) : Prop := Bl w w' ∧ ∃ u r c, e = .returned (.tuple #[u, .int .i64 c]) ∧ intE.Is w' u r ∧ r.length ≤ L ∧ (c = 0 → o ≤ L)
set_option maxRecDepth 100000 in
set_option maxHeartbeats 2000000 in
theorem q5Residual_w (v : Value) (l : List Int) (o : Nat) (ho : o ≤ 4) (w : World) (h : intE.Is w v l) (hn : l.length ≤ 64) :
    Calls Tryz.prog 61 #[v, .int .i64 o] w fun e w' => ResW w w' l.length o e := by
  have HI := Lib.hid h
  obtain ⟨A, cp, rfl, h1, h2, h3, h4⟩ := h
  have HC := Lib.hid h1
  clear h1 h2 h3 h4
  have HG := Lib.hid (fun (w' : World) (v : Value) (past : List Int) (_ : Bl w w') (hi : intE.Is w' v past) (h1 : o ≤ past.length) (h2 : past.length ≤ 1000) => q5told_any v past o w' hi (by omega) ho h1)
  generalize gSum (fixC o) = g at *
  go_enter Tryz.func61, Tryz.ntmps61
  have ho1 : ¬ (o : Int) < 0 := by omega
  have ho2 : ¬ (4 : Int) < o := by omega
  rcases (show (l.length : Int) < o ∨ ¬ (l.length : Int) < o by omega) with hol | hol
  · go_wp2
    go_ret2
    exact ⟨Bl.refl _, _, [], 1, rfl, Enc.Is.nil _, by simp, fun h => by cases h⟩
  go_wp2_with fail
  refine (q5May_any _ l _ HI.out (by omega)).mono ?_
  rintro e w ⟨rfl, rfl⟩
  generalize chkM l = cc
  rcases (show cc = 0 ∨ cc ≠ 0 by omega) with rfl | hne
  · go_wp2_with fail
    go_loopg [7, 8] (l.length - o) (fun gk u i wr => ∃ (k : Nat) (r : List Int), o ≤ k ∧ k ≤ l.length ∧ gk = l.length - k ∧ i = .int .i64 k ∧ Hid (r.length = k - o) ∧ Hid (intE.Own 3 wr w.heap.size u r) ∧ Hid (Bl w wr))
    case atStart => exact ⟨o, [], by omega, by omega, rfl, rfl, Lib.hid (by simp), Lib.hid (Enc.Own.nil _ _ _), Lib.hid (Bl.refl _)⟩
    case round =>
      obtain ⟨k, r, hok, hk, hgk, rfl, HL, HO, HW⟩ := hrel
      by_cases hlt : k < l.length
      · have hlti : (k : Int) < l.length := by omega
        obtain ⟨_, _, e1, _, _, _, hat⟩ := id HI.out
        simp only [Value.slice.injEq] at e1
        obtain ⟨rfl, -, -⟩ := e1
        obtain ⟨ad, rfl, c1⟩ := int_at hat k hlt
        clear hat
        have c0 := HW.out.cell c1
        have HC1 := Lib.hid c1
        clear c1
        obtain ⟨V2, hV2, hI2⟩ := slice_h (E := intE) (P := Tryz.prog) (t := 24) (by kernel_rfl) (fun w => by kernel_rfl) (some ad) cp l (k : Int) (by omega) (by omega) HC.out
        have HV := Lib.hid (hI2 _ HI.out)
        clear hI2
        generalize l[k] = x at *
        go_wp2_with fail
        refine wp_region_ways (S := (fun w' => w'.cell? (ad.add k) = some (.int .i64 x))) [0, 1, 2, 3, 4, 5, 6, 7, 8] (y := .take 0 (.take 1 (.take 2 (.take 3 (.take 4 (.take 5 (.take 6 (.take 7 (.take 8 (.ev 9 (.ev 10 (.ev 11 (.ev 12 (.ev 13 (.done) (.stop)) (.stop)) (.stop)) (.stop)) (.stop))))))))))) (by kernel_rfl) (by kernel_rfl) (by kernel_rfl) ?_ (fun hHeld => ?_)
        · exact (Bl.refl _).drew.cell c0
        have HHe := Lib.hid hHeld
        clear hHeld
        repeat (first | (refine wpWay_take rfl (by rfl) (by intro w hSw; (try dsimp only at hSw); first | (go_simp; done) | (go_simp; with_reducible rfl)) ?_; try simp only [Act.put, List.setIfInBounds_toArray, List.set_cons_zero, List.set_cons_succ]) | (refine wpWay_skip rfl (by rfl) ?_; try simp only [Act.put, List.setIfInBounds_toArray, List.set_cons_zero, List.set_cons_succ]))
        refine wpWay_ev rfl (fun K hK => ?_) wpWay_stop
        go_wp2_with fail
        refine (HG.out _ V2 _ HW.out.drew (HV.out.bl HW.out.drew) (by simp; omega) (by simp; omega)).mono ?_
        rintro e w3 ⟨rfl, hb3⟩
        have HB3 := Lib.hid (HW.out.drew.trans hb3)
        have HO3 := Lib.hid ((HO.out.bl (Bl.refl _).drew).bl hb3)
        clear hb3
        generalize g (List.take (k : Int).toNat l) = gg at *
        have HCl := Lib.hid (fun (w' : World) (hb : Bl w w') => hb.cell HC1.out)
        clear c0
        go_wp2_with fail
        refine ⟨HCl.out _ HB3.out, ?_⟩
        repeat (first | (refine wpWay_take rfl (by rfl) (by intro w hSw; (try dsimp only at hSw); first | (go_simp; done) | (go_simp; with_reducible rfl)) ?_; try simp only [Act.put, List.setIfInBounds_toArray, List.set_cons_zero, List.set_cons_succ]) | (refine wpWay_skip rfl (by rfl) ?_; try simp only [Act.put, List.setIfInBounds_toArray, List.set_cons_zero, List.set_cons_succ]))
        refine wpWay_ev rfl (fun K hK => ?_) wpWay_stop
        go_wp2_with fail
        refine ⟨HCl.out _ HB3.out, ?_⟩
        repeat (first | (refine wpWay_take rfl (by rfl) (by intro w hSw; (try dsimp only at hSw); first | (go_simp; done) | (go_simp; with_reducible rfl)) ?_; try simp only [Act.put, List.setIfInBounds_toArray, List.set_cons_zero, List.set_cons_succ]) | (refine wpWay_skip rfl (by rfl) ?_; try simp only [Act.put, List.setIfInBounds_toArray, List.set_cons_zero, List.set_cons_succ]))
        refine wpWay_ev rfl (fun K hK => ?_) wpWay_stop
        go_wp2_with fail
        refine ⟨HCl.out _ (HB3.out.alloc _), ?_⟩
        repeat (first | (refine wpWay_take rfl (by rfl) (by intro w hSw; (try dsimp only at hSw); first | (go_simp; done) | (go_simp; with_reducible rfl)) ?_; try simp only [Act.put, List.setIfInBounds_toArray, List.set_cons_zero, List.set_cons_succ]) | (refine wpWay_skip rfl (by rfl) ?_; try simp only [Act.put, List.setIfInBounds_toArray, List.set_cons_zero, List.set_cons_succ]))
        refine wpWay_ev rfl (fun K hK => ?_) wpWay_stop
        go_wp2_with (at_builtin; refine Enc.Own.append1 (E := intE) rfl (.tmp 33) (.tmp 44) 24 rfl w.heap.size 3 (.int .i64 0) 1 8 Tryz.underlying24 infoIntX rfl rfl (by decide) (by decide) _ r rfl HO3.out _ _ rfl rfl rfl (by have := HL.out; omega) HB3.out.size ?_; intro u1 w2 ho hg)
        have HB4 := Lib.hid ((HB3.out.alloc _).grown hg (fun g hgk => (HO3.out.lt g hgk).1))
        have HO4 := Lib.hid ho
        clear ho hg
        refine ⟨HCl.out _ HB4.out, ?_⟩
        repeat (first | (refine wpWay_take rfl (by rfl) (by intro w hSw; (try dsimp only at hSw); first | (go_simp; done) | (go_simp; with_reducible rfl)) ?_; try simp only [Act.put, List.setIfInBounds_toArray, List.set_cons_zero, List.set_cons_succ]) | (refine wpWay_skip rfl (by rfl) ?_; try simp only [Act.put, List.setIfInBounds_toArray, List.set_cons_zero, List.set_cons_succ]))
        refine wpWay_ev rfl (fun K hK => ?_) wpWay_stop
        go_wp2_with fail
        refine ⟨HCl.out _ HB4.out, ?_⟩
        repeat (first | (refine wpWay_take rfl (by rfl) (by intro w hSw; (try dsimp only at hSw); first | (go_simp; done) | (go_simp; with_reducible rfl)) ?_; try simp only [Act.put, List.setIfInBounds_toArray, List.set_cons_zero, List.set_cons_succ]) | (refine wpWay_skip rfl (by rfl) ?_; try simp only [Act.put, List.setIfInBounds_toArray, List.set_cons_zero, List.set_cons_succ]))
        refine wpWay_done ?_
        go_wp2_with fail
        go_roundg (l.length - (k + 1))
        case measure => omega
        case rel => exact ⟨k + 1, _, by omega, by omega, rfl, by go_num, Lib.hid (by rw [List.length_append, HL.out]; simp; omega), HO4, HB4⟩
      · obtain rfl : k = l.length := by omega
        go_wp2
        go_ret2
        exact ⟨HW.out, _, r, 0, rfl, HO.out.is, by have := HL.out; omega, fun _ => by omega⟩
  · go_wp2
    go_ret2
    exact ⟨Bl.refl _, _, [], cc, rfl, Enc.Is.nil _, by simp, fun h => absurd h hne⟩
set_option maxRecDepth 100000 in
set_option maxHeartbeats 2000000 in
theorem q5LpcResidual_w (v u : Value) (l c : List Int) (w : World) (h : intE.Is w v l) (hc : intE.Is w u c) (hn : l.length ≤ 64) (hcn : c.length ≤ 1000) :
    Calls Tryz.prog 64 #[v, u] w fun e w' => ResW w w' l.length c.length e := by
  have HI := Lib.hid h
  have HCc := Lib.hid hc
  obtain ⟨A, cp, rfl, h1, h2, h3, h4⟩ := h
  have HC := Lib.hid h1
  obtain ⟨Ac, cc, rfl⟩ : ∃ A cp, u = .slice A c.length cp := by obtain ⟨A, c', e, _⟩ := hc; exact ⟨A, c', e⟩
  clear h1 h2 h3 h4 hc
  go_enter Tryz.func64, Tryz.ntmps64
  go_wp2_with fail
  refine (q5MayCoefs_any _ c _ HCc.out (by omega)).mono ?_
  rintro e w ⟨rfl, rfl⟩
  cases hm : mayC c
  · go_wp2
    go_ret2
    exact ⟨Bl.refl _, _, [], 1, rfl, Enc.Is.nil _, by simp, fun h => by cases h⟩
  rcases (show (l.length : Int) < c.length ∨ ¬ (l.length : Int) < c.length by omega) with hol | hol
  · go_wp2
    go_ret2
    exact ⟨Bl.refl _, _, [], 1, rfl, Enc.Is.nil _, by simp, fun h => by cases h⟩
  have HG := Lib.hid (fun (w' : World) (v : Value) (past : List Int) (hb : Bl w w') (hi : intE.Is w' v past) (h1 : c.length ≤ past.length) (h2 : past.length ≤ 1000) => q5Guess_any v _ past c w' hi (HCc.out.bl hb) (by omega) h1 hm)
  generalize gLpc c = g at *
  go_wp2_with fail
  refine (q5May_any _ l _ HI.out (by omega)).mono ?_
  rintro e w ⟨rfl, rfl⟩
  generalize chkM l = ce
  rcases (show ce = 0 ∨ ce ≠ 0 by omega) with rfl | hne
  · go_wp2_with fail
    generalize hoc : c.length = o at *
    have HOc := Lib.hid hoc
    clear hoc
    go_loopg [7, 8] (l.length - o) (fun gk u i wr => ∃ (k : Nat) (r : List Int), o ≤ k ∧ k ≤ l.length ∧ gk = l.length - k ∧ i = .int .i64 k ∧ Hid (r.length = k - o) ∧ Hid (intE.Own 3 wr w.heap.size u r) ∧ Hid (Bl w wr))
    case atStart => exact ⟨o, [], by omega, by omega, rfl, rfl, Lib.hid (by simp), Lib.hid (Enc.Own.nil _ _ _), Lib.hid (Bl.refl _)⟩
    case round =>
      obtain ⟨k, r, hok, hk, hgk, rfl, HL, HO, HW⟩ := hrel
      by_cases hlt : k < l.length
      · have hlti : (k : Int) < l.length := by omega
        obtain ⟨_, _, e1, _, _, _, hat⟩ := id HI.out
        simp only [Value.slice.injEq] at e1
        obtain ⟨rfl, -, -⟩ := e1
        obtain ⟨ad, rfl, c1⟩ := int_at hat k hlt
        clear hat
        have c0 := HW.out.cell c1
        have HC1 := Lib.hid c1
        clear c1
        obtain ⟨V2, hV2, hI2⟩ := slice_h (E := intE) (P := Tryz.prog) (t := 24) (by kernel_rfl) (fun w => by kernel_rfl) (some ad) cp l (k : Int) (by omega) (by omega) HC.out
        have HV := Lib.hid (hI2 _ HI.out)
        clear hI2
        generalize l[k] = x at *
        go_wp2_with fail
        refine wp_region_ways (S := (fun w' => w'.cell? (ad.add k) = some (.int .i64 x))) [0, 1, 2, 3, 4, 5, 6, 7, 8] (y := .take 0 (.take 1 (.take 2 (.take 3 (.take 4 (.take 5 (.take 6 (.take 7 (.take 8 (.ev 9 (.ev 10 (.ev 11 (.ev 12 (.ev 13 (.done) (.stop)) (.stop)) (.stop)) (.stop)) (.stop))))))))))) (by kernel_rfl) (by kernel_rfl) (by kernel_rfl) ?_ (fun hHeld => ?_)
        · exact (Bl.refl _).drew.cell c0
        have HHe := Lib.hid hHeld
        clear hHeld
        repeat (first | (refine wpWay_take rfl (by rfl) (by intro w hSw; (try dsimp only at hSw); first | (go_simp; done) | (go_simp; with_reducible rfl)) ?_; try simp only [Act.put, List.setIfInBounds_toArray, List.set_cons_zero, List.set_cons_succ]) | (refine wpWay_skip rfl (by rfl) ?_; try simp only [Act.put, List.setIfInBounds_toArray, List.set_cons_zero, List.set_cons_succ]))
        refine wpWay_ev rfl (fun K hK => ?_) wpWay_stop
        go_wp2_with fail
        refine (HG.out _ V2 _ HW.out.drew (HV.out.bl HW.out.drew) (by simp; omega) (by simp; omega)).mono ?_
        rintro e w3 ⟨rfl, hb3⟩
        have HB3 := Lib.hid (HW.out.drew.trans hb3)
        have HO3 := Lib.hid ((HO.out.bl (Bl.refl _).drew).bl hb3)
        clear hb3
        generalize g (List.take (k : Int).toNat l) = gg at *
        have HCl := Lib.hid (fun (w' : World) (hb : Bl w w') => hb.cell HC1.out)
        clear c0
        go_wp2_with fail
        refine ⟨HCl.out _ HB3.out, ?_⟩
        repeat (first | (refine wpWay_take rfl (by rfl) (by intro w hSw; (try dsimp only at hSw); first | (go_simp; done) | (go_simp; with_reducible rfl)) ?_; try simp only [Act.put, List.setIfInBounds_toArray, List.set_cons_zero, List.set_cons_succ]) | (refine wpWay_skip rfl (by rfl) ?_; try simp only [Act.put, List.setIfInBounds_toArray, List.set_cons_zero, List.set_cons_succ]))
        refine wpWay_ev rfl (fun K hK => ?_) wpWay_stop
        go_wp2_with fail
        refine ⟨HCl.out _ HB3.out, ?_⟩
        repeat (first | (refine wpWay_take rfl (by rfl) (by intro w hSw; (try dsimp only at hSw); first | (go_simp; done) | (go_simp; with_reducible rfl)) ?_; try simp only [Act.put, List.setIfInBounds_toArray, List.set_cons_zero, List.set_cons_succ]) | (refine wpWay_skip rfl (by rfl) ?_; try simp only [Act.put, List.setIfInBounds_toArray, List.set_cons_zero, List.set_cons_succ]))
        refine wpWay_ev rfl (fun K hK => ?_) wpWay_stop
        go_wp2_with fail
        refine ⟨HCl.out _ (HB3.out.alloc _), ?_⟩
        repeat (first | (refine wpWay_take rfl (by rfl) (by intro w hSw; (try dsimp only at hSw); first | (go_simp; done) | (go_simp; with_reducible rfl)) ?_; try simp only [Act.put, List.setIfInBounds_toArray, List.set_cons_zero, List.set_cons_succ]) | (refine wpWay_skip rfl (by rfl) ?_; try simp only [Act.put, List.setIfInBounds_toArray, List.set_cons_zero, List.set_cons_succ]))
        refine wpWay_ev rfl (fun K hK => ?_) wpWay_stop
        go_wp2_with (at_builtin; refine Enc.Own.append1 (E := intE) rfl (.tmp 32) (.tmp 43) 24 rfl w.heap.size 3 (.int .i64 0) 1 8 Tryz.underlying24 infoIntX rfl rfl (by decide) (by decide) _ r rfl HO3.out _ _ rfl rfl rfl (by have := HL.out; omega) HB3.out.size ?_; intro u1 w2 ho hg)
        have HB4 := Lib.hid ((HB3.out.alloc _).grown hg (fun g hgk => (HO3.out.lt g hgk).1))
        have HO4 := Lib.hid ho
        clear ho hg
        refine ⟨HCl.out _ HB4.out, ?_⟩
        repeat (first | (refine wpWay_take rfl (by rfl) (by intro w hSw; (try dsimp only at hSw); first | (go_simp; done) | (go_simp; with_reducible rfl)) ?_; try simp only [Act.put, List.setIfInBounds_toArray, List.set_cons_zero, List.set_cons_succ]) | (refine wpWay_skip rfl (by rfl) ?_; try simp only [Act.put, List.setIfInBounds_toArray, List.set_cons_zero, List.set_cons_succ]))
        refine wpWay_ev rfl (fun K hK => ?_) wpWay_stop
        go_wp2_with fail
        refine ⟨HCl.out _ HB4.out, ?_⟩
        repeat (first | (refine wpWay_take rfl (by rfl) (by intro w hSw; (try dsimp only at hSw); first | (go_simp; done) | (go_simp; with_reducible rfl)) ?_; try simp only [Act.put, List.setIfInBounds_toArray, List.set_cons_zero, List.set_cons_succ]) | (refine wpWay_skip rfl (by rfl) ?_; try simp only [Act.put, List.setIfInBounds_toArray, List.set_cons_zero, List.set_cons_succ]))
        refine wpWay_done ?_
        go_wp2_with fail
        go_roundg (l.length - (k + 1))
        case measure => omega
        case rel => exact ⟨k + 1, _, by omega, by omega, rfl, by go_num, Lib.hid (by rw [List.length_append, HL.out]; simp; omega), HO4, HB4⟩
      · obtain rfl : k = l.length := by omega
        go_wp2
        go_ret2
        exact ⟨HW.out, _, r, 0, rfl, HO.out.is, by have := HL.out; omega, fun _ => by have := HOc.out; omega⟩
  · go_wp2
    go_ret2
    exact ⟨Bl.refl _, _, [], ce, rfl, Enc.Is.nil _, by simp, fun h => absurd h hne⟩
end Go.Proofs.YtoocebghlchcoaaGreat.ExtW

/- Contracts, weak ones, of the document's own predictors (overdubref05): Auto, Scaled. -/
namespace Go.Proofs.YtoocebghlchcoaaGreat.ExtW
open Go.RowKit Go.Ov Go.Proofs.YtoocebghlchcoaaGreat.Need
set_option maxRecDepth 100000 in
set_option maxHeartbeats 1000000 in
theorem q5Auto_any (v : Value) (l : List Int) (n : Nat) (w : World) (h : intE.Is w v l) (hn : n ≤ 12) (hx : chkM l = 0) :
    Calls Tryz.prog 95 #[v, .int .i64 n] w fun e w' => ∃ u r, e = .returned (.tuple #[u, .int .i64 0]) ∧ Bl w w' ∧ r.length = n + 1 ∧ AutoOk r ∧ intE.Own 3 w' w.heap.size u r := by
  have HI := Lib.hid h
  obtain ⟨A, cp, rfl, h1, h2, h3, h4⟩ := h
  clear h1 h2 h3
  have HA := Lib.hid h4
  clear h4
  obtain ⟨hx1, hx2⟩ := chk_ok hx
  rw [List.all_eq_true] at hx1
  have HS := Lib.hid hx1
  clear hx1
  go_enter Tryz.func95, Tryz.ntmps95
  have hn1 : ¬ (n : Int) < 0 := by omega
  have hn2 : ¬ (12 : Int) < n := by omega
  go_wp2_with fail
  refine (q5May_any _ l _ HI.out (by omega)).mono ?_
  rintro e w' ⟨rfl, rfl⟩
  rw [hx]
  go_wp2_with fail
  go_loopg [7, 8] (n + 1) (fun gk u i wr => ∃ (k : Nat) (r : List Int), k ≤ n + 1 ∧ gk = n + 1 - k ∧ i = .int .i64 k ∧ r.length = k ∧ Hid (AutoOk r) ∧ Hid (intE.Own 3 wr w'.heap.size u r) ∧ Hid (Bl w' wr))
  case atStart => exact ⟨0, [], by omega, rfl, rfl, rfl, Lib.hid ⟨fun v hv => by simp at hv, by simp⟩, Lib.hid (Enc.Own.nil _ _ _), Lib.hid (Bl.refl _)⟩
  case round =>
    obtain ⟨k, r, hk, hgk, rfl, hrl, HR, HO, HW⟩ := hrel
    by_cases hlt : k < n + 1
    · have hlti : (k : Int) ≤ n := by omega
      go_wp2_with fail
      go_loopg [9, 10] (l.length + 13 - k) (fun gk s i wr2 => ∃ (m : Nat) (t : Int), k ≤ m ∧ (m ≤ l.length ∨ m = k) ∧ gk = l.length + 13 - m ∧ i = .int .i64 m ∧ s = .int .i64 t ∧ (-((m : Int) * 70368744177664) ≤ t ∧ t ≤ m * 70368744177664) ∧ (k = 0 → 0 ≤ t) ∧ Hid (Bl wr wr2))
      case atStart => exact ⟨k, 0, by omega, .inr rfl, by omega, rfl, rfl, by omega, by omega, Lib.hid (Bl.refl _)⟩
      case round =>
        obtain ⟨m, t, hkm, hml, hgm, rfl, rfl, ht, ht0, HV⟩ := hrel
        by_cases hm : m < l.length
        · have hmi : (m : Int) < l.length := by omega
          obtain ⟨ad, rfl, c0⟩ := int_at HA.out m hm
          obtain ⟨ad', e2, c2⟩ := int_at HA.out (m - k) (by omega)
          injection e2 with e2
          subst e2
          have d0 := HV.out.cell (HW.out.cell c0)
          have d2 := HV.out.cell (HW.out.cell c2)
          have hp := prod_bd (HS.out _ (List.getElem_mem hm)) (HS.out _ (List.getElem_mem (show m - k < l.length by omega)))
          have hp0 : k = 0 → 0 ≤ l[m] * l[m - k]'(by omega) := by
            intro e; subst e
            simp only [Nat.sub_zero]
            rcases Int.le_total 0 l[m] with h | h
            · exact Int.mul_nonneg h h
            · exact Int.mul_nonneg_of_nonpos_of_nonpos h h
          clear c0 c2
          generalize l[m] = x at *
          generalize l[m - k] = y at *
          generalize hj : m - k = j at *
          have hw1 : IntKind.i64.wrap ((m : Int) - k) = j := by rw [IntWalk.i64_in _ (by omega)]; omega
          have hw2 : IntKind.i64.wrap (j : Int) = j := IntWalk.i64_in _ (by omega)
          have hw3 : (m : Int) - k = j := by omega
          have hjl : j < l.length := by omega
          have hw4 : IntKind.i64.wrap (x * y) = x * y := IntWalk.i64_in _ (by omega)
          have hw5 : IntKind.i64.wrap (t + x * y) = t + x * y := IntWalk.i64_in _ (by omega)
          clear hj
          go_wp2_with fail
          refine wp_region_ways (S := (fun w'' => w''.cell? (ad.add m) = some (.int .i64 x) ∧ w''.cell? (ad.add j) = some (.int .i64 y))) [0, 1, 2, 3, 4, 5, 6, 7, 8, 9, 10, 11, 12, 13] (y := .take 0 (.take 1 (.take 2 (.take 3 (.take 4 (.take 5 (.take 6 (.take 7 (.take 8 (.take 9 (.take 10 (.take 11 (.take 12 (.take 13 (.done))))))))))))))) (by kernel_rfl) (by kernel_rfl) (by kernel_rfl) ?_ (fun hHeld => ?_)
          · exact ⟨(Bl.refl _).drew.cell d0, (Bl.refl _).drew.cell d2⟩
          clear hHeld
          repeat (first | (refine wpWay_take rfl (by rfl) (by intro w hSw; (try dsimp only at hSw); first | (go_simp; done) | (go_simp; with_reducible rfl)) ?_; try simp only [Act.put, List.setIfInBounds_toArray, List.set_cons_zero, List.set_cons_succ]) | (refine wpWay_skip rfl (by rfl) ?_; try simp only [Act.put, List.setIfInBounds_toArray, List.set_cons_zero, List.set_cons_succ]))
          refine wpWay_done ?_
          go_wp2_with fail
          go_roundg (l.length + 13 - (m + 1))
          case measure => omega
          case rel => exact ⟨m + 1, t + x * y, by omega, .inl (by omega), rfl, by go_num, rfl, by omega, fun e => by have := hp0 e; have := ht0 e; omega, Lib.hid HV.out.drew⟩
        · have hmi : ¬ (m : Int) < l.length := by omega
          have HO2 := Lib.hid (HO.out.bl HV.out)
          have HW3 := Lib.hid (HW.out.trans HV.out)
          have hok : AutoOk (r ++ [t]) := by
            have h0 := HR.out
            refine ⟨fun v hv => ?_, ?_⟩
            · rcases List.mem_append.1 hv with h | h
              · exact h0.1 v h
              · simp only [List.mem_singleton] at h
                subst h
                have : (m : Int) ≤ 64 := by omega
                omega
            · cases r with
              | nil => simpa using ht0 (by simpa using hrl.symm)
              | cons y r => simpa using h0.2
          have HK := Lib.hid hok
          clear hok ht0 HR
          go_wp2_with (at_builtin; refine Enc.Own.append1L (E := intE) rfl (.tmp 47) (.tmp 49) 24 rfl w'.heap.size 3 (.int .i64 0) 1 8 Tryz.underlying24 infoIntX rfl rfl (by decide) (by decide) _ r rfl HO2.out t _ rfl rfl rfl (by omega) (HW3.out.size) ?_; intro u1 w2 ho hg hli)
          go_roundg (n + 1 - (k + 1))
          case measure => omega
          case rel => exact ⟨k + 1, r ++ [t], by omega, rfl, by go_num, by simp [hrl], HK, Lib.hid ho, Lib.hid ((HW3.out.alloc _).grown hg (fun g hgk => (HO.out.lt g hgk).1))⟩
    · obtain rfl : k = n + 1 := by omega
      have hnle : ¬ ((n + 1 : Nat) : Int) ≤ n := by omega
      go_wp2
      go_ret2
      exact ⟨_, rfl, HW.out, r, hrl, HR.out, HO.out⟩
theorem two_pow_bd {s : Nat} (hs : s ≤ 23) : 1 ≤ (2 : Int) ^ s ∧ (2 : Int) ^ s ≤ 8388608 := by
  have h1 : 2 ^ s ≤ 2 ^ 23 := Nat.pow_le_pow_right (by decide) hs
  have h2 : ((2 : Int) ^ s) = ((2 ^ s : Nat) : Int) := by simp
  have h3 : 0 < 2 ^ s := Nat.pow_pos (by decide)
  rw [h2]
  omega
set_option maxRecDepth 100000 in
set_option maxHeartbeats 1000000 in
theorem q5Scaled_any (v : Value) (r : List Int) (w : World) (h : intE.Is w v r) (h1 : 1 ≤ r.length) (hn : r.length ≤ 13) (hr : AutoOk r) :
    Calls Tryz.prog 96 #[v] w fun e w' => ∃ u r2 s, e = .returned (.tuple #[u, s]) ∧ Bl w w' ∧ r2.length = r.length ∧ intE.Own 3 w' w.heap.size u r2 := by
  have HI := Lib.hid h
  obtain ⟨A, cp, rfl, g1, g2, g3, h4⟩ := h
  clear g1 g2 g3
  have HA := Lib.hid h4
  clear h4
  obtain ⟨ad, rfl, z0⟩ := int_at HA.out 0 (by omega)
  have hr0 : r.getD 0 0 = r[0] := by rw [List.getD_eq_getElem?_getD, List.getElem?_eq_getElem (by omega), Option.getD_some]
  have hb0 := hr.1 _ (List.getElem_mem (show 0 < r.length by omega))
  have hp0 := hr.2
  rw [hr0] at hp0
  clear hr0
  have HB := Lib.hid hr.1
  clear hr
  generalize r[0] = x0 at *
  have hne : ¬ (r.length : Int) = 0 := by omega
  have hx0 : ¬ x0 < 0 := by omega
  have hnil : ¬ r = [] := by rintro rfl; simp at h1
  have hpos : 0 < r.length := by omega
  have z1 : w.cell? ad = some (.int .i64 x0) := z0
  go_enter Tryz.func96, Tryz.ntmps96
  go_wp2_with fail
  go_loopg [19] r.length (fun gk i wr => ∃ k : Nat, k ≤ r.length ∧ gk = r.length - k ∧ i = .int .i64 k ∧ wr = w)
  case atStart => exact ⟨0, by omega, rfl, rfl, rfl⟩
  case round =>
    obtain ⟨k, hk, hgk, rfl, hw⟩ := hrel
    obtain rfl : w = wr := hw.symm
    by_cases hlt : k < r.length
    · have hlti : (k : Int) < r.length := by omega
      obtain ⟨ad', e2, c0⟩ := int_at HA.out k hlt
      injection e2 with e2
      subst e2
      have hb := HB.out _ (List.getElem_mem hlt)
      generalize r[k] = x at *
      have hq1 : ¬ x < -1152921504606846976 := by omega
      have hq2 : ¬ 1152921504606846976 < x := by omega
      go_wp2_with fail
      go_roundg (r.length - (k + 1))
      case measure => omega
      case rel => exact ⟨k + 1, by omega, rfl, by go_num, rfl⟩
    · obtain rfl : k = r.length := by omega
      go_wp2_with fail
      go_loopg [5] 24 (fun gk i wr => ∃ s : Nat, s ≤ 23 ∧ gk = 24 - s ∧ i = .int .i64 s ∧ wr = w)
      case atStart => exact ⟨0, by omega, rfl, rfl, rfl⟩
      case round =>
        obtain ⟨s, hs, hgs, rfl, hw⟩ := hrel
        obtain rfl : w = wr := hw.symm
        have hpb := two_pow_bd hs
        have hwk : IntKind.u64.wrap (s : Int) = s := by simp [IntKind.wrap, IntKind.bits, IntKind.signed]; omega
        have HSl := Lib.hid (fun h => sh_lt x0 s (by omega) h)
        obtain ⟨p, hp⟩ : ∃ p, p = (2 : Int) ^ s := ⟨_, rfl⟩
        have hwp : IntKind.i64.wrap ((2 : Int) ^ s) = p := by rw [IntWalk.i64_in _ (by omega)]; exact hp.symm
        rw [← hp] at HSl hpb
        clear hp
        go_wp2_with fail
        refine (q5down_any x0 p _ (by omega) (by omega)).mono ?_
        rintro e w1 ⟨rfl, rfl⟩
        rcases (show 1073741824 ≤ x0 / p ∨ ¬ 1073741824 ≤ x0 / p by omega) with hg | hg
        · have hs2 : s < 23 := by
            rcases (show s < 23 ∨ 23 ≤ s by omega) with h | h
            · exact h
            · have := HSl.out h; omega
          go_wp2_with fail
          go_roundg (24 - (s + 1))
          case measure => omega
          case rel => exact ⟨s + 1, by omega, rfl, by go_num, rfl⟩
        · go_wp2_with fail
          go_loopg [6, 47] r.length (fun gk u i wr => ∃ (k : Nat) (r2 : List Int), k ≤ r.length ∧ gk = r.length - k ∧ i = .int .i64 k ∧ r2.length = k ∧ Hid (intE.Own 3 wr w1.heap.size u r2) ∧ Hid (Bl w1 wr))
          case atStart => exact ⟨0, [], by omega, rfl, rfl, rfl, Lib.hid (Enc.Own.nil _ _ _), Lib.hid (Bl.refl _)⟩
          case round =>
            obtain ⟨k, r2, hk, hgk, rfl, hrl, HO, HW⟩ := hrel
            by_cases hlt : k < r.length
            · have hlti : (k : Int) < r.length := by omega
              obtain ⟨ad', e2, c0⟩ := int_at HA.out k hlt
              injection e2 with e2
              subst e2
              replace c0 := HW.out.cell c0
              generalize r[k] = x at *
              go_wp2_with fail
              refine (q5down_w x p _ (by omega)).mono ?_
              rintro e w2 ⟨⟨q, rfl⟩, rfl⟩
              go_wp2_with (at_builtin; refine Enc.Own.append1L (E := intE) rfl (.tmp 50) (.tmp 59) 24 rfl w1.heap.size 3 (.int .i64 0) 1 8 Tryz.underlying24 infoIntX rfl rfl (by decide) (by decide) _ r2 rfl HO.out q _ rfl rfl rfl (by omega) (HW.out.size) ?_; intro u1 w3 ho hg hli)
              go_roundg (r.length - (k + 1))
              case measure => omega
              case rel => exact ⟨k + 1, r2 ++ [q], by omega, rfl, by go_num, by simp [hrl], Lib.hid ho, Lib.hid ((HW.out.alloc _).grown hg (fun g hgk => (HO.out.lt g hgk).1))⟩
            · obtain rfl : k = r.length := by omega
              go_wp2
              go_ret2
              exact ⟨_, r2, _, rfl, HW.out, hrl, HO.out⟩
end Go.Proofs.YtoocebghlchcoaaGreat.ExtW

/- Contract of the document's own Coefficients (overdubref05; weak: which coefficients, is not said). -/
namespace Go.Proofs.YtoocebghlchcoaaGreat.ExtW
open Go.RowKit Go.Ov Go.Proofs.YtoocebghlchcoaaGreat.Need
def CoefP (w w' : World) (n o : Nat) (e : Ending) : Prop := ∃ u ok, e = .returned (.tuple #[u, .bool ok]) ∧ Bl w w' ∧ (ok = true → ∃ c, o < n ∧ c.length = o ∧ (∀ v ∈ c, okC v = true) ∧ intE.Is w' u c)
set_option maxRecDepth 100000 in
set_option maxHeartbeats 4000000 in
theorem q5Coefs_any (v : Value) (l : List Int) (o : Nat) (w : World) (h : intE.Is w v l) (ho : 1 ≤ o) (ho2 : o ≤ 12) (hx : chkM l = 0) :
    Calls Tryz.prog 63 #[v, .int .i64 o] w fun e w' => CoefP w w' l.length o e := by
  have HI := Lib.hid h
  obtain ⟨A, cp, rfl, g1, g2, g3, h4⟩ := h
  clear g1 g2 g3 h4
  have hl := (chk_ok hx).2
  have HX := Lib.hid hx
  go_enter Tryz.func63, Tryz.ntmps63
  have ho3 : ¬ (o : Int) < 1 := by omega
  have ho4 : ¬ (12 : Int) < o := by omega
  rcases (show (l.length : Int) ≤ o ∨ ¬ (l.length : Int) ≤ o by omega) with hle | hle
  · go_wp2
    go_ret2
    exact ⟨_, false, rfl, Bl.refl _, fun h => by cases h⟩
  go_wp2_with fail
  refine (q5Auto_any _ l o _ HI.out ho2 HX.out).mono ?_
  rintro e w1 ⟨u1, r1, rfl, hb1, hl1, hr1, h1⟩
  have HB1 := Lib.hid hb1
  have HR1 := Lib.hid hr1
  have H1 := Lib.hid h1
  clear hb1 hr1 h1
  go_wp2_with fail
  refine (q5Scaled_any _ r1 _ H1.out.is (by omega) (by omega) HR1.out).mono ?_
  rintro e w2 ⟨u2, r2, s2, rfl, hb2, hl2, h2⟩
  have HB2 := Lib.hid (HB1.out.trans hb2)
  obtain ⟨A2, c2, rfl⟩ := id h2.slice
  have H2 := Lib.hid h2
  have HI2 := Lib.hid h2.is
  clear hb2 h2
  obtain ⟨_, _, e1, _, _, _, hat⟩ := HI2.out
  simp only [Value.slice.injEq] at e1
  obtain ⟨rfl, -, -⟩ := e1
  have HA := Lib.hid hat
  obtain ⟨ad, rfl, z0⟩ := int_at hat 0 (by omega)
  clear hat
  generalize r2[0] = x0 at *
  have z1 : w2.cell? ad = some (.int .i64 x0) := z0
  have hnil : ¬ r2 = [] := by rintro rfl; simp at hl2; omega
  have hpos : 0 < r2.length := by omega
  have hwo : IntKind.i64.wrap ((o : Int) + 1) = o + 1 := IntWalk.i64_in _ (by omega)
  have hmk : ∀ w, (Instr.makeSlice 24 (.int .i64 ((o : Int) + 1)) (.int .i64 ((o : Int) + 1))).run Tryz.prog w = .ok (.slice (some ⟨w.heap.size, 0, none⟩) (o + 1) (o + 1)) (w.alloc (.cells (madeCells #[.int .i64 0] (o + 1)) 3)) := fun w => by
    have := run_make_row' (P := Tryz.prog) 24 3 (.int .i64 0) 8 Tryz.underlying24 infoIntX rfl .i64 .i64 (o + 1) (by omega) (by omega) w
    rw [Int.natCast_add] at this
    exact this
  go_wp2_with fail
  have HOa := Lib.hid (Enc.Own.lit (E := intE) (e := 3) w2 w2.heap.size (List.replicate (o + 1) 0) (madeCells #[.int .i64 0] (o + 1)) (by rw [toList_madeCells_one]; exact (rep_flat _).symm) (o + 1) (by simp) (Nat.le_refl _) (by unfold maxLen; omega) rfl)
  go_loopg [10, 12] o (fun gk ve vi wr => ∃ (i : Nat) (ev : Int) (xs : List Int), 1 ≤ i ∧ i ≤ o + 1 ∧ gk = o + 1 - i ∧ vi = .int .i64 i ∧ ve = .int .i64 ev ∧ xs.length = o + 1 ∧ Hid (intE.Own 3 wr w2.heap.size (.slice (some ⟨w2.heap.size, 0, none⟩) (o + 1) (o + 1)) xs) ∧ Hid (Bl w2 wr))
  case atStart => exact ⟨1, x0, List.replicate (o + 1) 0, by omega, by omega, by omega, rfl, rfl, by simp, HOa, Lib.hid ((Bl.refl _).alloc _)⟩
  clear HOa
  case round =>
    obtain ⟨i, ev, xs, hi1, hi2, hgk, rfl, rfl, hxl, HO, HW⟩ := hrel
    by_cases hlt : i < o + 1
    · have hlti : (i : Int) ≤ o := by omega
      rcases (show ev < 1 ∨ ¬ ev < 1 by omega) with hev | hev
      · go_wp2
        go_ret2
        exact ⟨_, false, rfl, HB2.out.trans HW.out, fun h => by cases h⟩
      obtain ⟨ad', e2, c0⟩ := int_at HA.out i (by omega)
      injection e2 with e2
      subst e2
      replace c0 := HW.out.cell c0
      generalize r2[i] = ri at *
      have hil : i < r2.length := by omega
      have hil2 : (i : Int) < (o : Int) + 1 := by omega
      go_wp2_with fail
      go_loopg [13, 14] (i - 1) (fun gk vk vj wr2 => ∃ (j : Nat) (kv : Int), 1 ≤ j ∧ j ≤ i ∧ gk = i - j ∧ vj = .int .i64 j ∧ vk = .int .i64 kv ∧ Hid (Bl wr wr2))
      case atStart => exact ⟨1, _, by omega, by omega, by omega, rfl, rfl, Lib.hid (Bl.refl _)⟩
      clear c0
      case round =>
        obtain ⟨j, kv, hj1, hj2, hgj, rfl, rfl, HV⟩ := hrel
        by_cases hjlt : j < i
        · have hji : (j : Int) < i := by omega
          obtain ⟨_, _, e3, _, _, _, hat⟩ := (HO.out.bl HV.out).is
          simp only [Value.slice.injEq] at e3
          obtain ⟨rfl, -, -⟩ := e3
          obtain ⟨ad3, e4, d0⟩ := int_at hat j (by omega)
          injection e4 with e4
          subst e4
          rw [add_zero_block] at d0
          clear hat
          obtain ⟨ad', e2, d2⟩ := int_at HA.out (i - j) (by omega)
          injection e2 with e2
          subst e2
          replace d2 := HV.out.cell (HW.out.cell d2)
          generalize xs[j] = x at *
          generalize r2[i - j] = y at *
          generalize hm : i - j = m at *
          have hw1 : IntKind.i64.wrap (m : Int) = m := IntWalk.i64_in _ (by omega)
          have hw3 : (i : Int) - j = m := by omega
          have hml : m < r2.length := by omega
          have hml2 : (m : Int) < (o : Int) + 1 := by omega
          have hjl : (j : Int) < (o : Int) + 1 := by omega
          clear hm
          go_wp2_with fail
          refine wp_region_ways (S := (fun w'' => w''.cell? ⟨w2.heap.size, j, none⟩ = some (.int .i64 x) ∧ w''.cell? (ad.add m) = some (.int .i64 y))) [0, 1, 2, 3, 4, 5, 6, 7, 8, 9, 10, 11, 12, 13] (y := .take 0 (.take 1 (.take 2 (.take 3 (.take 4 (.take 5 (.take 6 (.take 7 (.take 8 (.take 9 (.take 10 (.take 11 (.take 12 (.take 13 (.done))))))))))))))) (by kernel_rfl) (by kernel_rfl) (by kernel_rfl) ?_ (fun hHeld => ?_)
          · exact ⟨(Bl.refl _).drew.cell d0, (Bl.refl _).drew.cell d2⟩
          clear hHeld
          repeat (first | (refine wpWay_take rfl (by rfl) (by intro w hSw; (try dsimp only at hSw); first | (go_simp; done) | (go_simp; with_reducible rfl)) ?_; try simp only [Act.put, List.setIfInBounds_toArray, List.set_cons_zero, List.set_cons_succ]) | (refine wpWay_skip rfl (by rfl) ?_; try simp only [Act.put, List.setIfInBounds_toArray, List.set_cons_zero, List.set_cons_succ]))
          refine wpWay_done ?_
          go_wp2_with fail
          go_roundg (i - (j + 1))
          case measure => omega
          case rel => exact ⟨j + 1, _, by omega, by omega, rfl, by go_num, rfl, Lib.hid HV.out.drew⟩
        · obtain rfl : i = j := by omega
          go_wp2_with fail
          refine (q5down_w kv ev _ (by omega)).mono ?_
          rintro e w3 ⟨⟨q, rfl⟩, rfl⟩
          have HOv := Lib.hid (HO.out.bl HV.out)
          have HWv := Lib.hid (HW.out.trans HV.out)
          have hs1 : xs.length * 8 ≤ 140737488355328 := by omega
          go_wp2_with (at_builtin; refine Enc.Own.append (E := intE) rfl _ _ 24 rfl w3.heap.size 3 (.int .i64 0) 1 8 Tryz.underlying24 infoIntX rfl rfl (by decide) (by decide) (.slice none 0 0) [] rfl (Enc.Own.nil _ _ _) _ xs rfl HOv.out.is ?hlen (Nat.le_refl _) ?_; (case hlen => simp; omega); intro u5 w5 ho5 hg5)
          generalize min (max q (-4095)) 4095 = kq at *
          have HB5 := Lib.hid ((Bl.refl w3).grown hg5 (by simp [Value.ownBlock]))
          have HO5 := Lib.hid (show intE.Own 3 w5 w3.heap.size u5 xs by simpa using ho5)
          have HOa := Lib.hid (HOv.out.bl HB5.out)
          have HWa := Lib.hid (HWv.out.trans HB5.out)
          have hgl : w2.heap.size < w3.heap.size := (HOv.out.lt _ rfl).2
          clear ho5 hg5
          obtain ⟨A5, c5, rfl⟩ := HO5.out.slice
          have hx5 : ∃ g5, A5 = some ⟨g5, 0, none⟩ := by
            rcases HO5.out.parts with ⟨_, e2⟩ | ⟨g, c2, e, _⟩
            · exfalso; first | (rw [e2] at hxl; simp at hxl; done) | (simp at e2; rw [e2] at hxl; simp at hxl; done) | (rw [hxl] at e2; omega)
            · simp only [Value.slice.injEq] at e; exact ⟨g, e.1⟩
          obtain ⟨g5, rfl⟩ := hx5
          have hg5 := (HO5.out.lt _ rfl).1
          have HXL := Lib.hid hxl
          clear hxl
          go_loopg [17] (i - 1) (fun gk vj wr3 => ∃ (j : Nat) (ys : List Int), 1 ≤ j ∧ j ≤ i ∧ gk = i - j ∧ vj = .int .i64 j ∧ ys.length = o + 1 ∧ Hid (intE.Own 3 wr3 w2.heap.size (.slice (some ⟨w2.heap.size, 0, none⟩) (o + 1) (o + 1)) ys) ∧ Hid (intE.Own 3 wr3 w3.heap.size (.slice (some ⟨g5, 0, none⟩) xs.length c5) xs) ∧ Hid (Bl w2 wr3))
          case atStart => exact ⟨1, xs, by omega, by omega, by omega, rfl, HXL.out, HOa, HO5, HWa⟩
          case round =>
            obtain ⟨j, ys, hj1, hj2, hgj, rfl, hyl, HP, HQ, HZ⟩ := hrel
            by_cases hjlt : j < i
            · have hji : (j : Int) < i := by omega
              obtain ⟨_, _, _, _, _, _, hat⟩ := HQ.out.is
              have hq1 := (OwnBlk.of HP.out).cell j (by show j < (o + 1) * 1; omega)
              obtain ⟨⟨u0, hu0⟩, fr0⟩ := hq1
              have hj5 : j < xs.length := by have := HXL.out; omega
              have hm5 : i - j < xs.length := by have := HXL.out; omega
              have hex : ∀ W : World, intE.Own 3 W w3.heap.size (.slice (some ⟨g5, 0, none⟩) xs.length c5) xs → W.cell? ⟨g5, j, none⟩ = some (.int .i64 xs[j]) ∧ W.cell? ⟨g5, i - j, none⟩ = some (.int .i64 xs[i - j]) := fun W hW => by
                obtain ⟨_, _, e3, _, _, _, hat⟩ := hW.is
                simp only [Value.slice.injEq] at e3
                obtain ⟨rfl, -, -⟩ := e3
                obtain ⟨a1, e4, d0⟩ := int_at hat j hj5
                injection e4 with e4
                subst e4
                obtain ⟨a1, e4, d2⟩ := int_at hat (i - j) hm5
                injection e4 with e4
                subst e4
                rw [add_zero_block] at d0 d2
                exact ⟨d0, d2⟩
              clear hat
              generalize xs[j] = x at *
              generalize xs[i - j] = y at *
              generalize hm : i - j = m at *
              have HEX := Lib.hid hex
              obtain ⟨d0, d2⟩ := hex _ HQ.out
              have hw1 : IntKind.i64.wrap (m : Int) = m := IntWalk.i64_in _ (by omega)
              have hw3 : (i : Int) - j = m := by omega
              have hjx : (j : Int) < xs.length := by omega
              have hmx : (m : Int) < xs.length := by omega
              have hjo : (j : Int) < (o : Int) + 1 := by omega
              have hmo : (m : Int) < (o : Int) + 1 := by omega
              have hmo2 : m < o + 1 := by omega
              have hjo2 : j < o + 1 := by omega
              have hmo3 : (m : Int) < ((o + 1 : Nat) : Int) := by omega
              have hjo3 : (j : Int) < ((o + 1 : Nat) : Int) := by omega
              clear hm hex fr0 hu0
              go_wp2_with fail
              refine wp_region_ways (S := (fun w'' => w''.cell? ⟨g5, j, none⟩ = some (.int .i64 x) ∧ w''.cell? ⟨g5, m, none⟩ = some (.int .i64 y))) [0, 1, 2, 3, 4, 5, 6, 7, 8, 9, 10, 11, 12, 13, 15, 16] (y := .take 0 (.take 1 (.take 2 (.take 3 (.take 4 (.take 5 (.take 6 (.take 7 (.take 8 (.take 9 (.take 10 (.take 11 (.take 12 (.take 13 (.ev 14 (.take 15 (.take 16 (.ev 17 (.done) (.stop)))) (.stop)))))))))))))))) (by kernel_rfl) (by kernel_rfl) (by kernel_rfl) ?_ (fun hHeld => ?_)
              · exact ⟨(Bl.refl _).drew.cell d0, (Bl.refl _).drew.cell d2⟩
              have HHe := Lib.hid hHeld
              clear hHeld
              have HPd := Lib.hid (HP.out.bl (Bl.refl _).drew)
              have HQd := Lib.hid (HQ.out.bl (Bl.refl _).drew)
              obtain ⟨⟨u0, hu0⟩, fr0⟩ := (OwnBlk.of HPd.out).cell j (by show j < (o + 1) * 1; omega)
              repeat (first | (refine wpWay_take rfl (by rfl) (by intro w hSw; (try dsimp only at hSw); first | (go_simp; done) | (go_simp; with_reducible rfl)) ?_; try simp only [Act.put, List.setIfInBounds_toArray, List.set_cons_zero, List.set_cons_succ]) | (refine wpWay_skip rfl (by rfl) ?_; try simp only [Act.put, List.setIfInBounds_toArray, List.set_cons_zero, List.set_cons_succ]))
              refine wpWay_ev rfl (fun K hK => ?_) wpWay_stop
              go_wp2_with fail
              refine (q5down_w _ 4096 _ (by decide)).mono ?_
              rintro e w4 ⟨⟨qd, rfl⟩, rfl⟩
              go_wp2_with fail
              refine ⟨HHe.out, ?_⟩
              repeat (first | (refine wpWay_take rfl (by rfl) (by intro w hSw; (try dsimp only at hSw); first | (go_simp; done) | (go_simp; with_reducible rfl)) ?_; try simp only [Act.put, List.setIfInBounds_toArray, List.set_cons_zero, List.set_cons_succ]) | (refine wpWay_skip rfl (by rfl) ?_; try simp only [Act.put, List.setIfInBounds_toArray, List.set_cons_zero, List.set_cons_succ]))
              refine wpWay_ev rfl (fun K hK => ?_) wpWay_stop
              go_wp2_with fail
              generalize wrap64 (x - qd) = V at *
              have hne : (Value.slice (some ⟨g5, 0, none⟩) xs.length c5).ownBlock ≠ some w2.heap.size := by intro e; simp [Value.ownBlock] at e; omega
              have HQs := Lib.hid ((HQ.out.grown (setCell_grown wr w2.heap.size j (.int .i64 V)) (.inr hne)).bl (Bl.refl _).drew)
              have HPs := Lib.hid ((int_put HP.out j V (by omega)).bl (Bl.refl _).drew)
              have HZs := Lib.hid ((HZ.out.set w2.heap.size j (.int .i64 V) (Nat.le_refl _)).drew)
              refine ⟨HEX.out _ HQs.out, ?_⟩
              repeat (first | (refine wpWay_take rfl (by rfl) (by intro w hSw; (try dsimp only at hSw); first | (go_simp; done) | (go_simp; with_reducible rfl)) ?_; try simp only [Act.put, List.setIfInBounds_toArray, List.set_cons_zero, List.set_cons_succ]) | (refine wpWay_skip rfl (by rfl) ?_; try simp only [Act.put, List.setIfInBounds_toArray, List.set_cons_zero, List.set_cons_succ]))
              refine wpWay_done ?_
              go_wp2_with fail
              go_roundg (i - (j + 1))
              case measure => omega
              case rel => exact ⟨j + 1, ys.set j V, by omega, by omega, rfl, by go_num, by simp [hyl], HPs, HQs, HZs⟩
            · obtain rfl : i = j := by omega
              obtain ⟨⟨u0, hu0⟩, fr0⟩ := (OwnBlk.of HP.out).cell i (by show i < (o + 1) * 1; omega)
              go_wp2_with fail
              refine (q5down_w _ 4096 _ (by decide)).mono ?_
              rintro e w4 ⟨⟨qd, rfl⟩, hw4⟩
              go_wp2_with fail
              refine (q5down_w _ 4096 _ (by decide)).mono ?_
              rintro e w5 ⟨⟨qe, rfl⟩, hw5⟩
              subst hw5
              subst hw4
              go_wp2_with fail
              go_roundg (o + 1 - (i + 1))
              case measure => omega
              case rel => exact ⟨i + 1, _, ys.set i kq, by omega, by omega, rfl, by go_num, rfl, by simp [hyl], Lib.hid (int_put HP.out i kq (by omega)), Lib.hid (HZ.out.set w2.heap.size i (.int .i64 kq) (Nat.le_refl _))⟩
    · obtain rfl : i = o + 1 := by omega
      have hnle : ¬ ((o + 1 : Nat) : Int) ≤ o := by omega
      have HIx := Lib.hid (show intE.Is wr (.slice (some ⟨w2.heap.size, 0, none⟩) xs.length (o + 1)) xs by rw [hxl]; exact HO.out.is)
      obtain ⟨V2, hV2, hI2⟩ := slice_l (E := intE) (P := Tryz.prog) (t := 24) (by kernel_rfl) (fun w => by kernel_rfl) (some ⟨w2.heap.size, 0, none⟩) (o + 1) xs 1 (by omega) (by omega)
      rw [hxl] at hV2
      have HV := Lib.hid (show intE.Is wr V2 (xs.drop 1) from hI2 _ HIx.out)
      have hdl : (xs.drop 1).length = o := by rw [List.length_drop]; omega
      clear hI2
      obtain ⟨ys, hys⟩ : ∃ ys, ys = xs.drop 1 := ⟨_, rfl⟩
      rw [← hys] at HV hdl
      clear hys
      go_wp2_with fail
      refine (q5MayCoefs_any _ ys _ HV.out (by omega)).mono ?_
      rintro e w4 ⟨rfl, rfl⟩
      cases hm : mayC ys
      · go_wp2
        go_ret2
        exact ⟨_, false, rfl, HB2.out.trans HW.out, fun h => by cases h⟩
      · go_wp2
        go_ret2
        refine ⟨_, true, rfl, HB2.out.trans HW.out, fun _ => ⟨ys, by omega, hdl, ?_, HV.out⟩⟩
        unfold mayC at hm
        rw [Bool.and_eq_true, List.all_eq_true] at hm
        exact hm.1
end Go.Proofs.YtoocebghlchcoaaGreat.ExtW
