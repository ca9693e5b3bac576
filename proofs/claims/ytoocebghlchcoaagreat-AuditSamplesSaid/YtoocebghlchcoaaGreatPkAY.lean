/- Several texts joined (see each one's head). -/
import Derived.Test.YtoocebghlchcoaaGreatPkAX
import Derived.Test.YtoocebghlchcoaaGreatPkAW
import Derived.Test.YtoocebghlchcoaaGreatPkAI
import Derived.Test.YtoocebghlchcoaaGreatPkAN
/- Contracts of the document's own predictors (overdubref05): Restore, LpcRestore. -/
namespace Go.Proofs.YtoocebghlchcoaaGreat.ExtW
open Go.RowKit Go.Ov Go.Proofs.YtoocebghlchcoaaGreat.Need
set_option maxRecDepth 100000 in
set_option maxHeartbeats 2000000 in
theorem q5Restore_any (v u : Value) (warm res : List Int) (w : World) (h : intE.Is w v warm) (hr : intE.Is w u res) (h4 : warm.length ≤ 4) (hn : warm.length + res.length ≤ 64) (ho : ∀ x ∈ warm, okS x = true) :
    Calls Tryz.prog 80 #[v, u] w fun e w' => RunP w w' (runO (gSum (fixC warm.length)) warm res) e ∧ Bl w w' := by
  have HI := Lib.hid h
  obtain ⟨A, cp, rfl⟩ : ∃ A cp, v = .slice A warm.length cp := by obtain ⟨A, c, e, _⟩ := h; exact ⟨A, c, e⟩
  obtain ⟨A2, c2, rfl, h1, h2, h3, h5⟩ := hr
  have HR := Lib.hid h5
  clear h h1 h2 h3 h5
  have hchk : chkM warm = 0 := by unfold chkM; rw [if_pos (List.all_eq_true.2 ho), if_neg (by omega)]
  clear ho
  obtain ⟨m, hm⟩ : ∃ m, m = warm.length := ⟨_, rfl⟩
  have HG := Lib.hid (fun (w' : World) (v : Value) (past : List Int) (_ : Bl w w') (hi : intE.Is w' v past) (h1 : m ≤ past.length) (h2 : past.length ≤ 1000) => q5told_any v past m w' hi (by omega) (by omega) h1)
  have HMm := Lib.hid hm
  rw [← hm]
  generalize gSum (fixC m) = g at *
  subst hm
  obtain ⟨o, hO⟩ : ∃ o, o = runO g warm res := ⟨_, rfl⟩
  rw [← hO]
  have HO := Lib.hid hO
  have hi4 : ¬ (4 : Int) < warm.length := by omega
  clear hO
  go_enter Tryz.func80, Tryz.ntmps80
  go_wp2_with fail
  refine (q5May_any _ warm _ HI.out (by omega)).mono ?_
  rintro e w ⟨rfl, rfl⟩
  rw [hchk]
  go_wp2_with (at_builtin; refine Enc.Own.append (E := intE) rfl _ _ 24 rfl w.heap.size 3 (.int .i64 0) 1 8 Tryz.underlying24 infoIntF rfl rfl (by decide) (by decide) (.slice none 0 0) [] rfl (Enc.Own.nil _ _ _) _ warm rfl HI.out (by simp; omega) (Nat.le_refl _) ?_; intro u1 w1 ho1 hg1)
  have HB1 := Lib.hid (show Bl w w1 from (Bl.refl w).grown hg1 (by simp [Value.ownBlock]))
  have HO1 := Lib.hid (show intE.Own 3 w1 w.heap.size u1 warm by simpa using ho1)
  clear ho1 hg1
  go_loopg [7, 22] res.length (fun gk s i wr => ∃ (k : Nat) (x : List Int), k ≤ res.length ∧ gk = res.length - k ∧ i = .int .i64 k ∧ Hid (x.length = warm.length + k) ∧ Hid (intE.Own 3 wr w.heap.size s x) ∧ Hid (runO g warm (res.take k) = some x) ∧ Hid (Bl w wr))
  case atStart => exact ⟨0, warm, by omega, rfl, rfl, Lib.hid rfl, HO1, Lib.hid rfl, HB1⟩
  case round =>
    obtain ⟨k, x, hk, hgk, rfl, HL, HX, HRn, HB⟩ := hrel
    by_cases hkn : k < res.length
    · have hki : (k : Int) < res.length := by omega
      obtain ⟨ad, rfl, c0⟩ := int_at HR.out k hkn
      replace c0 := HB.out.cell c0
      obtain ⟨A3, c3, rfl⟩ := HX.out.slice
      have HT := Lib.hid (show runO g warm (res.take (k + 1)) = _ by rw [List.take_succ_eq_append_getElem hkn, runO_snoc, HRn.out, Option.bind_some])
      have HD := Lib.hid (List.take_append_drop (k + 1) res)
      obtain ⟨r, hr⟩ : ∃ r, r = res[k] := ⟨_, rfl⟩
      rw [← hr] at c0
      rw [← hr] at HT
      clear hr
      have hno : (r < -1099511627776 ∨ 1099511627776 < r) ∨ (¬ (r < -1099511627776 ∨ 1099511627776 < r) ∧ okS (wrap64 (g x + r)) = false) → o = none := fun h => by
        rw [HO.out, ← HD.out]
        refine runO_none g _ _ _ ?_
        rw [HT.out]
        rcases h with h | ⟨h, h2⟩
        · rw [if_pos h]
        · rw [if_neg h, h2]; rfl
      have HN := Lib.hid hno
      clear hno
      rcases (show r < -1099511627776 ∨ (¬ r < -1099511627776 ∧ 1099511627776 < r) ∨ (¬ r < -1099511627776 ∧ ¬ 1099511627776 < r) by omega) with h | ⟨h, h2⟩ | ⟨h, h2⟩
      · have e := HN.out (.inl (.inl h))
        subst e
        go_wp2
        go_ret2
        exact ⟨rfl, HB.out⟩
      · have e := HN.out (.inl (.inr h2))
        subst e
        go_wp2
        go_ret2
        exact ⟨rfl, HB.out⟩
      · have HGL := Lib.hid (fun w' (hb : Bl w w') (hi : intE.Is w' (.slice A3 x.length c3) x) => HG.out w' _ x hb hi (by have := HL.out; omega) (by have := HL.out; omega))
        have HT2 := Lib.hid (HT.out.trans (if_neg (by omega)))
        have HN2 := Lib.hid (fun h3 => HN.out (.inr ⟨by omega, h3⟩))
        clear HN HT
        obtain ⟨y, hy⟩ : ∃ y, y = wrap64 (g x + r) := ⟨_, rfl⟩
        rw [← hy] at HT2 HN2
        have hw1 : IntKind.i64.wrap (g x + r) = y := by rw [hy, IntKind.wrap_i64]; unfold wrap64; rfl
        clear hy
        go_wp2_with fail
        refine wp_region_ways (S := (fun w'' => w''.cell? (ad.add k) = some (.int .i64 r))) [0, 1, 2, 4, 5, 6, 7, 8, 9] (y := .take 0 (.take 1 (.take 2 (.take 4 (.take 5 (.take 6 (.take 7 (.ev 3 (.take 8 (.take 9 (.done))) (.stop))))))))) (by kernel_rfl) (by kernel_rfl) (by kernel_rfl) ?_ (fun hHeld => ?_)
        · exact (Bl.refl _).drew.cell c0
        have HHe := Lib.hid hHeld
        clear hHeld
        repeat (first | (refine wpWay_take rfl (by rfl) (by intro w hSw; (try dsimp only at hSw); first | (go_simp; done) | (go_simp; with_reducible rfl)) ?_; try simp only [Act.put, List.setIfInBounds_toArray, List.set_cons_zero, List.set_cons_succ]) | (refine wpWay_skip rfl (by rfl) ?_; try simp only [Act.put, List.setIfInBounds_toArray, List.set_cons_zero, List.set_cons_succ]))
        refine wpWay_ev rfl (fun K hK => ?_) wpWay_stop
        go_wp2_with fail
        refine (HGL.out _ HB.out.drew (HX.out.is.bl (Bl.refl _).drew)).mono ?_
        rintro e w3 ⟨rfl, hb3⟩
        have HB3 := Lib.hid (HB.out.drew.trans hb3)
        have HX3 := Lib.hid ((HX.out.bl (Bl.refl _).drew).bl hb3)
        have d0 := hb3.cell ((Bl.refl _).drew.cell c0)
        clear hb3
        go_wp2_with fail
        refine ⟨d0, ?_⟩
        repeat (first | (refine wpWay_take rfl (by rfl) (by intro w hSw; (try dsimp only at hSw); first | (go_simp; done) | (go_simp; with_reducible rfl)) ?_; try simp only [Act.put, List.setIfInBounds_toArray, List.set_cons_zero, List.set_cons_succ]) | (refine wpWay_skip rfl (by rfl) ?_; try simp only [Act.put, List.setIfInBounds_toArray, List.set_cons_zero, List.set_cons_succ]))
        refine wpWay_done ?_
        clear c0
        by_cases hz : okS y = true
        · have HT3 := Lib.hid (HT2.out.trans (if_pos hz))
          unfold okS at hz
          simp only [Bool.and_eq_true, decide_eq_true_eq] at hz
          have hy1 : ¬ y < -8388608 := by omega
          have hy2 : ¬ 8388607 < y := by omega
          clear HT2 HN2 hz
          go_wp2_with (at_builtin; refine Enc.Own.append1 (E := intE) rfl (.tmp 52) (.tmp 54) 24 rfl w.heap.size 3 (.int .i64 0) 1 8 Tryz.underlying24 infoIntF rfl rfl (by decide) (by decide) _ x rfl HX3.out y _ rfl rfl rfl (by have := HL.out; omega) HB3.out.size ?_; intro u2 w5 ho hg)
          have HX5 := Lib.hid ho
          have HB5 := Lib.hid ((HB3.out.alloc _).grown hg (fun k hk => (HX3.out.lt k hk).1))
          clear ho hg
          go_roundg (res.length - (k + 1))
          case measure => omega
          case rel => exact ⟨k + 1, x ++ [y], by omega, rfl, by go_num, Lib.hid (by rw [List.length_append, HL.out]; rfl), HX5, HT3, HB5⟩
        · have hz2 : okS y = false := by simpa using hz
          have e := HN2.out hz2
          subst e
          unfold okS at hz
          simp only [Bool.and_eq_true, decide_eq_true_eq] at hz
          rcases (show y < -8388608 ∨ (¬ y < -8388608 ∧ 8388607 < y) by omega) with h1 | ⟨h1, h2⟩
          · clear hz2 hz HN2 HT2
            go_wp2
            go_ret2
            exact ⟨rfl, HB3.out⟩
          · clear hz2 hz HN2 HT2
            go_wp2
            go_ret2
            exact ⟨rfl, HB3.out⟩
    · obtain rfl : k = res.length := by omega
      obtain ⟨A3, c3, rfl⟩ := HX.out.slice
      have e : o = some x := by rw [HO.out, ← HRn.out, List.take_of_length_le (Nat.le_refl _)]
      subst e
      have h64 : ¬ (64 : Int) < x.length := by have := HL.out; omega
      go_wp2
      go_ret2
      exact ⟨⟨_, rfl, HX.out⟩, HB.out⟩
set_option maxRecDepth 100000 in
set_option maxHeartbeats 2000000 in
theorem q5LpcRestore_any (v u uc : Value) (warm res c : List Int) (w : World) (h : intE.Is w v warm) (hr : intE.Is w u res) (hc : intE.Is w uc c) (hmay : mayC c = true) (hl : warm.length = c.length) (hn : warm.length + res.length ≤ 64) (ho : ∀ x ∈ warm, okS x = true) :
    Calls Tryz.prog 81 #[v, u, uc] w fun e w' => RunP w w' (runO (gLpc c) warm res) e ∧ Bl w w' := by
  have HI := Lib.hid h
  have HCc := Lib.hid hc
  obtain ⟨A, cp, rfl⟩ : ∃ A cp, v = .slice A warm.length cp := by obtain ⟨A, c, e, _⟩ := h; exact ⟨A, c, e⟩
  obtain ⟨Ac, cc, rfl⟩ : ∃ A cp, uc = .slice A warm.length cp := by obtain ⟨A, c', e, _⟩ := hc; exact ⟨A, c', by rw [hl]; exact e⟩
  obtain ⟨A2, c2, rfl, h1, h2, h3, h5⟩ := hr
  have HR := Lib.hid h5
  have hchk : chkM warm = 0 := by unfold chkM; rw [if_pos (List.all_eq_true.2 ho), if_neg (by omega)]
  have HG := Lib.hid (fun (w' : World) (v : Value) (past : List Int) (hb : Bl w w') (hi : intE.Is w' v past) (h1 : warm.length ≤ past.length) (h2 : past.length ≤ 1000) => q5Guess_any v _ past c w' hi (hc.bl hb) (by omega) (by omega) hmay)
  have HMy := Lib.hid hmay
  clear h hc h1 h2 h3 h5 ho
  have hcl := Lib.hid hl
  generalize gLpc c = g at *
  obtain ⟨o, hO⟩ : ∃ o, o = runO g warm res := ⟨_, rfl⟩
  rw [← hO]
  have HO := Lib.hid hO
  clear hO hmay hl
  go_enter Tryz.func81, Tryz.ntmps81
  go_wp2_with fail
  refine (q5MayCoefs_any _ c _ HCc.out (by have := hcl.out; omega)).mono ?_
  rintro e w ⟨rfl, rfl⟩
  rw [HMy.out]
  go_wp2_with fail
  refine (q5May_any _ warm _ HI.out (by omega)).mono ?_
  rintro e w ⟨rfl, rfl⟩
  rw [hchk]
  go_wp2_with (at_builtin; refine Enc.Own.append (E := intE) rfl _ _ 24 rfl w.heap.size 3 (.int .i64 0) 1 8 Tryz.underlying24 infoIntF rfl rfl (by decide) (by decide) (.slice none 0 0) [] rfl (Enc.Own.nil _ _ _) _ warm rfl HI.out (by simp; omega) (Nat.le_refl _) ?_; intro u1 w1 ho1 hg1)
  have HB1 := Lib.hid (show Bl w w1 from (Bl.refl w).grown hg1 (by simp [Value.ownBlock]))
  have HO1 := Lib.hid (show intE.Own 3 w1 w.heap.size u1 warm by simpa using ho1)
  clear ho1 hg1
  go_loopg [9, 31] res.length (fun gk s i wr => ∃ (k : Nat) (x : List Int), k ≤ res.length ∧ gk = res.length - k ∧ i = .int .i64 k ∧ Hid (x.length = warm.length + k) ∧ Hid (intE.Own 3 wr w.heap.size s x) ∧ Hid (runO g warm (res.take k) = some x) ∧ Hid (Bl w wr))
  case atStart => exact ⟨0, warm, by omega, rfl, rfl, Lib.hid rfl, HO1, Lib.hid rfl, HB1⟩
  case round =>
    obtain ⟨k, x, hk, hgk, rfl, HL, HX, HRn, HB⟩ := hrel
    by_cases hkn : k < res.length
    · have hki : (k : Int) < res.length := by omega
      obtain ⟨ad, rfl, c0⟩ := int_at HR.out k hkn
      replace c0 := HB.out.cell c0
      obtain ⟨A3, c3, rfl⟩ := HX.out.slice
      have HT := Lib.hid (show runO g warm (res.take (k + 1)) = _ by rw [List.take_succ_eq_append_getElem hkn, runO_snoc, HRn.out, Option.bind_some])
      have HD := Lib.hid (List.take_append_drop (k + 1) res)
      obtain ⟨r, hr⟩ : ∃ r, r = res[k] := ⟨_, rfl⟩
      rw [← hr] at c0
      rw [← hr] at HT
      clear hr
      have hno : (r < -1099511627776 ∨ 1099511627776 < r) ∨ (¬ (r < -1099511627776 ∨ 1099511627776 < r) ∧ okS (wrap64 (g x + r)) = false) → o = none := fun h => by
        rw [HO.out, ← HD.out]
        refine runO_none g _ _ _ ?_
        rw [HT.out]
        rcases h with h | ⟨h, h2⟩
        · rw [if_pos h]
        · rw [if_neg h, h2]; rfl
      have HN := Lib.hid hno
      clear hno
      rcases (show r < -1099511627776 ∨ (¬ r < -1099511627776 ∧ 1099511627776 < r) ∨ (¬ r < -1099511627776 ∧ ¬ 1099511627776 < r) by omega) with h | ⟨h, h2⟩ | ⟨h, h2⟩
      · have e := HN.out (.inl (.inl h))
        subst e
        go_wp2
        go_ret2
        exact ⟨rfl, HB.out⟩
      · have e := HN.out (.inl (.inr h2))
        subst e
        go_wp2
        go_ret2
        exact ⟨rfl, HB.out⟩
      · have HGL := Lib.hid (fun w' (hb : Bl w w') (hi : intE.Is w' (.slice A3 x.length c3) x) => HG.out w' _ x hb hi (by have := HL.out; omega) (by have := HL.out; omega))
        have HT2 := Lib.hid (HT.out.trans (if_neg (by omega)))
        have HN2 := Lib.hid (fun h3 => HN.out (.inr ⟨by omega, h3⟩))
        clear HN HT
        obtain ⟨y, hy⟩ : ∃ y, y = wrap64 (g x + r) := ⟨_, rfl⟩
        rw [← hy] at HT2 HN2
        have hw1 : IntKind.i64.wrap (g x + r) = y := by rw [hy, IntKind.wrap_i64]; unfold wrap64; rfl
        clear hy
        go_wp2_with fail
        refine wp_region_ways (S := (fun w'' => w''.cell? (ad.add k) = some (.int .i64 r))) [0, 1, 3, 4, 5, 6, 7, 8] (y := .take 0 (.take 1 (.take 3 (.take 4 (.take 5 (.take 6 (.ev 2 (.take 7 (.take 8 (.done))) (.stop)))))))) (by kernel_rfl) (by kernel_rfl) (by kernel_rfl) ?_ (fun hHeld => ?_)
        · exact (Bl.refl _).drew.cell c0
        have HHe := Lib.hid hHeld
        clear hHeld
        repeat (first | (refine wpWay_take rfl (by rfl) (by intro w hSw; (try dsimp only at hSw); first | (go_simp; done) | (go_simp; with_reducible rfl)) ?_; try simp only [Act.put, List.setIfInBounds_toArray, List.set_cons_zero, List.set_cons_succ]) | (refine wpWay_skip rfl (by rfl) ?_; try simp only [Act.put, List.setIfInBounds_toArray, List.set_cons_zero, List.set_cons_succ]))
        refine wpWay_ev rfl (fun K hK => ?_) wpWay_stop
        go_wp2_with fail
        refine (HGL.out _ HB.out.drew (HX.out.is.bl (Bl.refl _).drew)).mono ?_
        rintro e w3 ⟨rfl, hb3⟩
        have HB3 := Lib.hid (HB.out.drew.trans hb3)
        have HX3 := Lib.hid ((HX.out.bl (Bl.refl _).drew).bl hb3)
        have d0 := hb3.cell ((Bl.refl _).drew.cell c0)
        clear hb3
        go_wp2_with fail
        refine ⟨d0, ?_⟩
        repeat (first | (refine wpWay_take rfl (by rfl) (by intro w hSw; (try dsimp only at hSw); first | (go_simp; done) | (go_simp; with_reducible rfl)) ?_; try simp only [Act.put, List.setIfInBounds_toArray, List.set_cons_zero, List.set_cons_succ]) | (refine wpWay_skip rfl (by rfl) ?_; try simp only [Act.put, List.setIfInBounds_toArray, List.set_cons_zero, List.set_cons_succ]))
        refine wpWay_done ?_
        clear c0
        by_cases hz : okS y = true
        · have HT3 := Lib.hid (HT2.out.trans (if_pos hz))
          unfold okS at hz
          simp only [Bool.and_eq_true, decide_eq_true_eq] at hz
          have hy1 : ¬ y < -8388608 := by omega
          have hy2 : ¬ 8388607 < y := by omega
          clear HT2 HN2 hz
          go_wp2_with (at_builtin; refine Enc.Own.append1 (E := intE) rfl (.tmp 60) (.tmp 62) 24 rfl w.heap.size 3 (.int .i64 0) 1 8 Tryz.underlying24 infoIntF rfl rfl (by decide) (by decide) _ x rfl HX3.out y _ rfl rfl rfl (by have := HL.out; omega) HB3.out.size ?_; intro u2 w5 ho hg)
          have HX5 := Lib.hid ho
          have HB5 := Lib.hid ((HB3.out.alloc _).grown hg (fun k hk => (HX3.out.lt k hk).1))
          clear ho hg
          go_roundg (res.length - (k + 1))
          case measure => omega
          case rel => exact ⟨k + 1, x ++ [y], by omega, rfl, by go_num, Lib.hid (by rw [List.length_append, HL.out]; rfl), HX5, HT3, HB5⟩
        · have hz2 : okS y = false := by simpa using hz
          have e := HN2.out hz2
          subst e
          unfold okS at hz
          simp only [Bool.and_eq_true, decide_eq_true_eq] at hz
          rcases (show y < -8388608 ∨ (¬ y < -8388608 ∧ 8388607 < y) by omega) with h1 | ⟨h1, h2⟩
          · clear hz2 hz HN2 HT2
            go_wp2
            go_ret2
            exact ⟨rfl, HB3.out⟩
          · clear hz2 hz HN2 HT2
            go_wp2
            go_ret2
            exact ⟨rfl, HB3.out⟩
    · obtain rfl : k = res.length := by omega
      obtain ⟨A3, c3, rfl⟩ := HX.out.slice
      have e : o = some x := by rw [HO.out, ← HRn.out, List.take_of_length_le (Nat.le_refl _)]
      subst e
      have h64 : ¬ (64 : Int) < x.length := by have := HL.out; omega
      go_wp2
      go_ret2
      exact ⟨⟨_, rfl, HX.out⟩, HB.out⟩
end Go.Proofs.YtoocebghlchcoaaGreat.ExtW

/- Contract of the document's own digits of bytes (overdubref01.Of). -/
namespace Go.Proofs.YtoocebghlchcoaaGreat.ExtW
open Go.RowKit Go.Ov Go.Proofs.YtoocebghlchcoaaGreat.Need
theorem and_u8 : ∀ y : Fin 256, bits .and .u8 (y.1 : Int) 1 = ((y.1 % 2 : Nat) : Int) := by decide +kernel
theorem unpack_take (l : List Int) (i : Nat) (h : i < 8 * l.length) : (unpackB l).take (i + 1) = (unpackB l).take i ++ [digitAt l i] := by
  have hj : i < (unpackB l).length := by rw [unpackB_len]; exact h
  rw [List.take_succ_eq_append_getElem hj]
  have : (unpackB l)[i] = digitAt l i := by simp [unpackB]
  rw [this]
theorem digit_u8 (l : List Int) (j k : Nat) (hj : j < l.length) (hk : k < 8) (hx : 0 ≤ l[j] ∧ l[j] < 256) : bits .and .u8 (l[j] / 2 ^ k) 1 = (bv (digitAt l (8 * j + (7 - k))) : Nat) := by
  have e : digitAt l (8 * j + (7 - k)) = decide (l[j] / 2 ^ k % 2 = 1) := by
    unfold digitAt
    rw [show (8 * j + (7 - k)) / 8 = j by omega, show 7 - (8 * j + (7 - k)) % 8 = k by omega, List.getD_eq_getElem?_getD, List.getElem?_eq_getElem hj]
    rfl
  rw [e]
  have hy : 0 ≤ l[j] / 2 ^ k := Int.ediv_nonneg hx.1 (Int.pow_nonneg (by decide))
  have hy2 : l[j] / 2 ^ k ≤ l[j] := Int.ediv_le_self _ hx.1
  obtain ⟨n, hn⟩ := Int.eq_ofNat_of_zero_le hy
  have := and_u8 ⟨n, by omega⟩
  simp only at this
  rw [hn, this]
  rcases (show n % 2 = 0 ∨ n % 2 = 1 by omega) with h | h
  · rw [h, decide_eq_false (by omega)]; rfl
  · rw [h, decide_eq_true (by omega)]; rfl
set_option maxHeartbeats 1000000 in
theorem q1Of_any (v : Value) (l : List Int) (w : World) (h : byteE.Is w v l) (hl : l.length ≤ 10000) (ho : okB l) :
    Calls Tryz.prog 76 #[v] w fun e w' => ∃ u, e = .returned u ∧ bitE.Own 5 w' w.heap.size u (unpackB l) ∧ Bl w w' := by
  obtain ⟨A, c, rfl, h1, h2, h3, h4⟩ := h
  have HA := Lib.hid h4
  have HO := Lib.hid ho
  clear h1 h2 h3 h4 ho
  go_enter Tryz.func76, Tryz.ntmps76
  go_wp2_with fail
  go_loopg [3, 8] l.length (fun gk u i wr => ∃ (j : Nat), j ≤ l.length ∧ gk = l.length - j ∧ i = .int .i64 j ∧ Hid (bitE.Own 5 wr w.heap.size u ((unpackB l).take (8 * j))) ∧ Hid (Bl w wr))
  case atStart => exact ⟨0, by omega, rfl, rfl, Lib.hid (by rw [Nat.mul_zero, List.take_zero]; exact Enc.Own.nil _ _ _), Lib.hid (Bl.refl _)⟩
  case round =>
    obtain ⟨j, hj, hgj, rfl, HU, HB⟩ := hrel
    by_cases hjn : j < l.length
    · have hji : (j : Int) < l.length := by omega
      obtain ⟨ad, rfl, c0⟩ := byte_at HA.out j hjn
      have hx := HO.out _ (List.getElem_mem hjn)
      go_wp2_with fail
      go_loopg [3, 5] 8 (fun gk u i wr2 => ∃ (t : Nat), t ≤ 8 ∧ gk = t ∧ i = .int .i64 ((t : Int) - 1) ∧ Hid (bitE.Own 5 wr2 w.heap.size u ((unpackB l).take (8 * j + (8 - t)))) ∧ Hid (Bl w wr2))
      case atStart => exact ⟨8, by omega, rfl, rfl, HU, HB⟩
      case round =>
        obtain ⟨t, ht, hgt, rfl, HV, HC⟩ := hrel
        cases t with
        | zero =>
          have hneg : ¬ (0 : Int) ≤ ((0 : Nat) : Int) - 1 := by omega
          go_wp2
          go_roundg (l.length - (j + 1))
          case measure => omega
          case rel => exact ⟨j + 1, by omega, rfl, by go_num, HV, HC⟩
        | succ k =>
          rw [show (((k + 1 : Nat) : Int) - 1) = (k : Int) by omega]
          have hk0 : (0 : Int) ≤ k := by omega
          replace c0 := HC.out.cell c0
          have HD := Lib.hid (digit_u8 l j k hjn (by omega) hx)
          have HT := Lib.hid (show (unpackB l).take (8 * j + (8 - k)) = (unpackB l).take (8 * j + (8 - (k + 1))) ++ [digitAt l (8 * j + (7 - k))] by
            rw [show 8 * j + (8 - k) = (8 * j + (8 - (k + 1))) + 1 by omega, unpack_take l _ (by omega), show 8 * j + (8 - (k + 1)) = 8 * j + (7 - k) by omega])
          have HLn := Lib.hid (show ((unpackB l).take (8 * j + (8 - (k + 1)))).length ≤ 80000 by rw [List.length_take, unpackB_len]; omega)
          generalize (unpackB l).take (8 * j + (8 - (k + 1))) = xs at *
          generalize digitAt l (8 * j + (7 - k)) = d at *
          generalize l[j] = x at *
          have hwk : IntKind.u64.wrap (k : Int) = k := by simp [IntKind.wrap, IntKind.bits, IntKind.signed]; omega
          have hbv : bits .and .u8 (x / 2 ^ k) 1 = (bv d : Nat) := HD.out
          have hwk2 : IntKind.i64.wrap ((k : Int) - 1) = (k : Int) - 1 := IntWalk.i64_in _ (by omega)
          go_wp2_with (at_builtin; refine Enc.Own.append1 (E := bitE) rfl (.tmp 15) (.tmp 24) 94 rfl w.heap.size 5 (.int .u8 0) 1 1 Tryz.underlying94 infoByte rfl rfl (by decide) (by decide) _ xs rfl HV.out d _ (by simp [bitE]) rfl rfl (by have := HLn.out; omega) HC.out.size ?_; intro u2 w2 ho hg)
          have HV2 := Lib.hid ho
          have HC2 := Lib.hid ((HC.out.alloc _).grown hg (fun g e => (HV.out.lt g e).1))
          clear ho hg
          go_roundg k
          case measure => omega
          case rel => exact ⟨k, by omega, rfl, rfl, by rw [HT.out]; exact HV2, HC2⟩
    · obtain rfl : j = l.length := by omega
      have e : (unpackB l).take (8 * l.length) = unpackB l := List.take_of_length_le (by rw [unpackB_len]; exact Nat.le_refl _)
      have HU2 := HU.out
      rw [e] at HU2
      have HU3 := Lib.hid HU2
      clear HU2 e
      go_wp2
      go_ret
      exact ⟨_, rfl, HU3.out, HB.out⟩
end Go.Proofs.YtoocebghlchcoaaGreat.ExtW

/- Contract of the document's own Decode (overdubref05). -/
namespace Go.Proofs.YtoocebghlchcoaaGreat.ExtW
open Go.RowKit Go.Ov Go.Proofs.YtoocebghlchcoaaGreat.Need
/-- a call fails: corrupt -/
/- what is left must be noughts; x is row %1, its value owned by %2, digits %3 in %4, worlds by %5 -/
theorem many_okS : ∀ {n : Nat} {l r : List Bool} {xs : List Int}, manyO sampleO n l = some (xs, r) → ∀ x ∈ xs, okS x = true
  | 0, l, r, xs, h => by injection h with h; injection h with h1 _; subst h1; intro x hx; cases hx
  | n + 1, l, r, xs, h => by
    unfold manyO at h
    cases hs : sampleO l with
    | none => rw [hs] at h; cases h
    | some p =>
      rw [hs] at h
      simp only [Option.bind_some] at h
      cases hm : manyO sampleO n p.2 with
      | none => rw [hm] at h; cases h
      | some q =>
        rw [hm] at h
        simp only [Option.map_some, Option.some.injEq, Prod.mk.injEq] at h
        obtain ⟨rfl, -⟩ := h
        intro x hx
        rcases List.mem_cons.1 hx with rfl | hx
        · unfold sampleO takeN at hs
          split at hs
          · have hv := valB_lt (l.take 24)
            rw [List.length_take, Nat.min_eq_left (by assumption)] at hv
            simp only [Option.map_some, Option.some.injEq] at hs
            rw [← hs]
            unfold okS
            simp
            omega
          · cases hs
        · exact many_okS hm x hx
theorem body_some {o : Option (List Int)} {b : Option (List Int × List Bool)} {x : List Int} {r : List Bool} (h : o = b.bind fun x => if restO x.2 then some x.1 else none) (hb : b = some (x, r)) : o = if restO r then some x else none := by rw [h, hb]; rfl
theorem body_no {o : Option (List Int)} {b : Option (List Int × List Bool)} (h : o = b.bind fun x => if restO x.2 then some x.1 else none) (hb : b = none) : o = none := by rw [h, hb]; rfl
set_option maxRecDepth 100000 in
set_option maxHeartbeats 8000000 in
theorem q5Decode_any (v : Value) (l : List Int) (w : World) (h : byteE.Is w v l) (hl : l.length ≤ 10000) (ho : okB l) :
    Calls Tryz.prog 49 #[v] w fun e w' => DecP w w' (decM (unpackB l)) e ∧ Bl w w' := by
  have HI := Lib.hid h
  obtain ⟨o, hO⟩ : ∃ o, o = decM (unpackB l) := ⟨_, rfl⟩
  rw [← hO]
  have HO := Lib.hid (hO.trans (dec_body _))
  clear h hO
  go_enter Tryz.func49, Tryz.ntmps49
  go_wp2_with fail
  refine (q1Of_any v l _ HI.out hl ho).mono ?_
  rintro e w1 ⟨u, rfl, hu, hb1⟩
  have HU := Lib.hid hu.is
  have HB1 := Lib.hid hb1
  have hL : (unpackB l).length ≤ 80000 := by rw [unpackB_len]; omega
  generalize unpackB l = L at *
  clear hu hb1
  go_wp2_with fail
  refine (q1Get_any u L 8 w1 w1 HU.out (Bl.refl _) (by omega) (by decide)).mono ?_
  rintro e w2 hp
  obtain ⟨hb2, hp⟩ := hp.cases
  have HB2 := Lib.hid hb2
  clear hb2
  rcases hp with ⟨kind, r1, u1, ht1, hx1, hr1, rfl, hu1⟩ | ⟨ht1, rfl⟩
  · have HT1 := Lib.hid ht1
    have HU1 := Lib.hid hu1
    have hk256 : kind < 256 := hx1
    clear ht1 hu1 hx1
    go_wp2_with fail
    refine (q1Get_any u1 r1 8 w1 _ HU1.out HB2.out (by omega) (by decide)).mono ?_
    rintro e w3 hp
    obtain ⟨hb3, hp⟩ := hp.cases
    have HB3 := Lib.hid (HB2.out.trans hb3)
    clear hb3
    rcases hp with ⟨n, r2, u2, ht2, hx2, hr2, rfl, hu2⟩ | ⟨ht2, rfl⟩
    · have HU2 := Lib.hid hu2
      have hn256 : n < 256 := hx2
      have HD := Lib.hid (show o = (bodyO kind n r2).bind fun x => if restO x.2 then some x.1 else none by
        rw [HO.out, HT1.out]
        simp only [Option.bind_some]
        rw [ht2]
        rfl)
      have hr2l : r2.length ≤ 80000 := by omega
      clear ht2 hu2 hx2 hr1 hr2 HO HT1 HU HU1
      by_cases hk18 : 18 < kind
      · have hki : (18 : Int) < kind := by omega
        have e := body_no HD.out (body_none (.inr (.inl hk18)))
        subst e
        go_wp2
        go_ret2
        exact ⟨rfl, HB1.out.trans HB3.out⟩
      have hki18 : ¬ (18 : Int) < kind := by omega
      by_cases hn1 : n < 1
      · have hni : (n : Int) < 1 := by omega
        have e := body_no HD.out (body_none (.inl (.inl hn1)))
        subst e
        go_wp2
        go_ret2
        exact ⟨rfl, HB1.out.trans HB3.out⟩
      have hni1 : ¬ (n : Int) < 1 := by omega
      by_cases hn64 : 64 < n
      · have hni : (64 : Int) < n := by omega
        have e := body_no HD.out (body_none (.inl (.inr hn64)))
        subst e
        go_wp2
        go_ret2
        exact ⟨rfl, HB1.out.trans HB3.out⟩
      have hni64 : ¬ (64 : Int) < n := by omega
      have HN := Lib.hid (show 1 ≤ n ∧ n ≤ 64 by omega)
      by_cases hk0 : kind = 0
      · subst hk0
        have hg : ¬ (n : Int) < 1 := by omega
        clear hn1 hn64 hk18 hk256 hn256
        go_wp2_with fail
        refine (q5samples_any u2 r2 1 w1 _ HU2.out HB3.out (by omega) (by decide)).mono ?_
        rintro e w4 ⟨hb4, hp⟩
        have HB4 := Lib.hid (HB3.out.trans hb4)
        have HSz := Lib.hid hb4.size
        clear hb4
        rcases hp with ⟨xs, r, u4, t4, hm, hlen, hrl, rfl, hown, hu4⟩ | ⟨hm, u4, rfl⟩
        · obtain ⟨s, rfl⟩ : ∃ s, xs = [s] := by
            cases xs with
            | nil => cases hlen
            | cons s t => cases t with
              | nil => exact ⟨s, rfl⟩
              | cons _ _ => simp at hlen
          have HBo := Lib.hid (body_some HD.out (show bodyO 0 n r2 = some (List.replicate n s, r) by rw [body_const HN.out, hm]; rfl))
          have HU4 := Lib.hid hu4
          have HX4 := Lib.hid (hown.low HB3.out.size)
          have hrl2 : r.length ≤ 80000 := by omega
          clear hm hlen hown hu4 hrl
          go_wp2_with fail
          go_loopg [10] n (fun gk x wr => ∃ (k : Nat) (ys : List Int), 1 ≤ k ∧ k ≤ n ∧ gk = n + 1 - k ∧ Hid (ys.length = k) ∧ Hid (ys = List.replicate k s) ∧ Hid (intE.Own 3 wr w1.heap.size x ys) ∧ Hid (Bl w1 wr))
          case atStart => exact ⟨1, [s], by omega, by omega, by omega, Lib.hid rfl, Lib.hid rfl, HX4, HB4⟩
          case round =>
            obtain ⟨k, ys, hk1, hkn, hgk, HL, HY, HX, HK⟩ := hrel
            obtain ⟨A, c, rfl, -, -, -, hat⟩ := HX.out.is
            by_cases hlt : k < n
            · have hlti : ((ys.length : Nat) : Int) < n := by have := HL.out; omega
              have hl0 : 0 < ys.length := by have := HL.out; omega
              have hl0i : (0 : Int) < ys.length := by omega
              obtain ⟨ad, rfl, c0⟩ := int_at hat 0 hl0
              have hy0 : ys[0] = s := by have := HY.out; subst this; simp
              rw [hy0, show ad.add 0 = ad by unfold Addr.add; exact if_pos rfl] at c0
              clear hat hy0
              go_wp2_with (at_builtin; refine Enc.Own.append1 (E := intE) rfl (.tmp 93) (.tmp 97) 24 rfl w1.heap.size 3 (.int .i64 0) 1 8 Tryz.underlying24 infoIntF rfl rfl (by decide) (by decide) _ ys rfl HX.out s _ rfl rfl rfl (by have := HL.out; have := HN.out; omega) HK.out.size ?_; intro u5 w5 ho hg)
              have HX5 := Lib.hid ho
              have HK5 := Lib.hid ((HK.out.alloc _).grown hg (fun k hk => (HX.out.lt k hk).1))
              clear ho hg
              go_roundg (n + 1 - (k + 1))
              case measure => omega
              case rel => exact ⟨k + 1, ys ++ [s], by omega, by omega, rfl, Lib.hid (by rw [List.length_append, HL.out]; rfl), Lib.hid (by rw [HY.out, List.replicate_succ']), HX5, HK5⟩
            · obtain rfl : k = n := by omega
              have hlti : ¬ ((ys.length : Nat) : Int) < k := by have := HL.out; omega
              have HBo2 := HBo
              rw [← HY.out] at HBo2
              clear hat HBo
              have HBo := HBo2
              clear HBo2
              have hys : ys.length ≤ 64 := by have := HL.out; have := HN.out; omega
              go_wp2_with fail
              refine wp_loop_rounds 1 ?_
              rw [rounds_succ]
              go_wp2_with fail
              refine (q1Rest_any _ r _ (HU4.out.bl HK.out) (by omega)).mono ?_
              rintro e ww ⟨rfl, rfl⟩
              cases hrest : restO r
              · have e : o = none := by rw [HBo.out, hrest]; rfl
                subst e
                go_wp2
                go_ret2
                exact ⟨rfl, HB1.out.trans HK.out⟩
              · have e : o = some ys := by rw [HBo.out, hrest]; rfl
                subst e
                go_wp2
                go_ret2
                exact ⟨⟨_, rfl, HX.out.low HB1.out.size, hys⟩, HB1.out.trans HK.out⟩
        · have e := body_no HD.out (show bodyO 0 n r2 = none by rw [body_const HN.out, hm]; rfl)
          clear hm
          subst e
          go_wp2
          go_ret2
          exact ⟨rfl, HB1.out.trans HB4.out⟩
      have hk0i : ¬ (kind : Int) = 0 := by omega
      by_cases hk1 : kind = 1
      · subst hk1
        have hnn : ¬ (n : Int) < n := by omega
        clear hn1 hn64 hk18 hk256 hn256 hk0
        go_wp2_with fail
        refine (q5samples_any u2 r2 n w1 _ HU2.out HB3.out (by omega) (by have := HN.out; omega)).mono ?_
        rintro e w4 ⟨hb4, hp⟩
        have HB4 := Lib.hid (HB3.out.trans hb4)
        clear hb4
        rcases hp with ⟨xs, r, u4, t4, hm, hlen, hrl, rfl, hown, hu4⟩ | ⟨hm, u4, rfl⟩
        · have HBo := Lib.hid (body_some HD.out (show bodyO 1 n r2 = some (xs, r) by rw [body_verb HN.out, hm]))
          have HU4 := Lib.hid hu4
          have HX4 := Lib.hid (hown.low (Nat.le_trans HB1.out.size HB3.out.size))
          have hrl2 : r.length ≤ 80000 := by omega
          have hxs : xs.length ≤ 64 := by have := HN.out; omega
          clear hm hlen hown hu4 hrl
          go_wp2_with fail
          refine wp_loop_rounds 1 ?_
          rw [rounds_succ]
          go_wp2_with fail
          refine (q1Rest_any _ r _ (HU4.out.bl HB4.out) (by omega)).mono ?_
          rintro e ww ⟨rfl, rfl⟩
          cases hrest : restO r
          · have e : o = none := by rw [HBo.out, hrest]; rfl
            subst e
            go_wp2
            go_ret2
            exact ⟨rfl, HB1.out.trans HB4.out⟩
          · have e : o = some xs := by rw [HBo.out, hrest]; rfl
            subst e
            go_wp2
            go_ret2
            exact ⟨⟨_, rfl, HX4.out, hxs⟩, HB1.out.trans HB4.out⟩
        · have e := body_no HD.out (show bodyO 1 n r2 = none by rw [body_verb HN.out, hm])
          clear hm
          subst e
          go_wp2
          go_ret2
          exact ⟨rfl, HB1.out.trans HB4.out⟩
      have hk1i : ¬ (kind : Int) = 1 := by omega
      have hgt1 : (1 : Int) < kind := by omega
      by_cases hk6 : kind ≤ 6
      · obtain ⟨od, hod⟩ : ∃ od, od + 2 = kind := ⟨kind - 2, by omega⟩
        have hi6 : (kind : Int) ≤ 6 := by omega
        have hng6 : ¬ (6 : Int) < kind := by omega
        have hw : IntKind.i64.wrap ((kind : Int) - 2) = (od : Int) := by rw [IntWalk.i64_in _ (by omega)]; omega
        have ho4 : od ≤ 4 := by omega
        have HOk := Lib.hid hod
        by_cases hon : od ≤ n
        · have hoi : ¬ (n : Int) < od := by omega
          obtain ⟨m, hm⟩ : ∃ m, m = n - od := ⟨_, rfl⟩
          have hw2 : IntKind.i64.wrap ((n : Int) - (od : Int)) = (m : Int) := by rw [IntWalk.i64_in _ (by omega)]; omega
          have HM := Lib.hid hm
          have HBd := Lib.hid (body_fix (L := r2) hod.symm ho4 HN.out hon)
          clear hn1 hn64 hk18 hk256 hn256 hk0 hk1 hod hm
          go_wp2_with fail
          refine (q5samples_any u2 r2 od w1 _ HU2.out HB3.out (by omega) (by omega)).mono ?_
          rintro e w4 ⟨hb4, hp⟩
          have HB4 := Lib.hid (HB3.out.trans hb4)
          clear hb4
          rcases hp with ⟨xs, r, u4, t4, hm, hlen, hrl, rfl, hown, hu4⟩ | ⟨hm, u4, rfl⟩
          · have HU4 := Lib.hid hu4
            have HX4 := Lib.hid hown
            have HL4 := Lib.hid hlen
            have HM4 := Lib.hid hm
            have HOkS := Lib.hid (many_okS hm)
            have hrl2 : r.length ≤ 80000 := by omega
            clear hm hlen hown hu4 hrl
            go_wp2_with fail
            refine wp_loop_rounds 1 ?_
            rw [rounds_succ]
            go_wp2_with fail
            refine (q5takeRes_any u4 r m w1 _ HU4.out HB4.out (by omega) (by have := HM.out; have := HN.out; omega)).mono ?_
            rintro e w5 ⟨hb5, hp⟩
            have HB5 := Lib.hid (HB4.out.trans hb5)
            have HX5 := Lib.hid (HX4.out.bl hb5)
            clear hb5
            rcases hp with ⟨rs, r5, u5, t5, hm, hlen, hrl, rfl, hown, hu5⟩ | ⟨hm, u5, rfl⟩
            · have HU5 := Lib.hid hu5
              have HR5 := Lib.hid hown
              have HL5 := Lib.hid hlen
              have HM5 := Lib.hid (show resO (n - od) r = some (rs, r5) by rw [← HM.out]; exact hm)
              have hrl5 : r5.length ≤ 80000 := by omega
              clear hm hlen hown hu5 hrl
              go_wp2_with fail
              refine (q5Restore_any _ _ xs rs _ HX5.out.is HR5.out.is (by have := HL4.out; omega) (by have := HL4.out; have := HL5.out; have := HM.out; have := HN.out; omega) HOkS.out).mono ?_
              rintro e w6 ⟨hp, hb6⟩
              have HB6 := Lib.hid (HB5.out.trans hb6)
              clear hb6
              unfold RunP at hp
              rw [HL4.out] at hp
              cases hrun : runO (gSum (fixC od)) xs rs with
              | none =>
                rw [hrun] at hp
                obtain rfl := hp
                have e := body_no HD.out (show bodyO kind n r2 = none by rw [HBd.out, HM4.out]; simp only [Option.bind_some]; rw [HM5.out]; simp only [Option.bind_some]; rw [hrun]; rfl)
                subst e
                go_wp2
                go_ret2
                exact ⟨rfl, HB1.out.trans HB6.out⟩
              | some x =>
                rw [hrun] at hp
                obtain ⟨ux, rfl, hx⟩ := hp
                have HXx := Lib.hid (hx.low (Nat.le_trans HB1.out.size HB5.out.size))
                have HBo := Lib.hid (body_some HD.out (show bodyO kind n r2 = some (x, r5) by rw [HBd.out, HM4.out]; simp only [Option.bind_some]; rw [HM5.out]; simp only [Option.bind_some]; rw [hrun]; rfl))
                have hlen := runO_len _ _ _ _ hrun
                have hxl : x.length ≤ 64 := by have := HL4.out; have := HL5.out; have := HM.out; have := HN.out; omega
                clear hx hlen
                go_wp2_with fail
                refine (q1Rest_any _ r5 _ (HU5.out.bl HB6.out) (by omega)).mono ?_
                rintro e ww ⟨rfl, rfl⟩
                cases hrest : restO r5
                · have e : o = none := by rw [HBo.out, hrest]; rfl
                  subst e
                  go_wp2
                  go_ret2
                  exact ⟨rfl, HB1.out.trans HB6.out⟩
                · have e : o = some x := by rw [HBo.out, hrest]; rfl
                  subst e
                  go_wp2
                  go_ret2
                  exact ⟨⟨_, rfl, HXx.out, hxl⟩, HB1.out.trans HB6.out⟩
            · have e := body_no HD.out (show bodyO kind n r2 = none by rw [HBd.out, HM4.out]; simp only [Option.bind_some]; rw [← HM.out, hm]; rfl)
              clear hm
              subst e
              go_wp2
              go_ret2
              exact ⟨rfl, HB1.out.trans HB5.out⟩
          · have e := body_no HD.out (show bodyO kind n r2 = none by rw [HBd.out, hm]; rfl)
            clear hm
            subst e
            go_wp2
            go_ret2
            exact ⟨rfl, HB1.out.trans HB4.out⟩
        · have hoi : (n : Int) < od := by omega
          have e := body_no HD.out (body_none (kind := kind) (n := n) (.inr (.inr (.inl ⟨by omega, hk6, by omega⟩))))
          clear hn1 hn64 hk18 hk256 hn256 hk0 hk1 hod
          subst e
          go_wp2
          go_ret2
          exact ⟨rfl, HB1.out.trans HB3.out⟩
      obtain ⟨od, hod⟩ : ∃ od, od + 6 = kind := ⟨kind - 6, by omega⟩
      have hi6 : ¬ (kind : Int) ≤ 6 := by omega
      have hg6 : (6 : Int) < kind := by omega
      have hw : IntKind.i64.wrap ((kind : Int) - 6) = (od : Int) := by rw [IntWalk.i64_in _ (by omega)]; omega
      have ho1 : 1 ≤ od := by omega
      have ho12 : od ≤ 12 := by omega
      have HOk := Lib.hid hod
      by_cases hon : od < n
      · have hoi : ¬ (n : Int) < od := by omega
        have hoi2 : ¬ (n : Int) ≤ od := by omega
        obtain ⟨m, hm⟩ : ∃ m, m = n - od := ⟨_, rfl⟩
        have hw2 : IntKind.i64.wrap ((n : Int) - (od : Int)) = (m : Int) := by rw [IntWalk.i64_in _ (by omega)]; omega
        have HM := Lib.hid hm
        have HBd := Lib.hid (body_lpc (L := r2) hod.symm ho1 ho12 HN.out hon)
        clear hn1 hn64 hk18 hk256 hn256 hk0 hk1 hod hm hk6
        go_wp2_with fail
        refine (q5samples_any u2 r2 od w1 _ HU2.out HB3.out (by omega) (by omega)).mono ?_
        rintro e w4 ⟨hb4, hp⟩
        have HB4 := Lib.hid (HB3.out.trans hb4)
        have HSz4 := Lib.hid (Nat.le_trans HB3.out.size hb4.size)
        clear hb4
        rcases hp with ⟨xs, r, u4, t4, hm, hlen, hrl, rfl, hown, hu4⟩ | ⟨hm, u4, rfl⟩
        · have HU4 := Lib.hid hu4
          have HX4 := Lib.hid (hown.low HB3.out.size)
          have HL4 := Lib.hid hlen
          have HM4 := Lib.hid hm
          have HOkS := Lib.hid (many_okS hm)
          have hrl2 : r.length ≤ 80000 := by omega
          clear hm hlen hown hu4 hrl
          go_wp2_with fail
          go_loopg [4, 11, 12] od (fun gk b u i wr => ∃ (k : Nat) (cs : List Int) (r' : List Bool), k ≤ od ∧ gk = od - k ∧ i = .int .i64 k ∧ Hid (cs.length = k) ∧ Hid (r'.length ≤ 80000) ∧ Hid (intE.Own 3 wr w4.heap.size u cs) ∧ Hid (bitE.Is w1 b r') ∧ Hid (Bl w4 wr) ∧ Hid (∀ x ∈ cs, okC x = true) ∧ Hid (manyO coefO k r = some (cs, r')))
          case atStart => exact ⟨0, [], r, by omega, rfl, rfl, Lib.hid rfl, Lib.hid hrl2, Lib.hid (Enc.Own.nil _ _ _), HU4, Lib.hid (Bl.refl _), Lib.hid (by simp), Lib.hid rfl⟩
          case round =>
            obtain ⟨k, cs, r', hk, hgk, rfl, HL, HRl, HO, HB, HBl, HC, HMk⟩ := hrel
            by_cases hkn : k < od
            · have hki : (k : Int) < od := by omega
              obtain ⟨A, c, rfl⟩ := HO.out.slice
              go_wp2_with fail
              refine (q1Get_any _ r' 16 w1 _ HB.out (HB4.out.trans HBl.out) (by have := HRl.out; omega) (by decide)).mono ?_
              rintro e w5 hp
              obtain ⟨hb5, hp⟩ := hp.cases
              rcases hp with ⟨x, r5, u5, hta, hx, hr5, rfl, hu5⟩ | ⟨hta, rfl⟩
              · have hx16 : x < 65536 := hx
                have HNn := Lib.hid (many_next HMk.out (show coefO r' = some ((x : Int) - 32768, r5) by unfold coefO; rw [hta]; rfl))
                have HR5 := Lib.hid (Nat.le_trans hr5 HRl.out)
                have HU5 := Lib.hid hu5
                have HO5 := Lib.hid (HO.out.bl hb5)
                have HB5 := Lib.hid (HBl.out.trans hb5)
                obtain ⟨y, hy⟩ : ∃ y : Int, y = (x : Int) - 32768 := ⟨_, rfl⟩
                rw [← hy] at HNn
                have hw1 : IntKind.i64.wrap ((x : Int) - 32768) = y := by rw [IntWalk.i64_in _ (by omega)]; exact hy.symm
                have HC2 := Lib.hid (show ∀ z ∈ cs ++ [y], okC z = true from fun z hz => by
                  rcases List.mem_append.1 hz with hz | hz
                  · exact HC.out z hz
                  · obtain rfl := List.mem_singleton.1 hz
                    unfold okC
                    simp
                    omega)
                clear hta hu5 hb5 hy hx hx16
                go_wp2_with (at_builtin; refine Enc.Own.append1 (E := intE) rfl (.tmp 116) (.tmp 119) 24 rfl w4.heap.size 3 (.int .i64 0) 1 8 Tryz.underlying24 infoIntF rfl rfl (by decide) (by decide) _ cs rfl HO5.out y _ rfl rfl rfl (by have := HL.out; omega) HB5.out.size ?_; intro u6 w6 ho hg)
                have HO6 := Lib.hid ho
                have HB6 := Lib.hid ((HB5.out.alloc _).grown hg (fun g e => (HO5.out.lt g e).1))
                clear ho hg
                go_roundg (od - (k + 1))
                case measure => omega
                case rel => exact ⟨k + 1, cs ++ [y], r5, by omega, rfl, by first | go_num | (rw [wrap_in (by omega)]; rfl), Lib.hid (by rw [List.length_append, HL.out]; rfl), HR5, HO6, HU5, HB6, HC2, HNn⟩
              · have e := body_no HD.out (show bodyO kind n r2 = none by rw [HBd.out, HM4.out]; simp only [Option.bind_some]; rw [many_stop HMk.out (show coefO r' = none by unfold coefO; rw [hta]; rfl) hkn]; rfl)
                have HB5 := Lib.hid (HB4.out.trans (HBl.out.trans hb5))
                clear hta hb5
                subst e
                go_wp2
                go_ret2
                exact ⟨rfl, HB1.out.trans HB5.out⟩
            · obtain rfl : k = od := by omega
              have hmay : mayC cs = true := by
                unfold mayC
                rw [Bool.and_eq_true, List.all_eq_true]
                refine ⟨HC.out, ?_⟩
                have h1 := HL.out
                simp
                omega
              have HBw := Lib.hid (HB4.out.trans HBl.out)
              go_wp2_with fail
              refine (q5takeRes_any _ r' m w1 _ HB.out HBw.out (by have := HRl.out; omega) (by have := HM.out; have := HN.out; omega)).mono ?_
              rintro e w5 ⟨hb5, hp⟩
              have HB5 := Lib.hid (HBw.out.trans hb5)
              have HX5 := Lib.hid ((HX4.out.bl HBl.out).bl hb5)
              have HO5 := Lib.hid (HO.out.bl hb5)
              clear hb5
              rcases hp with ⟨rs, r5, u5, t5, hm, hlen, hrl, rfl, hown, hu5⟩ | ⟨hm, u5, rfl⟩
              · have HU5 := Lib.hid hu5
                have HR5 := Lib.hid hown
                have HL5 := Lib.hid hlen
                have HM5 := Lib.hid (show resO (n - k) r' = some (rs, r5) by rw [← HM.out]; exact hm)
                have hrl5 : r5.length ≤ 80000 := by have := HRl.out; omega
                clear hm hlen hown hu5 hrl
                go_wp2_with fail
                refine (q5LpcRestore_any _ _ _ xs rs cs _ HX5.out.is HR5.out.is HO5.out.is hmay (by rw [HL4.out, HL.out]) (by have := HL4.out; have := HL5.out; have := HM.out; have := HN.out; omega) HOkS.out).mono ?_
                rintro e w6 ⟨hp, hb6⟩
                have HB6 := Lib.hid (HB5.out.trans hb6)
                clear hb6
                unfold RunP at hp
                cases hrun : runO (gLpc cs) xs rs with
                | none =>
                  rw [hrun] at hp
                  obtain rfl := hp
                  have e := body_no HD.out (show bodyO kind n r2 = none by rw [HBd.out, HM4.out]; simp only [Option.bind_some]; rw [HMk.out]; simp only [Option.bind_some]; rw [HM5.out]; simp only [Option.bind_some]; rw [hrun]; rfl)
                  subst e
                  go_wp2
                  go_ret2
                  exact ⟨rfl, HB1.out.trans HB6.out⟩
                | some x =>
                  rw [hrun] at hp
                  obtain ⟨ux, rfl, hx⟩ := hp
                  have HXx := Lib.hid (hx.low (Nat.le_trans HB1.out.size HB5.out.size))
                  have HBo := Lib.hid (body_some HD.out (show bodyO kind n r2 = some (x, r5) by rw [HBd.out, HM4.out]; simp only [Option.bind_some]; rw [HMk.out]; simp only [Option.bind_some]; rw [HM5.out]; simp only [Option.bind_some]; rw [hrun]; rfl))
                  have hlen := runO_len _ _ _ _ hrun
                  have hxl : x.length ≤ 64 := by have := HL4.out; have := HL5.out; have := HM.out; have := HN.out; omega
                  clear hx hlen
                  go_wp2_with fail
                  refine (q1Rest_any _ r5 _ (HU5.out.bl HB6.out) (by omega)).mono ?_
                  rintro e ww ⟨rfl, rfl⟩
                  cases hrest : restO r5
                  · have e : o = none := by rw [HBo.out, hrest]; rfl
                    subst e
                    go_wp2
                    go_ret2
                    exact ⟨rfl, HB1.out.trans HB6.out⟩
                  · have e : o = some x := by rw [HBo.out, hrest]; rfl
                    subst e
                    go_wp2
                    go_ret2
                    exact ⟨⟨_, rfl, HXx.out, hxl⟩, HB1.out.trans HB6.out⟩
              · have e := body_no HD.out (show bodyO kind n r2 = none by rw [HBd.out, HM4.out]; simp only [Option.bind_some]; rw [HMk.out]; simp only [Option.bind_some]; rw [← HM.out, hm]; rfl)
                clear hm
                subst e
                go_wp2
                go_ret2
                exact ⟨rfl, HB1.out.trans HB5.out⟩
        · have e := body_no HD.out (show bodyO kind n r2 = none by rw [HBd.out, hm]; rfl)
          clear hm
          subst e
          go_wp2
          go_ret2
          exact ⟨rfl, HB1.out.trans HB4.out⟩
      · have hoi2 : (n : Int) ≤ od := by omega
        have e := body_no HD.out (body_none (kind := kind) (n := n) (.inr (.inr (.inr ⟨by omega, by omega⟩))))
        clear hn1 hn64 hk18 hk256 hn256 hk0 hk1 hod hk6
        rcases (show (n : Int) < od ∨ ¬ (n : Int) < od by omega) with hoi | hoi
        · subst e
          go_wp2
          go_ret2
          exact ⟨rfl, HB1.out.trans HB3.out⟩
        · subst e
          go_wp2
          go_ret2
          exact ⟨rfl, HB1.out.trans HB3.out⟩
    · have e : o = none := by
        rw [HO.out, HT1.out]
        simp only [Option.bind_some]
        rw [ht2]
        rfl
      clear ht2
      subst e
      go_wp2
      go_ret2
      exact ⟨rfl, HB1.out.trans HB3.out⟩
  · have e : o = none := by rw [HO.out, ht1]; rfl
    subst e
    clear ht1
    go_wp2_with fail
    refine (q1Get_any u L 8 w1 _ HU.out HB2.out (by omega) (by decide)).mono ?_
    rintro e w3 hp
    obtain ⟨hb3, hp⟩ := hp.cases
    have HB3 := Lib.hid (HB2.out.trans hb3)
    clear hb3
    rcases hp with ⟨n, r2, u2, ht2, hx2, hr2, rfl, hu2⟩ | ⟨ht2, rfl⟩
    · clear ht2 hu2 hx2 hr2
      go_wp2
      go_ret2
      exact ⟨rfl, HB1.out.trans HB3.out⟩
    · clear ht2
      go_wp2
      go_ret2
      exact ⟨rfl, HB1.out.trans HB3.out⟩
end Go.Proofs.YtoocebghlchcoaaGreat.ExtW
