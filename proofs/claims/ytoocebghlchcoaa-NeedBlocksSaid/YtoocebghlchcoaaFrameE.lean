/- Contracts of frame: predicted, digits, Encode. -/
import Derived.Test.YtoocebghlchcoaaFrameW
import Derived.Test.YtoocebghlchcoaaBlockP
namespace Go.Ov
open Go.RowKit
theorem WrSt.frs {Tw Tb : TypeId} {w w1 : World} {base B : Nat} {v : Value} {bs : List Bool} (h : WrSt Tw Tb w base B v bs) : Sub (only w1 (fr w)) (only w1 (nobW B v)) := Sub.mono fun b hb => by
  have h1 := h.blk.lt
  have h2 := h.own.lt
  unfold nobW
  simp only [fr, decide_eq_true_eq] at hb
  simp only [Bool.and_eq_true, decide_eq_true_eq]
  exact ⟨by omega, fun q => by have := (h2 b q).2; omega⟩
theorem WrSt.old {Tw Tb : TypeId} {w w1 : World} {base B : Nat} {v : Value} {bs : List Bool} (h : WrSt Tw Tb w1 base B v bs) (hb : Bl w w1) (hw : w.heap.size ≤ base) : Sub w (only w1 (nobW B v)) := fun ad u q => cell_only (by
  have h1 := h.low
  have h2 := h.own.lt
  have h3 := World.block_lt_of_cell? w ad q
  unfold nobW
  simp only [Bool.and_eq_true, decide_eq_true_eq]
  exact ⟨by omega, fun q => by have := (h2 _ q).1; omega⟩) (hb.cell q)
end Go.Ov
namespace Go.Proofs.Ytoocebghlchcoaa.ExtW
open Go.RowKit Go.Ov Go.Proofs.Ytoocebghlchcoaa.Need

set_option maxRecDepth 100000 in
set_option maxHeartbeats 1000000 in
theorem fpred_any (base B : Nat) (v : Value) (bs : List Bool) (vx : Value) (x : List Int) (o : Nat) (w : World) (h : WrSt 80 5 w base B v bs) (hx : intE.Is (only w (nobW B v)) vx x) (hl : bs.length ≤ 200000) (hc : chkM x = 0) (ho : 1 ≤ o) (ho2 : o ≤ 12) :
    Calls Try.prog 28 #[.pointer (some ⟨B, 0, none⟩), vx, .int .i64 o] w fun e w' => ∃ v' ok, e = .returned (.bool ok) ∧ WStep base w w' B v v' ∧ (ok = true → ∃ c k, o < x.length ∧ c.length = o ∧ (∀ v ∈ c, okC v = true) ∧ k ≤ 24 ∧ (∀ v ∈ resR (gLpc c) x o, okZ (zigM v) = true) ∧ WrSt 80 5 w' base B v' (bs ++ smpB (x.take o) ++ coeB c ++ resB k (resR (gLpc c) x o))) := by
  have HW := Lib.hid h
  have HX := Lib.hid hx
  have HC := Lib.hid hc
  have hok := chk_ok hc
  have HOK := Lib.hid hok.1
  have hxl := hok.2
  obtain ⟨A, cp, rfl, h1, h2, h3, h4⟩ := hx
  have HCP := Lib.hid h1
  clear h h1 h2 h3 h4 hc hok
  go_enter Try.func28, Try.ntmps28
  go_wp2_with fail
  refine (lcoefs_any _ x o _ ((Sub.un _ _).is HX.out) ho ho2 HC.out).mono ?_
  rintro e w1 ⟨uc, ok, rfl, hb1, hc1⟩
  have HB1 := Lib.hid hb1
  have HC1 := Lib.hid hc1
  clear hb1 hc1
  cases ok
  · go_wp2
    go_ret
    exact ⟨v, false, rfl, WStep.of_bl HB1.out, fun h => by cases h⟩
  obtain ⟨c, hol, hcl, hcc, hci⟩ := HC1.out rfl
  have HCC := Lib.hid hcc
  have HCI := Lib.hid hci
  have HX1 := Lib.hid ((Sub.bl (HB1.out.only _)).is HX.out)
  obtain ⟨A2, cp2, rfl, -, -, -, -⟩ := id HCI.out
  have HCL := Lib.hid hcl
  have hcn : c.length ≤ 12 := by omega
  clear hcc hci HC1 hcl
  go_wp2_with fail
  refine (pres_any _ _ x c _ ((Sub.un _ _).is HX1.out) ((Sub.un _ _).is HCI.out) (by omega) (by have := HCL.out; omega)).mono ?_
  rintro e w2 ⟨ur, cc, rfl, hb2, hr⟩
  have HB2 := Lib.hid (HB1.out.trans hb2)
  have HR := Lib.hid hr
  have HC2 := Lib.hid (HW.out.frs.is ((Sub.bl (hb2.only _)).is HCI.out))
  have HX2 := Lib.hid ((Sub.bl (hb2.only _)).is HX1.out)
  have HK1 := Lib.hid (HW.out.keep HB1.out)
  have HK2 := Lib.hid (HK1.out.keep hb2)
  have HS2 := Lib.hid (WStep.of_bl (base := base) (B := B) (v := v) HB2.out)
  clear hb2 hr HCI HX1
  rcases (show cc = 0 ∨ cc ≠ 0 by omega) with rfl | hne
  · have HRo := Lib.hid (HR.out rfl).2.2.2
    rw [HCL.out] at HRo
    have HRm := Lib.hid (HK1.out.isM HRo.out)
    obtain ⟨Ar, cr, rfl⟩ := HRo.out.slice
    obtain ⟨V2, hV2, hI2⟩ := slice_h (E := intE) (P := Try.prog) (t := 22) (by kernel_rfl) (fun w => by kernel_rfl) A cp x (o : Int) (by omega) (by omega) HCP.out
    have HV := Lib.hid (show intE.Is (only w2 (nobW B v)) V2 (x.take o) from hI2 _ HX2.out)
    have HXO := Lib.hid (show ∀ u ∈ x.take o, okS u = true from fun u hu => (List.all_eq_true.1 HOK.out) _ (List.mem_of_mem_take hu))
    clear hI2 HRo HR
    go_wp2_with fail
    refine (fsamples_any base B v bs V2 (x.take o) _ HK2.out HV.out (by omega) (by simp; omega) HXO.out).mono ?_
    rintro e w3 ⟨v3, rfl, h3, t3⟩
    have H3 := Lib.hid h3
    have HC3 := Lib.hid (t3.sub.is HC2.out)
    have HR3 := Lib.hid (t3.sub.is HRm.out)
    have T3 := Lib.hid (HS2.out.trans t3)
    clear h3 t3 HC2 HRm HS2 HV HX2
    go_wp2_with fail
    go_loopg [36] c.length (fun gk i wr => ∃ (k : Nat) (v' : Value), k ≤ c.length ∧ gk = c.length - k ∧ i = .int .i64 k ∧ Hid (WrSt 80 5 wr base B v' (bs ++ smpB (x.take o) ++ coeB (c.take k))) ∧ Hid (WStep base w3 wr B v3 v'))
    case atStart => exact ⟨0, v3, by omega, rfl, rfl, Lib.hid (by simpa [coeB] using H3.out), Lib.hid (WStep.refl _ _ _ _)⟩
    case round =>
      obtain ⟨k, v', hk, hgk, rfl, HWk, HT⟩ := hrel
      by_cases hlt : k < c.length
      · have hlti : (k : Int) < c.length := by omega
        have hIx := HT.out.sub.is HC3.out
        obtain ⟨_, _, e1, _, _, _, hat⟩ := hIx
        simp only [Value.slice.injEq] at e1
        obtain ⟨rfl, -, -⟩ := e1
        obtain ⟨ad, rfl, c0⟩ := int_at hat k hlt
        have c0 := (only_cell c0).2
        have HSt := Lib.hid (coeB_step c k hlt)
        have hoky := HCC.out _ (List.getElem_mem hlt)
        clear hat
        generalize c[k] = y at *
        have hy : -32768 ≤ y ∧ y ≤ 32767 := by simpa [okC] using hoky
        clear hoky
        have hw1 : IntKind.i64.wrap (y + 32768) = y + 32768 := IntWalk.i64_in _ (by omega)
        go_wp2_with fail
        refine (wPut_any base B v' _ (y + 32768) 16 _ HWk.out (by have := HCL.out; rw [List.length_append, List.length_append, smpB_len, coeB_len, List.length_take, List.length_take]; omega) (by omega) (by omega) (by omega)).mono ?_
        rintro e w' ⟨v2, rfl, hs, ht⟩
        have HS2 := Lib.hid hs
        have HT2 := Lib.hid (HT.out.trans ht)
        clear hs ht
        go_wp2_with fail
        go_roundg (c.length - (k + 1))
        case measure => omega
        case rel => exact ⟨k + 1, v2, by omega, rfl, by go_num, Lib.hid (by rw [HSt.out, ← List.append_assoc]; exact HS2.out), HT2⟩
      · obtain rfl : k = c.length := by omega
        have HWc := Lib.hid (show WrSt 80 5 wr base B v' (bs ++ smpB (x.take o) ++ coeB c) by have := HWk.out; rwa [List.take_length] at this)
        have HRc := Lib.hid (HT.out.sub.is HR3.out)
        have hln := HCL.out
        clear HWk
        go_wp2_with fail
        refine (fresid_any base B v' _ _ (resR (gLpc c) x o) _ HWc.out HRc.out (by rw [List.length_append, List.length_append, smpB_len, coeB_len, List.length_take]; omega) (by rw [resR_len]; omega)).mono ?_
        rintro e w4 ⟨v4, rfl, t4, h4⟩
        have H4 := Lib.hid h4
        have T4 := Lib.hid ((T3.out.trans HT.out).trans t4)
        clear h4 t4 hln
        go_wp2_with fail
        go_ret
        refine ⟨v4, _, rfl, T4.out, fun hz => ?_⟩
        have hz : (List.map zigM (resR (gLpc c) x o)).all okZ = true := by rw [List.all_map]; exact hz
        obtain ⟨kk, hkk, hwf⟩ := H4.out hz
        refine ⟨c, kk, hol, HCL.out, HCC.out, hkk, fun u hu => ?_, hwf⟩
        rw [List.all_eq_true] at hz
        exact hz _ (List.mem_map_of_mem hu)
  · go_wp2
    go_ret
    exact ⟨v, false, rfl, HS2.out, fun h => by cases h⟩

def DigR (w w' : World) (kind : Nat) (x : List Int) (u : Value) (ok : Bool) : Prop := Bl w w' ∧ (kind = 1 → ok = true) ∧ (ok = true → ∃ B v bs, u = .pointer (some ⟨B, 0, none⟩) ∧ WrSt 80 5 w' w.heap.size B v bs ∧ FrameOf x bs ∧ (kind = 1 → bs.length = verbLen x.length))
set_option maxRecDepth 100000 in
set_option maxHeartbeats 1000000 in
theorem fdigits_any (vx : Value) (x : List Int) (kind : Nat) (w : World) (hx : intE.Is w vx x) (hc : chkM x = 0) (h1 : 1 ≤ x.length) (hk : kind ≤ 18) :
    Calls Try.prog 18 #[.int .i64 kind, vx] w fun e w' => ∃ u ok, e = .returned (.tuple #[u, .bool ok]) ∧ DigR w w' kind x u ok := by
  have HX := Lib.hid hx
  have HC := Lib.hid hc
  have hok := chk_ok hc
  have HOK := Lib.hid (List.all_eq_true.1 hok.1)
  have hxl := hok.2
  obtain ⟨A, cp, rfl, h2, h3, h4, h5⟩ := hx
  have HCP := Lib.hid h2
  have HA := Lib.hid h5
  clear h2 h3 h4 h5 hc hok
  have hx0 : 0 < x.length := h1
  have hx0i : (0 : Int) < x.length := by omega
  go_enter Try.func18, Try.ntmps18
  go_wp2_with fail
  refine (wNew_any _).mono ?_
  rintro e w1 ⟨rfl, hs, hb⟩
  obtain ⟨B, hB⟩ : ∃ B, B = w.heap.size := ⟨_, rfl⟩
  have hs : WrSt 80 5 w1 w.heap.size B (.slice none 0 0) [] := by rw [hB]; exact hs
  rw [← hB]
  have HB1 := Lib.hid hb
  have HS1 := Lib.hid hs
  clear hb hs hB
  go_wp2_with fail
  refine (wPut_any w.heap.size B _ [] kind 8 _ HS1.out (by simp) (by omega) (by omega) (by omega)).mono ?_
  rintro e w2 ⟨v2, rfl, hs, ht⟩
  have HS2 := Lib.hid hs
  have HB2 := Lib.hid (ht.bl w HB1.out (Nat.le_refl _))
  clear hs ht
  go_wp2_with fail
  refine (wPut_any w.heap.size B _ _ x.length 8 _ HS2.out (by simp [numB_len]) (by omega) (by omega) (by omega)).mono ?_
  rintro e w3 ⟨v3, rfl, hs, ht⟩
  rw [List.nil_append] at hs
  have HS3 := Lib.hid hs
  have HB3 := Lib.hid (ht.bl w HB2.out (Nat.le_refl _))
  have HX3 := Lib.hid ((HS3.out.old HB3.out (Nat.le_refl _)).is HX.out)
  clear hs ht
  have HL := Lib.hid (show (numB (kind : Int) 8 ++ numB (x.length : Int) 8).length = 16 by rw [List.length_append, numB_len, numB_len])
  rcases (show kind = 0 ∨ kind = 1 ∨ (2 ≤ kind ∧ kind ≤ 6) ∨ 7 ≤ kind by omega) with rfl | rfl | ⟨hk2, hk6⟩ | hk7
  · go_wp2_with fail
    go_loopg [25] x.length (fun gk i wr => ∃ (k : Nat), k ≤ x.length ∧ gk = x.length - k ∧ i = .int .i64 k ∧ Hid (∀ j, j < k → x.getD j 0 = x.headD 0) ∧ wr = w3)
    case atStart => exact ⟨0, by omega, rfl, rfl, Lib.hid (by simp), rfl⟩
    case round =>
      obtain ⟨k, hk, hgk, rfl, HE, hw⟩ := hrel
      obtain rfl : w3 = wr := hw.symm
      by_cases hlt : k < x.length
      · have hlti : (k : Int) < x.length := by omega
        obtain ⟨ad, rfl, c0⟩ := int_at HA.out k hlt
        obtain ⟨ad', e', c1⟩ := int_at HA.out 0 hx0
        injection e' with e'
        subst e'
        have c0 := HB3.out.cell c0
        have c1 := HB3.out.cell c1
        have c2 : w3.cell? ad = some (.int .i64 x[0]) := c1
        have HK := Lib.hid (show x[k] = x.getD k 0 by rw [List.getD_eq_getElem?_getD, List.getElem?_eq_getElem hlt]; rfl)
        have HZ := Lib.hid (show x[0] = x.headD 0 by cases x with | nil => simp at hx0 | cons a l => rfl)
        generalize x[k] = y at *
        generalize x[0] = z at *
        rcases (show y = z ∨ ¬ y = z by omega) with rfl | hne
        · go_wp2
          go_roundg (x.length - (k + 1))
          case measure => omega
          case rel => exact ⟨k + 1, by omega, rfl, by go_num, Lib.hid (fun j hj => by
            rcases (show j < k ∨ j = k by omega) with h | rfl
            · exact HE.out j h
            · rw [← HK.out, HZ.out]), rfl⟩
        · go_wp2
          go_ret2
          exact ⟨_, .inl ⟨rfl, HB3.out, fun h => by omega, fun h => by cases h⟩⟩
      · obtain rfl : k = x.length := by omega
        obtain ⟨V2, hV2, hI2⟩ := slice_h (E := intE) (P := Try.prog) (t := 22) (by kernel_rfl) (fun w => by kernel_rfl) A cp x 1 (by omega) (by omega) HCP.out
        have HV := Lib.hid (show intE.Is (only w3 (nobW B v3)) V2 (x.take 1) from hI2 _ HX3.out)
        have HCo := Lib.hid (show ∀ v ∈ x, v = x.headD 0 from fun v hv => by
          obtain ⟨j, hj, rfl⟩ := List.getElem_of_mem hv
          have := HE.out j hj
          rw [List.getD_eq_getElem?_getD, List.getElem?_eq_getElem hj] at this
          exact this)
        clear hI2 HE
        go_wp2_with fail
        refine (fsamples_any w.heap.size B v3 _ V2 (x.take 1) _ HS3.out HV.out (by have := HL.out; omega) (by simp; omega) (fun u hu => HOK.out _ (List.mem_of_mem_take hu))).mono ?_
        rintro e w4 ⟨v4, rfl, h4, t4⟩
        have H4 := Lib.hid h4
        have HB4 := Lib.hid (t4.bl w HB3.out (Nat.le_refl _))
        clear h4 t4
        go_wp2
        go_ret2
        exact ⟨_, true, rfl, HB4.out, fun _ => rfl, fun _ => ⟨B, v4, _, rfl, H4.out, FrameOf.const HCo.out, fun h => by omega⟩⟩
  · go_wp2_with fail
    refine (fsamples_any w.heap.size B v3 _ _ x _ HS3.out HX3.out (by have := HL.out; omega) (by omega) HOK.out).mono ?_
    rintro e w4 ⟨v4, rfl, h4, t4⟩
    have H4 := Lib.hid h4
    have HB4 := Lib.hid (t4.bl w HB3.out (Nat.le_refl _))
    clear h4 t4
    go_wp2
    go_ret2
    exact ⟨_, true, rfl, HB4.out, fun _ => rfl, fun _ => ⟨B, v4, _, rfl, H4.out, FrameOf.verb, fun _ => verb_len x⟩⟩
  · obtain ⟨o, rfl⟩ : ∃ o, kind = 2 + o := ⟨kind - 2, by omega⟩
    have g1 : ¬ ((2 + o : Nat) : Int) = 0 := by omega
    have g2 : ¬ ((2 + o : Nat) : Int) = 1 := by omega
    have g3 : (2 : Int) ≤ ((2 + o : Nat) : Int) := by omega
    have g4 : ((2 + o : Nat) : Int) ≤ 6 := by omega
    have hw1 : IntKind.i64.wrap (((2 + o : Nat) : Int) - 2) = o := by rw [IntWalk.i64_in _ (by omega)]; omega
    have HKC := Lib.hid (show ((2 + o : Nat) : Int) = 2 + (o : Int) by omega)
    generalize hkk : ((2 + o : Nat) : Int) = kk at *
    clear hkk
    go_wp2_with fail
    refine (xres_any _ x o (by omega) _ (HX.out.bl HB3.out) (by omega)).mono ?_
    rintro e w4 ⟨ur, cc, rfl, hb4, hr⟩
    have HB4 := Lib.hid (HB3.out.trans hb4)
    have HR := Lib.hid hr
    have HS4 := Lib.hid (HS3.out.keep hb4)
    have HX4 := Lib.hid ((Sub.bl (hb4.only _)).is HX3.out)
    clear hb4 hr
    rcases (show cc = 0 ∨ cc ≠ 0 by omega) with rfl | hne
    · obtain ⟨hox, -, hro⟩ := HR.out rfl
      have HRm := Lib.hid (HS3.out.isM hro)
      obtain ⟨Ar, cr, rfl⟩ := hro.slice
      obtain ⟨V2, hV2, hI2⟩ := slice_h (E := intE) (P := Try.prog) (t := 22) (by kernel_rfl) (fun w => by kernel_rfl) A cp x (o : Int) (by omega) (by omega) HCP.out
      have HV := Lib.hid (show intE.Is (only w4 (nobW B v3)) V2 (x.take o) from hI2 _ HX4.out)
      clear hI2 hro HR
      go_wp2_with fail
      refine (fsamples_any w.heap.size B v3 _ V2 (x.take o) _ HS4.out HV.out (by have := HL.out; omega) (by simp; omega) (fun u hu => HOK.out _ (List.mem_of_mem_take hu))).mono ?_
      rintro e w5 ⟨v5, rfl, h5, t5⟩
      have H5 := Lib.hid h5
      have HB5 := Lib.hid (t5.bl w HB4.out (Nat.le_refl _))
      have HR5 := Lib.hid (t5.sub.is HRm.out)
      clear h5 t5 HRm
      go_wp2_with fail
      refine (fresid_any w.heap.size B v5 _ _ (resR (gSum (fixC o)) x o) _ H5.out HR5.out (by have := HL.out; rw [List.length_append, smpB_len, List.length_take]; omega) (by rw [resR_len]; omega)).mono ?_
      rintro e w6 ⟨v6, rfl, t6, h6⟩
      have H6 := Lib.hid h6
      have HB6 := Lib.hid (t6.bl w HB5.out (Nat.le_refl _))
      clear h6 t6
      go_wp2_with fail
      go_ret2
      refine ⟨_, _, rfl, HB6.out, fun h => by omega, fun hz => ?_⟩
      have hz : (List.map zigM (resR (gSum (fixC o)) x o)).all okZ = true := by simpa using hz
      obtain ⟨k2, hk2, hwf⟩ := H6.out hz
      rw [HKC.out] at hwf
      refine ⟨B, v6, _, rfl, hwf, FrameOf.fixed o k2 (by omega) (by omega) hk2 (fun u hu => ?_), fun h => by omega⟩
      rw [List.all_eq_true] at hz
      exact hz _ (List.mem_map_of_mem hu)
    · go_wp2
      go_ret2
      exact ⟨_, false, rfl, HB4.out, fun h => by omega, fun h => by cases h⟩
  · obtain ⟨o, rfl⟩ : ∃ o, kind = 6 + o := ⟨kind - 6, by omega⟩
    have g1 : ¬ ((6 + o : Nat) : Int) = 0 := by omega
    have g2 : ¬ ((6 + o : Nat) : Int) = 1 := by omega
    have g3 : (2 : Int) ≤ ((6 + o : Nat) : Int) := by omega
    have g4 : ¬ ((6 + o : Nat) : Int) ≤ 6 := by omega
    have g5 : (6 : Int) < ((6 + o : Nat) : Int) := by omega
    have g6 : ((6 + o : Nat) : Int) ≤ 18 := by omega
    have hw1 : IntKind.i64.wrap (((6 + o : Nat) : Int) - 6) = o := by rw [IntWalk.i64_in _ (by omega)]; omega
    have HKC := Lib.hid (show ((6 + o : Nat) : Int) = 6 + (o : Int) by omega)
    generalize hkk : ((6 + o : Nat) : Int) = kk at *
    clear hkk
    go_wp2_with fail
    refine (fpred_any w.heap.size B v3 _ _ x o _ HS3.out HX3.out (by have := HL.out; omega) HC.out (by omega) (by omega)).mono ?_
    rintro e w4 ⟨v4, ok, rfl, t4, h4⟩
    have H4 := Lib.hid h4
    have HB4 := Lib.hid (t4.bl w HB3.out (Nat.le_refl _))
    clear h4 t4
    go_wp2_with fail
    go_ret2
    refine ⟨_, ok, rfl, HB4.out, fun h => by omega, fun hz => ?_⟩
    obtain ⟨c, k2, q1, q2, q3, q4, q5, hwf⟩ := H4.out hz
    rw [HKC.out] at hwf
    exact ⟨B, v4, _, rfl, hwf, FrameOf.lpc o k2 c (by omega) (by omega) q1 q2 q3 q4 q5, fun h => by omega⟩

set_option maxRecDepth 100000 in
set_option maxHeartbeats 1000000 in
theorem fenc_any (vx : Value) (x : List Int) (w : World) (hx : intE.Is w vx x) (hc : chkM x = 0) (h1 : 1 ≤ x.length) :
    Calls Try.prog 15 #[vx] w fun e w' => ∃ u bs, e = .returned (.tuple #[u, .int .i64 0]) ∧ Bl w w' ∧ byteE.Own 5 w' w.heap.size u (packB bs) ∧ FrameOf x bs ∧ bs.length ≤ verbLen x.length := by
  have HX := Lib.hid hx
  have HC := Lib.hid hc
  have hxl := (chk_ok hc).2
  obtain ⟨A, cp, rfl, h2, h3, h4, h5⟩ := hx
  clear h2 h3 h4 h5
  have g1 : ¬ (x.length : Int) < 1 := by omega
  have g2 : ¬ (64 : Int) < x.length := by omega
  go_enter Try.func15, Try.ntmps15
  go_wp2_with fail
  refine (xcheck_any _ x _ HX.out (by omega)).mono ?_
  rintro e w' ⟨rfl, rfl⟩
  rw [hc]
  go_wp2_with fail
  go_loopg [5, 22] 19 (fun gk vb i wr => ∃ (k : Nat), k ≤ 19 ∧ gk = 19 - k ∧ i = .int .i64 k ∧ Hid (Bl w' wr) ∧ ((vb = .pointer none ∧ k ≤ 1) ∨ ∃ B v bs, vb = .pointer (some ⟨B, 0, none⟩) ∧ Hid (WrSt 80 5 wr w'.heap.size B v bs) ∧ Hid (FrameOf x bs) ∧ Hid (2 ≤ k → bs.length ≤ verbLen x.length)))
  case atStart => exact ⟨0, by omega, rfl, rfl, Lib.hid (Bl.refl _), .inl ⟨rfl, by omega⟩⟩
  case round =>
    obtain ⟨k, hk, hgk, rfl, HB, hb⟩ := hrel
    by_cases hlt : k < 19
    · have hlti : (k : Int) < 19 := by omega
      go_wp2_with fail
      refine (fdigits_any _ x k _ (HX.out.bl HB.out) hc h1 (by omega)).mono ?_
      rintro e w2 ⟨u, ok, rfl, hb2, hk1, hok⟩
      have HB2 := Lib.hid (HB.out.trans hb2)
      cases ok
      · have hk3 : k ≠ 1 := fun h => by have := hk1 h; cases this
        clear hk1 hok
        go_wp2
        go_roundg (19 - (k + 1))
        case measure => omega
        case rel =>
          refine ⟨k + 1, by omega, rfl, by go_num, HB2, ?_⟩
          rcases hb with ⟨rfl, h0⟩ | ⟨B, v, bs, rfl, hw, hf, hv⟩
          · exact .inl ⟨rfl, by omega⟩
          · exact .inr ⟨B, v, bs, rfl, Lib.hid (hw.out.keep hb2), hf, Lib.hid fun h => hv.out (by omega)⟩
      · obtain ⟨B2, v2, bs2, rfl, hw2, hf2, hl2⟩ := hok rfl
        have HW2 := Lib.hid (show WrSt 80 5 w2 w'.heap.size B2 v2 bs2 from ⟨hw2.blk, hw2.own.low HB.out.size, Nat.le_trans HB.out.size hw2.low⟩)
        have HF2 := Lib.hid hf2
        have HL2 := Lib.hid hl2
        clear hw2 hf2 hl2 hk1 hok
        rcases hb with ⟨rfl, h0⟩ | ⟨B, v, bs, rfl, hw, hf, hv⟩
        · go_wp2
          go_roundg (19 - (k + 1))
          case measure => omega
          case rel => exact ⟨k + 1, by omega, rfl, by go_num, HB2, .inr ⟨B2, v2, bs2, rfl, HW2, HF2, Lib.hid fun h => Nat.le_of_eq (HL2.out (by omega))⟩⟩
        · have HW1 := Lib.hid (hw.out.keep hb2)
          go_wp2_with fail
          refine (wLen_any _ _ _ _ _ HW2.out).mono ?_
          rintro e w3 ⟨rfl, rfl⟩
          go_wp2_with fail
          refine (wLen_any _ _ _ _ _ HW1.out).mono ?_
          rintro e w4 ⟨rfl, rfl⟩
          rcases (show (bs2.length : Int) < bs.length ∨ ¬ (bs2.length : Int) < bs.length by omega) with h | h
          · go_wp2
            go_roundg (19 - (k + 1))
            case measure => omega
            case rel => exact ⟨k + 1, by omega, rfl, by go_num, HB2, .inr ⟨B2, v2, bs2, rfl, HW2, HF2, Lib.hid fun h2 => by
              rcases (show k = 1 ∨ 2 ≤ k by omega) with hq | hq
              · exact Nat.le_of_eq (HL2.out hq)
              · have := hv.out hq; omega⟩⟩
          · go_wp2
            go_roundg (19 - (k + 1))
            case measure => omega
            case rel => exact ⟨k + 1, by omega, rfl, by go_num, HB2, .inr ⟨B, v, bs, rfl, HW1, hf, Lib.hid fun h2 => by
              rcases (show k = 1 ∨ 2 ≤ k by omega) with hq | hq
              · have := HL2.out hq; omega
              · exact hv.out hq⟩⟩
    · obtain rfl : k = 19 := by omega
      rcases hb with ⟨rfl, h0⟩ | ⟨B, v, bs, rfl, hw, hf, hv⟩
      · omega
      · have hvl := hv.out (by omega)
        have HV := Lib.hid hvl
        clear hvl
        go_wp2_with fail
        refine (wBytes_any _ _ _ _ _ hw.out (by have := HV.out; unfold verbLen at this; omega)).mono ?_
        rintro e w2 ⟨u, rfl, ho, hb2⟩
        go_wp2_with fail
        go_ret2
        exact ⟨u, bs, rfl, HB.out.trans hb2, ho.low HB.out.size, hf.out, HV.out⟩
end Go.Proofs.Ytoocebghlchcoaa.ExtW
