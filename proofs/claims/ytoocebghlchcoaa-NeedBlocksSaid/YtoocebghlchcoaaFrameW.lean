/- Contracts of frame: samples, residuals. -/
import Derived.Test.YtoocebghlchcoaaLpcR
import Derived.Test.YtoocebghlchcoaaLevC
namespace Go.Proofs.Ytoocebghlchcoaa.ExtW
open Go.RowKit Go.Ov Go.Proofs.Ytoocebghlchcoaa.Need

theorem smpB_step (x : List Int) (k : Nat) (hk : k < x.length) : smpB (x.take (k + 1)) = smpB (x.take k) ++ numB (x[k] + 8388608) 24 := by
  unfold smpB; rw [List.take_succ_eq_append_getElem hk, List.flatMap_append]; simp
theorem smpB_len (x : List Int) : (smpB x).length = 24 * x.length := by
  induction x with
  | nil => rfl
  | cons v x ih =>
    unfold smpB at ih ⊢
    rw [List.flatMap_cons, List.length_append, numB_len, ih, List.length_cons]; omega
theorem coeB_step (x : List Int) (k : Nat) (hk : k < x.length) : coeB (x.take (k + 1)) = coeB (x.take k) ++ numB (x[k] + 32768) 16 := by
  unfold coeB; rw [List.take_succ_eq_append_getElem hk, List.flatMap_append]; simp
theorem coeB_len (x : List Int) : (coeB x).length = 16 * x.length := by
  induction x with
  | nil => rfl
  | cons v x ih =>
    unfold coeB at ih ⊢
    rw [List.flatMap_cons, List.length_append, numB_len, ih, List.length_cons]; omega

set_option maxHeartbeats 1000000 in
theorem fsamples_any (base B : Nat) (v : Value) (bs : List Bool) (vx : Value) (x : List Int) (w : World) (h : WrSt 80 5 w base B v bs) (hx : intE.Is (only w (nobW B v)) vx x) (hl : bs.length ≤ 400000) (hn : x.length ≤ 64) (hs : ∀ u ∈ x, okS u = true) :
    Calls Try.prog 25 #[.pointer (some ⟨B, 0, none⟩), vx] w fun e w' => ∃ v', e = .returned (.tuple #[]) ∧ WrSt 80 5 w' base B v' (bs ++ smpB x) ∧ WStep base w w' B v v' := by
  have HW := Lib.hid h
  have HX := Lib.hid hx
  have HS := Lib.hid hs
  obtain ⟨A, c, rfl, h1, h2, h3, h4⟩ := hx
  clear h h1 h2 h3 h4 hs
  go_enter Try.func25, Try.ntmps25
  go_wp2_with fail
  go_loopg [8] x.length (fun gk i wr => ∃ (k : Nat) (v' : Value), k ≤ x.length ∧ gk = x.length - k ∧ i = .int .i64 k ∧ Hid (WrSt 80 5 wr base B v' (bs ++ smpB (x.take k))) ∧ Hid (WStep base w wr B v v'))
  case atStart => exact ⟨0, v, by omega, rfl, rfl, Lib.hid (by simpa [smpB] using HW.out), Lib.hid (WStep.refl _ _ _ _)⟩
  case round =>
    obtain ⟨k, v', hk, hgk, rfl, HWk, HT⟩ := hrel
    by_cases hlt : k < x.length
    · have hlti : (k : Int) < x.length := by omega
      have hIx := HT.out.sub.is HX.out
      obtain ⟨_, _, e1, _, _, _, hat⟩ := hIx
      simp only [Value.slice.injEq] at e1
      obtain ⟨rfl, -, -⟩ := e1
      obtain ⟨ad, rfl, c0⟩ := int_at hat k hlt
      have c0 := (only_cell c0).2
      have HSt := Lib.hid (smpB_step x k hlt)
      have hok := HS.out _ (List.getElem_mem hlt)
      clear hat
      generalize x[k] = y at *
      have hy : -8388608 ≤ y ∧ y ≤ 8388607 := by simpa [okS] using hok
      clear hok
      have hw1 : IntKind.i64.wrap (y - -8388608) = y + 8388608 := by rw [IntWalk.i64_in _ (by omega)]; omega
      go_wp2_with fail
      refine (wPut_any base B v' _ (y + 8388608) 24 _ HWk.out (by rw [List.length_append, smpB_len, List.length_take]; omega) (by omega) (by omega) (by omega)).mono ?_
      rintro e w' ⟨v2, rfl, hs, ht⟩
      have HS2 := Lib.hid hs
      have HT2 := Lib.hid (HT.out.trans ht)
      clear hs ht
      go_wp2_with fail
      go_roundg (x.length - (k + 1))
      case measure => omega
      case rel => exact ⟨k + 1, v2, by omega, rfl, by go_num, Lib.hid (by rw [HSt.out, ← List.append_assoc]; exact HS2.out), HT2⟩
    · obtain rfl : k = x.length := by omega
      go_wp2_with fail
      go_end0
      have := HWk.out
      rw [List.take_length] at this
      exact ⟨v', rfl, this, HT.out⟩

theorem rice_sum (k : Nat) (hk : k ≤ 24) (q : List Int) (h : q.all okZ = true) : (q.map fun a => (riceB k a).length).sum ≤ q.length * 56 := by
  induction q with
  | nil => simp
  | cons a q ih =>
    simp only [List.all_cons, Bool.and_eq_true] at h
    have h1 := riceB_len k hk a (by have := h.1; simp [okZ] at this; omega)
    have h2 := ih h.2
    simp only [List.map_cons, List.sum_cons, List.length_cons]
    omega
set_option maxHeartbeats 1000000 in
theorem fresid_any (base B : Nat) (v : Value) (bs : List Bool) (vr : Value) (r : List Int) (w : World) (h : WrSt 80 5 w base B v bs) (hx : intE.Is (only w (nobW B v)) vr r) (hl : bs.length ≤ 400000) (hn : r.length ≤ 64) :
    Calls Try.prog 27 #[.pointer (some ⟨B, 0, none⟩), vr] w fun e w' => ∃ v', e = .returned (.bool ((r.map zigM).all okZ)) ∧ WStep base w w' B v v' ∧ ((r.map zigM).all okZ = true → ∃ k ≤ 24, WrSt 80 5 w' base B v' (bs ++ resB k r)) := by
  have HW := Lib.hid h
  have HX := Lib.hid hx
  obtain ⟨A, c, rfl, h1, h2, h3, h4⟩ := hx
  clear h h1 h2 h3 h4
  obtain ⟨z, hz⟩ : ∃ z, z = r.map zigM := ⟨_, rfl⟩
  rw [← hz]
  have hzl : z.length = r.length := by rw [hz, List.length_map]
  have HZL := Lib.hid hzl
  have HZ := Lib.hid hz
  clear hz hzl
  obtain ⟨okb, hok⟩ : ∃ b, b = z.all okZ := ⟨_, rfl⟩
  rw [← hok]
  have HOK := Lib.hid hok
  clear hok
  go_enter Try.func27, Try.ntmps27
  go_wp2_with fail
  go_loopg [5, 14] r.length (fun gk u i wr => ∃ (k : Nat), k ≤ r.length ∧ gk = r.length - k ∧ i = .int .i64 k ∧ Hid (intE.Own 3 wr w.heap.size u (z.take k)) ∧ Hid (Bl w wr))
  case atStart => exact ⟨0, by omega, rfl, rfl, Lib.hid (Enc.Own.nil _ _ _), Lib.hid (Bl.refl _)⟩
  case round =>
    obtain ⟨k, hk, hgk, rfl, HO, HB⟩ := hrel
    by_cases hlt : k < r.length
    · have hlti : (k : Int) < r.length := by omega
      have hIx := (Sub.bl (HB.out.only _)).is HX.out
      obtain ⟨_, _, e1, _, _, _, hat⟩ := hIx
      simp only [Value.slice.injEq] at e1
      obtain ⟨rfl, -, -⟩ := e1
      obtain ⟨ad, rfl, c0⟩ := int_at hat k hlt
      have c0 := (only_cell c0).2
      have hkz : k < z.length := by rw [HZL.out]; exact hlt
      have HY := Lib.hid (show z[k] = zigM r[k] by simp only [HZ.out, List.getElem_map])
      have HTk := Lib.hid (List.take_succ_eq_append_getElem hkz)
      have hzl : (z.take k).length ≤ 64 := by rw [List.length_take]; omega
      clear hat
      generalize r[k] = y at *
      go_wp2_with fail
      refine (zig_any _ _).mono ?_
      rintro e w' ⟨rfl, rfl⟩
      go_wp2_with (at_builtin; refine Enc.Own.append1 (E := intE) rfl (.tmp 18) (.tmp 21) 22 rfl w.heap.size 3 (.int .i64 0) 1 8 Try.underlying22 infoIntX rfl rfl (by decide) (by decide) _ _ rfl HO.out (zigM y) _ rfl rfl rfl (by omega) (HB.out.size) ?_; intro u1 w2 ho hg)
      go_roundg (r.length - (k + 1))
      case measure => omega
      case rel => exact ⟨k + 1, by omega, rfl, by go_num, Lib.hid (by rw [HTk.out, HY.out]; exact ho), Lib.hid ((HB.out.alloc _).grown hg (fun g hgk => (HO.out.lt g hgk).1))⟩
    · obtain rfl : k = r.length := by omega
      have HO2 := Lib.hid (show intE.Own 3 wr w.heap.size u5 z by have := HO.out; rwa [List.take_of_length_le (by rw [HZL.out]; omega)] at this)
      have HM := Lib.hid (HW.out.isM HO2.out)
      have HK := Lib.hid (HW.out.keep HB.out)
      have HST := Lib.hid (WStep.of_bl (base := base) (B := B) (v := v) HB.out)
      obtain ⟨A2, c2, rfl⟩ := HO2.out.slice
      have hzn : z.length ≤ 64 := by have := HZL.out; omega
      clear HO
      go_wp2_with fail
      refine (zbest_any _ z _ HO2.out.is (by omega)).mono ?_
      rintro e w' ⟨⟨kb, s, hkb, rfl⟩, rfl⟩
      go_wp2_with fail
      refine (wPut_any base B v _ kb 5 _ HK.out (by omega) (by omega) (by omega) (by omega)).mono ?_
      rintro e w1 ⟨v1, rfl, hs, ht⟩
      have HS1 := Lib.hid hs
      have HT1 := Lib.hid (HST.out.trans ht)
      have HM1 := Lib.hid (ht.sub.is HM.out)
      clear hs ht HST HK HM HO2
      go_wp2_with fail
      go_loopg [4, 34] z.length (fun gk v4 i wr => ∃ (k : Nat) (v' : Value), k ≤ z.length ∧ gk = z.length - k ∧ i = .int .i64 k ∧ Hid ((z.take k).all okZ = true) ∧ Hid (WrSt 80 5 wr base B v' (bs ++ (numB kb 5 ++ (z.take k).flatMap (riceB kb)))) ∧ Hid (WStep base w1 wr B v1 v'))
      case atStart => exact ⟨0, v1, by omega, rfl, rfl, Lib.hid rfl, Lib.hid (by simpa using HS1.out), Lib.hid (WStep.refl _ _ _ _)⟩
      case round =>
        obtain ⟨k, v', hk, hgk, rfl, HA, HS, HT⟩ := hrel
        by_cases hlt : k < z.length
        · have hlti : (k : Int) < z.length := by omega
          have hIx := HT.out.sub.is HM1.out
          obtain ⟨_, _, e1, _, _, _, hat⟩ := hIx
          simp only [Value.slice.injEq] at e1
          obtain ⟨rfl, -, -⟩ := e1
          obtain ⟨ad, rfl, c0⟩ := int_at hat k hlt
          have c0 := (only_cell c0).2
          have HTk := Lib.hid (List.take_succ_eq_append_getElem hlt)
          have HMem := Lib.hid (List.getElem_mem hlt)
          have hln : (bs ++ (numB kb 5 ++ (z.take k).flatMap (riceB kb))).length ≤ 800000 := by
            rw [List.length_append, List.length_append, numB_len, List.length_flatMap]
            have := rice_sum kb hkb (z.take k) HA.out
            rw [List.length_take] at this
            omega
          clear hat
          generalize z[k] = y at *
          go_wp2_with fail
          refine (zput_any base B v' _ y kb _ HS.out hln hkb).mono ?_
          rintro e w' ⟨rfl, v2, hs, ht⟩
          have HT2 := Lib.hid (HT.out.trans ht)
          cases hy : okZ y
          · go_wp2
            go_ret
            have hf : okb = false := by
              rw [HOK.out, Bool.eq_false_iff]
              intro h
              rw [List.all_eq_true] at h
              have := h _ HMem.out
              rw [hy] at this; cases this
            exact ⟨v2, by rw [hf]; rfl, HT1.out.trans HT2.out, fun h => by rw [hf] at h; cases h⟩
          · rw [hy, if_pos rfl] at hs
            have HS2 := Lib.hid hs
            clear hs ht
            go_wp2
            go_roundg (z.length - (k + 1))
            case measure => omega
            case rel => exact ⟨k + 1, v2, by omega, rfl, by go_num, Lib.hid (by rw [HTk.out, List.all_append, HA.out]; simp [hy]), Lib.hid (by rw [HTk.out, List.flatMap_append]; simpa using HS2.out), HT2⟩
        · obtain rfl : k = z.length := by omega
          have hall := HA.out
          have hs := HS.out
          rw [List.take_length] at hall hs
          have hf : okb = true := by rw [HOK.out, hall]
          have HF := Lib.hid hf
          have HS2 := Lib.hid hs
          clear hall hs hf
          go_wp2
          go_ret
          exact ⟨v', by rw [HF.out]; rfl, HT1.out.trans HT.out, fun _ => ⟨kb, hkb, by unfold resB; rw [← HZ.out]; exact HS2.out⟩⟩
end Go.Proofs.Ytoocebghlchcoaa.ExtW
