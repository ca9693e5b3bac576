/- overdublaw26.AuditShort, walked. -/
import Derived.Test.YtoocebghlchcoaaGreatAudK
import Derived.Test.YtoocebghlchcoaaGreatOpenBytes
namespace Go.Proofs.YtoocebghlchcoaaGreat.ExtW
open Go.RowKit Go.Ov Go.Proofs.YtoocebghlchcoaaGreat.Need
set_option maxRecDepth 100000 in
set_option maxHeartbeats 4000000 in
theorem auditShort_walk (v : Value) (l : List Int) (n : Int) (w : World) (h : ArgBytes w v l) (_ : -9223372036854775808 ≤ n ∧ n ≤ 9223372036854775807) :
    Calls Tryz.prog 4 #[v, .int .i64 n] w fun e w' => e = .returned (.bool true) ∧ Bl w w' := by
  have HV := Lib.hid h
  have hl0 := h.2.1
  obtain ⟨j, hj, hj40⟩ : ∃ j : Nat, within n 40 = j ∧ j < 40 := ⟨(within n 40).toNat, by have := within_bd n 40 (by decide); omega, by have := within_bd n 40 (by decide); omega⟩
  have HJ := Lib.hid hj
  obtain ⟨Kz, hKz⟩ : ∃ Kz, Kz = 128 * (j + 1) := ⟨_, rfl⟩
  have HKz := Lib.hid hKz
  have w1 : IntKind.i64.wrap (1 + (j : Int)) = 1 + j := IntWalk.i64_in _ (by omega)
  have w2 : IntKind.i64.wrap ((1 + (j : Int)) * 128) = (Kz : Int) := by rw [IntWalk.i64_in _ (by omega)]; omega
  have hmk : ∀ w, (Instr.makeSlice 25 (.int .i64 Kz) (.int .i64 Kz)).run Tryz.prog w = .ok (.slice (some ⟨w.heap.size, 0, none⟩) Kz Kz) (w.alloc (.cells (rowB (List.replicate (128 * (j + 1)) 0)) 5)) := fun w => by
    have := run_make_row' (P := Tryz.prog) 25 5 (.int .u8 0) 1 Tryz.underlying25 infoByte rfl .i64 .i64 Kz (by omega) (by omega) w
    rw [← HKz.out, ← row_made]; exact this
  clear h hj hKz
  go_enter Tryz.func4, Tryz.ntmps4
  go_wp2_with fail
  refine (cutCopyByte_any v l 100 _ HV.out.1 (by omega) (by decide)).mono ?_
  rintro e w1 ⟨u1, rfl, ho1, hb1⟩
  obtain ⟨L, hL⟩ : ∃ L, L = l.take 100 := ⟨_, rfl⟩
  rw [← hL] at ho1
  have hL1 : L.length ≤ 100 := by rw [hL, List.length_take]; omega
  have e2 : (L.length : Int).tmod 128 = (L.length : Int) % 128 := Int.tmod_eq_emod_of_nonneg (by omega)
  obtain ⟨A1, c1, rfl⟩ := ho1.slice
  have HO := Lib.hid ho1
  have HB := Lib.hid hb1
  clear hL ho1 hb1
  by_cases hc : (L.length : Int) % 128 = 0
  · have hO1 := fun k hk => (HO.out.lt k hk).1
    have HL0 := Lib.hid (show L.length = 0 by omega)
    go_wp2_with (at_builtin; refine Enc.Own.append1 (E := byteE) rfl (.tmp 28) (.tmp 29) 25 rfl w.heap.size 5 (.int .u8 0) 1 1 Tryz.underlying25 infoByte rfl rfl (by decide) (by decide) _ L rfl HO.out 7 _ rfl rfl rfl (by omega) HB.out.size ?_; intro u2 w2 ho2 hg2; obtain ⟨Lb, hLb⟩ : ∃ Lb, Lb = L ++ [7] := ⟨_, rfl⟩; rw [← hLb] at ho2; have HLb := Lib.hid hLb; clear hLb; obtain ⟨A2, c2, rfl⟩ := ho2.slice; have HO2 := Lib.hid ho2; have HG2 := Lib.hid hg2)
    have hLl : Lb.length ≤ 101 := by rw [HLb.out, List.length_append, HL0.out]; decide
    have HS := Lib.hid (show sectorsM Lb = 0 by
      have : Lb.length = 1 := by rw [HLb.out, List.length_append, HL0.out]; rfl
      unfold sectorsM; rw [this]; rfl)
    replace HO := HO2
    replace HB := Lib.hid ((HB.out.alloc (.cells #[.int .u8 7] 5)).grown HG2.out hO1)
    clear HO2 HG2
    go_wp2_with fail
    refine (aReach_err _ 1 _ (found_arg _ Lb _ HO.out.is (by omega) HS.out) (by decide)).mono ?_
    rintro e w3 ⟨rfl, hb3⟩
    have HB3 := Lib.hid (HB.out.trans hb3)
    replace HO := Lib.hid (HO.out.bl hb3)
    clear hb3 HB
    go_wp2_with fail
    refine (aShow_err _ 1 _ (found_arg _ Lb _ HO.out.is (by omega) HS.out) (by decide)).mono ?_
    rintro e w4 ⟨rfl, hb4⟩
    have hal4 := (Bl.refl w4).alloc (.cells #[.slice none 0 0, .slice none 0 0, .slice none 0 0] 50)
    have HB4 := Lib.hid ((HB3.out.trans hb4).trans hal4)
    replace HO := Lib.hid ((HO.out.bl hb4).bl hal4)
    clear hb4 HB3 hal4
    unfold viewC
    go_wp2_with fail
    generalize w4.alloc (.cells #[.slice none 0 0, .slice none 0 0, .slice none 0 0] 50) = w4a at *
    refine (aJournal_err _ 1 _ (found_arg _ Lb _ HO.out.is (by omega) HS.out) (by decide)).mono ?_
    rintro e w5 ⟨rfl, hb5⟩
    have HB5 := Lib.hid (HB4.out.trans hb5)
    replace HO := Lib.hid (HO.out.bl hb5)
    clear hb5 HB4
    go_wp2_with fail
    refine (aSamples_arg _ Lb _ HO.out.is (by omega) HS.out).mono ?_
    rintro e w6 ⟨rfl, hb6⟩
    have HB6 := Lib.hid (HB5.out.trans hb6)
    clear hb6 HB5 HO
    go_wp2_with fail
    refine (within_any _ _ _ (by omega)).mono ?_
    rintro e w6' ⟨rfl, rfl⟩
    rw [HJ.out]
    go_wp2_with fail
    have hZ := Blk.new w6 (rowB (List.replicate (128 * (j + 1)) 0)) 5
    have HZ := Lib.hid (show byteE.Own 5 (w6.alloc (.cells (rowB (List.replicate (128 * (j + 1)) 0)) 5)) w6.heap.size (.slice (some ⟨w6.heap.size, 0, none⟩) Kz Kz) (List.replicate (128 * (j + 1)) 0) from own_row hZ (Nat.le_refl _) (by rw [List.length_replicate]; exact HKz.out) (by rw [HKz.out]; have := hj40; simp [maxLen]; omega))
    have HB7 := Lib.hid (HB6.out.alloc (.cells (rowB (List.replicate (128 * (j + 1)) 0)) 5))
    clear hZ HB6
    generalize w6.alloc (.cells (rowB (List.replicate (128 * (j + 1)) 0)) 5) = w7 at *
    generalize w6.heap.size = N7 at *
    refine (aReach_err _ 2 _ (found_zero _ _ (j + 1) _ HZ.out.is rfl (by omega) (by omega)) (by decide)).mono ?_
    rintro e w8 ⟨rfl, hb8⟩
    have HB8 := Lib.hid (HB7.out.trans hb8)
    replace HZ := Lib.hid (HZ.out.bl hb8)
    clear hb8 HB7
    go_wp2_with fail
    refine (aShow_err _ 2 _ (found_zero _ _ (j + 1) _ HZ.out.is rfl (by omega) (by omega)) (by decide)).mono ?_
    rintro e w9 ⟨rfl, hb9⟩
    have hal9 := (Bl.refl w9).alloc (.cells #[.slice none 0 0, .slice none 0 0, .slice none 0 0] 50)
    have HB9 := Lib.hid ((HB8.out.trans hb9).trans hal9)
    replace HZ := Lib.hid ((HZ.out.bl hb9).bl hal9)
    clear hb9 HB8 hal9
    unfold viewC
    go_wp2_with fail
    generalize w9.alloc (.cells #[.slice none 0 0, .slice none 0 0, .slice none 0 0] 50) = w9a at *
    refine (aJournal_err _ 2 _ (found_zero _ _ (j + 1) _ HZ.out.is rfl (by omega) (by omega)) (by decide)).mono ?_
    rintro e w10 ⟨rfl, hb10⟩
    have HB10 := Lib.hid (HB9.out.trans hb10)
    replace HZ := Lib.hid (HZ.out.bl hb10)
    clear hb10 HB9
    go_wp2_with fail
    refine (aSamples_nil _ _ _ (j + 1) HZ.out.is (by rw [List.length_replicate]; omega) (sectors_of List.length_replicate (by omega)) (by omega)).mono ?_
    rintro e w11 ⟨rfl, hb11⟩
    have HB11 := Lib.hid (HB10.out.trans hb11)
    clear hb11 HB10 HZ
    go_wp2_with fail
    refine (wakes26_any _).mono ?_
    rintro e w12 ⟨rfl, hb12⟩
    go_wp2
    go_ret
    exact ⟨rfl, HB11.out.trans hb12⟩
  · obtain ⟨Lb, hLb⟩ : ∃ Lb, Lb = L := ⟨_, rfl⟩
    rw [← hLb] at HO
    have HS := Lib.hid (show sectorsM Lb = 0 by unfold sectorsM; rw [hLb, if_pos (by omega)])
    have hLl : Lb.length ≤ 101 := by rw [hLb]; omega
    subst hLb
    go_wp2_with fail
    refine (aReach_err _ 1 _ (found_arg _ Lb _ HO.out.is (by omega) HS.out) (by decide)).mono ?_
    rintro e w3 ⟨rfl, hb3⟩
    have HB3 := Lib.hid (HB.out.trans hb3)
    replace HO := Lib.hid (HO.out.bl hb3)
    clear hb3 HB
    go_wp2_with fail
    refine (aShow_err _ 1 _ (found_arg _ Lb _ HO.out.is (by omega) HS.out) (by decide)).mono ?_
    rintro e w4 ⟨rfl, hb4⟩
    have hal4 := (Bl.refl w4).alloc (.cells #[.slice none 0 0, .slice none 0 0, .slice none 0 0] 50)
    have HB4 := Lib.hid ((HB3.out.trans hb4).trans hal4)
    replace HO := Lib.hid ((HO.out.bl hb4).bl hal4)
    clear hb4 HB3 hal4
    unfold viewC
    go_wp2_with fail
    generalize w4.alloc (.cells #[.slice none 0 0, .slice none 0 0, .slice none 0 0] 50) = w4a at *
    refine (aJournal_err _ 1 _ (found_arg _ Lb _ HO.out.is (by omega) HS.out) (by decide)).mono ?_
    rintro e w5 ⟨rfl, hb5⟩
    have HB5 := Lib.hid (HB4.out.trans hb5)
    replace HO := Lib.hid (HO.out.bl hb5)
    clear hb5 HB4
    go_wp2_with fail
    refine (aSamples_arg _ Lb _ HO.out.is (by omega) HS.out).mono ?_
    rintro e w6 ⟨rfl, hb6⟩
    have HB6 := Lib.hid (HB5.out.trans hb6)
    clear hb6 HB5 HO
    go_wp2_with fail
    refine (within_any _ _ _ (by omega)).mono ?_
    rintro e w6' ⟨rfl, rfl⟩
    rw [HJ.out]
    go_wp2_with fail
    have hZ := Blk.new w6 (rowB (List.replicate (128 * (j + 1)) 0)) 5
    have HZ := Lib.hid (show byteE.Own 5 (w6.alloc (.cells (rowB (List.replicate (128 * (j + 1)) 0)) 5)) w6.heap.size (.slice (some ⟨w6.heap.size, 0, none⟩) Kz Kz) (List.replicate (128 * (j + 1)) 0) from own_row hZ (Nat.le_refl _) (by rw [List.length_replicate]; exact HKz.out) (by rw [HKz.out]; have := hj40; simp [maxLen]; omega))
    have HB7 := Lib.hid (HB6.out.alloc (.cells (rowB (List.replicate (128 * (j + 1)) 0)) 5))
    clear hZ HB6
    generalize w6.alloc (.cells (rowB (List.replicate (128 * (j + 1)) 0)) 5) = w7 at *
    generalize w6.heap.size = N7 at *
    refine (aReach_err _ 2 _ (found_zero _ _ (j + 1) _ HZ.out.is rfl (by omega) (by omega)) (by decide)).mono ?_
    rintro e w8 ⟨rfl, hb8⟩
    have HB8 := Lib.hid (HB7.out.trans hb8)
    replace HZ := Lib.hid (HZ.out.bl hb8)
    clear hb8 HB7
    go_wp2_with fail
    refine (aShow_err _ 2 _ (found_zero _ _ (j + 1) _ HZ.out.is rfl (by omega) (by omega)) (by decide)).mono ?_
    rintro e w9 ⟨rfl, hb9⟩
    have hal9 := (Bl.refl w9).alloc (.cells #[.slice none 0 0, .slice none 0 0, .slice none 0 0] 50)
    have HB9 := Lib.hid ((HB8.out.trans hb9).trans hal9)
    replace HZ := Lib.hid ((HZ.out.bl hb9).bl hal9)
    clear hb9 HB8 hal9
    unfold viewC
    go_wp2_with fail
    generalize w9.alloc (.cells #[.slice none 0 0, .slice none 0 0, .slice none 0 0] 50) = w9a at *
    refine (aJournal_err _ 2 _ (found_zero _ _ (j + 1) _ HZ.out.is rfl (by omega) (by omega)) (by decide)).mono ?_
    rintro e w10 ⟨rfl, hb10⟩
    have HB10 := Lib.hid (HB9.out.trans hb10)
    replace HZ := Lib.hid (HZ.out.bl hb10)
    clear hb10 HB9
    go_wp2_with fail
    refine (aSamples_nil _ _ _ (j + 1) HZ.out.is (by rw [List.length_replicate]; omega) (sectors_of List.length_replicate (by omega)) (by omega)).mono ?_
    rintro e w11 ⟨rfl, hb11⟩
    have HB11 := Lib.hid (HB10.out.trans hb11)
    clear hb11 HB10 HZ
    go_wp2_with fail
    refine (wakes26_any _).mono ?_
    rintro e w12 ⟨rfl, hb12⟩
    go_wp2
    go_ret
    exact ⟨rfl, HB11.out.trans hb12⟩
end Go.Proofs.YtoocebghlchcoaaGreat.ExtW
