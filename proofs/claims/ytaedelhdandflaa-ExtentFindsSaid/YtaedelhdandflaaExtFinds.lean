/- The walk of overdublaw18.ExtentFinds. -/
import Derived.Test.YtaedelhdandflaaFindsPure
import Derived.Test.YtaedelhdandflaaSpotsW
namespace Go.Proofs.Ytaedelhdandflaa.ExtW
open Go.RowKit Go.Ov Go.Proofs.Ytaedelhdandflaa.Need

set_option maxRecDepth 100000 in
set_option maxHeartbeats 4000000 in
theorem finds_walk (v : Value) (l : List Ext) (w : World) (h : ArgExts w v l) :
    Calls Try.prog 9 #[v] w fun e w' => e = .returned (.bool true) ∧ Bl w w' := by
  have HL := Lib.hid h.1
  clear h
  have HB := Lib.hid (Bl.refl w)
  have hu := Try.underlying34
  go_enter Try.func9, Try.ntmps9
  go_wp2_with fail
  refine (row16_any _ _ 10 _ HL.out (by decide)).mono ?_
  rintro e x_1 ⟨r, rfl, ho, hb⟩
  have HR := Lib.hid ho.is
  clear ho
  try replace HL := Lib.hid (HL.out.bl hb)
  try replace HB := Lib.hid (HB.out.bl hb)
  try replace HR := Lib.hid (HR.out.bl hb)
  clear hb
  have hRv := rowM_valid l 10
  generalize rowM l 10 = R at *
  have HRv := Lib.hid hRv
  have rl := valid_len R hRv
  have b1 := valid_bd R 0 (by decide) hRv
  have HSL := Lib.hid (spotsM_len R 0 hRv)
  clear hRv HL
  go_wp2_with fail
  refine (spots_any _ _ _ HR.out (valid_small _ 0 HRv.out) (by omega)).mono ?_
  rintro e x_2 ⟨s, rfl, ho, hb⟩
  have HS := Lib.hid ho.is
  clear ho
  try replace HL := Lib.hid (HL.out.bl hb)
  try replace HB := Lib.hid (HB.out.bl hb)
  try replace HR := Lib.hid (HR.out.bl hb)
  try replace HRv := Lib.hid (HRv.out.bl hb)
  try replace HSL := Lib.hid (HSL.out.bl hb)
  try replace HS := Lib.hid (HS.out.bl hb)
  clear hb
  go_wp2_with fail
  obtain ⟨As, cs, rfl, _, _, _, hS⟩ := HS.out
  have HSA := Lib.hid hS
  obtain ⟨A, c, rfl, r1, r2, r3, hA⟩ := HR.out
  have HA := Lib.hid hA
  clear hS hA
  obtain ⟨N, hN⟩ : ∃ N, N = (spotsM R).length := ⟨_, rfl⟩
  have HN := Lib.hid hN
  have hNb : (N : Int) = endM R := by rw [hN]; exact HSL.out
  have HNb := Lib.hid hNb
  have hN1 : (N : Int) ≤ 1000 := by omega
  rw [← hN]
  clear hN hNb
  go_loopg [4] (N + 2) (fun g i wr => ∃ k : Nat, k ≤ N + 2 ∧ g = N + 2 - k ∧ i = .int .i64 ((k : Int) - 1) ∧ Hid (Bl x_2 wr))
  case atStart => exact ⟨0, by omega, rfl, rfl, Lib.hid (Bl.refl _)⟩
  case round =>
    obtain ⟨k, hk, rfl, rfl, HD⟩ := hrel
    by_cases hin : (k : Int) - 1 ≤ N
    · have hfs := find_same R 0 ((k : Int) - 1) 0 (by decide) (by decide) (by omega) HRv.out
      obtain ⟨hsp1, hsp2⟩ := find_spec R 0 ((k : Int) - 1) 0 (by decide) (by decide) HRv.out
      have hnb := HNb.out
      by_cases hr : 0 ≤ (k : Int) - 1 ∧ (k : Int) - 1 < N
      · obtain ⟨i, hi, q1, q2, q3, q4, q5, q6⟩ := hsp2 (by omega) (by omega)
        have hq : findP (hasM ((k : Int) - 1)) 0 R = ((i : Int), true) := by rw [hfs, q1]; simp
        obtain ⟨m, rfl⟩ : ∃ m, k = m + 1 := ⟨k - 1, by omega⟩
        have em : ((m + 1 : Nat) : Int) - 1 = m := by omega
        have hmN : m < (spotsM R).length := by have := HN.out; omega
        have hmN1 : m < N := by omega
        have hmN2 : (m : Int) < N := by omega
        rw [em] at hq q2 q3 q6 ⊢
        have e6 : (spotsM R)[m] = (R[i].sector, R[i].skip + ((m : Int) - R[i].at_)) := by
          have : (spotsM R)[m]? = _ := q6
          rw [List.getElem?_eq_getElem hmN] at this
          exact Option.some.inj this
        have HQ := Lib.hid hq
        have HE6 := Lib.hid e6
        have hsm := valid_small _ 0 HRv.out R[i] (List.getElem_mem hi)
        clear hfs hsp1 hsp2 q1 hq q6 hnb em hr hin e6
        go_wp2_with fail
        refine (find_any _ R _ _ (HR.out.bl HD.out)).mono ?_
        rintro e x_3 ⟨he, hb⟩
        rw [HQ.out] at he
        dsimp only at he
        subst he
        have HD3 := Lib.hid (HD.out.bl hb)
        clear hb
        obtain ⟨ad, rfl, c0, c1, c2, c3, c4⟩ := ext_at (HA.out.bl HD3.out) i hi
        obtain ⟨ad2, rfl, d0, d1⟩ := pair_at (HSA.out.bl HD3.out) m hmN
        rw [HE6.out] at d0 d1
        dsimp only at d0 d1
        clear HE6 HQ
        generalize R[i] = x at *
        obtain ⟨x0, x1, x2, x3, x4⟩ := x
        dsimp only at c0 c1 c2 c3 c4 d0 d1 q2 q3 q4 q5
        have hx3 : 0 ≤ x3 ∧ x3 ≤ 64 := by simp [small] at hsm; omega
        clear hsm
        have hi2 : (i : Int) < R.length := by omega
        go_wp2_with fail
        have w1 : IntKind.i64.wrap (x0 + x4) = x0 + x4 := IntWalk.i64_in _ (by omega)
        have w2 : IntKind.i64.wrap (x3 + m) = x3 + m := IntWalk.i64_in _ (by omega)
        have w3 : IntKind.i64.wrap (x3 + m - x0) = x3 + m - x0 := IntWalk.i64_in _ (by omega)
        have hqq := eq_pair x1 (x3 + ((m : Int) - x0)) x1 (x3 + m - x0)
        have hqt : eqP (x1, x3 + ((m : Int) - x0)) (x1, x3 + m - x0) = true := by unfold eqP; simp; omega
        have nn : ¬ (i : Int) < 0 := by omega
        have nn2 : decide (R.length ≤ i) = false := by simp; omega
        go_quiet (fail)
        clear w1 w2 w3 hqq
        go_wp2_with fail
        go_roundg (N + 2 - (m + 1 + 1))
        case measure => omega
        case rel => exact ⟨m + 1 + 1, by omega, rfl, by go_num, Lib.hid (HD3.out.drewN _)⟩
      · have hq : findP (hasM ((k : Int) - 1)) 0 R = (0, false) := by rw [hfs, hsp1 (by omega)]
        have hd : k = 0 ∨ k = N + 1 := by omega
        clear hfs hsp1 hsp2 hnb hr hin
        rcases hd with rfl | rfl
        · have HQ := Lib.hid hq
          clear hq
          go_wp2_with fail
          refine (find_any _ R _ _ (HR.out.bl HD.out)).mono ?_
          rintro e x_3 ⟨he, hb⟩
          have hq0 : findP (hasM (-1)) 0 R = (0, false) := HQ.out
          rw [hq0] at he
          dsimp only at he
          subst he
          have HD3 := Lib.hid (HD.out.bl hb)
          clear hb hq0
          go_wp2_with fail
          go_roundg (N + 2 - (0 + 1))
          case measure => omega
          case rel => exact ⟨0 + 1, by omega, rfl, by go_num, HD3⟩
        · have em : ((N + 1 : Nat) : Int) - 1 = N := by omega
          rw [em] at hq ⊢
          have HQ := Lib.hid hq
          clear hq em
          go_wp2_with fail
          refine (find_any _ R _ _ (HR.out.bl HD.out)).mono ?_
          rintro e x_3 ⟨he, hb⟩
          rw [HQ.out] at he
          dsimp only at he
          subst he
          have HD3 := Lib.hid (HD.out.bl hb)
          clear hb
          go_wp2_with fail
          go_roundg (N + 2 - (N + 1 + 1))
          case measure => omega
          case rel => exact ⟨N + 1 + 1, by omega, rfl, by go_num, HD3⟩
    · go_wp2_with fail
      refine (sectors_any _ R _ (HR.out.bl HD.out) (by omega)).mono ?_
      rintro e y ⟨um, rfl, ho, hb⟩
      have HM := Lib.hid ho.is
      have HY := Lib.hid (HD.out.bl hb)
      clear ho hb HD hin hk
      have hms := sortedM_spec (R.map Ext.sector)
      have HM1 := Lib.hid (List.pairwise_iff_getElem.1 hms.1)
      have HM2 := Lib.hid (show ∀ e ∈ R, e.sector ∈ sortedM (R.map Ext.sector) from fun e he => (hms.2 _).2 (List.mem_map_of_mem he))
      have hml := sortedM_len (R.map Ext.sector)
      rw [List.length_map] at hml
      clear hms
      generalize sortedM (R.map Ext.sector) = M at *
      obtain ⟨Am, cm, rfl, _, _, _, hM⟩ := HM.out
      have HMA := Lib.hid hM
      clear hM
      go_wp2_with fail
      go_loopg [102] M.length (fun g i wr => ∃ j : Nat, j ≤ M.length ∧ g = M.length - j ∧ i = .int .i64 j ∧ Hid (Bl y wr))
      case atStart => exact ⟨0, by omega, rfl, rfl, Lib.hid (Bl.refl _)⟩
      case round =>
        obtain ⟨j, hj, rfl, rfl, HD⟩ := hrel
        by_cases hlt : j < M.length
        · by_cases h0 : j = 0
          · subst h0
            go_wp2_with fail
            refine wp_region_ways (S := (fun _ => True)) [0, 1, 2, 3, 4, 5, 6, 7, 8, 9, 10, 11, 12, 13] (y := .take 0 (.take 1 (.take 2 (.take 3 (.take 4 (.take 5 (.take 6 (.take 7 (.take 8 (.take 9 (.take 10 (.take 11 (.take 12 (.take 13 (.done))))))))))))))) (by kernel_rfl) (by kernel_rfl) (by kernel_rfl) ?_ (fun hHeld => ?_)
            · trivial
            repeat (first | (refine wpWay_take rfl (by rfl) (by intro w hSw; (try dsimp only at hSw); first | (go_simp; done) | (go_simp; with_reducible rfl)) ?_; try simp only [Act.put, List.setIfInBounds_toArray, List.set_cons_zero, List.set_cons_succ]) | (refine wpWay_skip rfl (by rfl) ?_; try simp only [Act.put, List.setIfInBounds_toArray, List.set_cons_zero, List.set_cons_succ]))
            refine wpWay_done ?_
            go_wp2_with fail
            go_roundg (M.length - (0 + 1))
            case measure => omega
            case rel => exact ⟨0 + 1, by omega, rfl, by go_num, Lib.hid (HD.out.drew)⟩
          · obtain ⟨p, hp⟩ : ∃ p : Nat, j = p + 1 := ⟨j - 1, by omega⟩
            obtain ⟨ad, rfl, c0⟩ := int_at (HMA.out.bl HD.out) j hlt
            obtain ⟨ad', e', c1⟩ := int_at (HMA.out.bl HD.out) p (by omega)
            obtain rfl : ad = ad' := by injection e'
            have hs := HM1.out p j (by omega) hlt (by omega)
            generalize M[j] = x at *
            generalize M[p] = z at *
            clear e'
            have hj0 : 0 < (j : Int) := by omega
            have hj2 : 0 < j := by omega
            have hpl : p < M.length := by omega
            have hp0 : (p : Int) < M.length := by omega
            have hj1 : (j : Int) < M.length := by omega
            have hw : IntKind.i64.wrap ((j : Int) - 1) = p := by rw [show (j : Int) - 1 = p by omega]; exact IntWalk.i64_in _ (by omega)
            have HP := Lib.hid hp
            clear hp
            go_wp2_with fail
            go_quiet (fail)
            clear hw
            go_wp2_with fail
            go_roundg (M.length - (j + 1))
            case measure => omega
            case rel => exact ⟨j + 1, by omega, rfl, by go_num, Lib.hid (HD.out.drewN _)⟩
        · replace HM := Lib.hid (HM.out.bl HD.out)
          replace HMA := Lib.hid (HMA.out.bl HD.out)
          replace HY := Lib.hid (HY.out.bl HD.out)
          clear HD
          go_wp2_with fail
          obtain ⟨yy, rfl⟩ : ∃ yy : World, yy = wr := ⟨_, rfl⟩
          go_loopg [122] R.length (fun g i wr => ∃ j : Nat, j ≤ R.length ∧ g = R.length - j ∧ i = .int .i64 j ∧ Hid (Bl yy wr))
          case atStart => exact ⟨0, by omega, rfl, rfl, Lib.hid (Bl.refl _)⟩
          case round =>
            obtain ⟨i, hi, rfl, rfl, HD⟩ := hrel
            by_cases hil : i < R.length
            · have hmem := HM2.out R[i] (List.getElem_mem hil)
              obtain ⟨ad, rfl, c0, c1, c2, c3, c4⟩ := ext_at (HA.out.bl (HY.out.bl HD.out)) i hil
              generalize R[i] = x at *
              obtain ⟨x0, x1, x2, x3, x4⟩ := x
              dsimp only at c0 c1 c2 c3 c4 hmem
              have HX := Lib.hid hmem
              have C1 := Lib.hid c1
              clear hmem c0 c1 c2 c3 c4
              have hii : (i : Int) < R.length := by omega
              go_wp2_with fail
              go_loopg [10, 127] M.length (fun g b q ww => ∃ (j : Nat) (v : Bool), j ≤ M.length ∧ g = M.length - j ∧ q = .int .i64 j ∧ b = .bool v ∧ Hid (∀ p : Nat, p < j → M[p]? = some x1 → v = true) ∧ Hid (Bl wr ww))
              case atStart => exact ⟨0, false, by omega, rfl, rfl, rfl, Lib.hid (fun p h => by omega), Lib.hid (Bl.refl _)⟩
              case round =>
                obtain ⟨j, v, hj, rfl, rfl, rfl, HV, HE⟩ := hrel
                by_cases hjl : j < M.length
                · obtain ⟨ad', rfl, d0⟩ := int_at (HMA.out.bl (HD.out.bl HE.out)) j hjl
                  have c1 := HE.out.cell C1.out
                  have HG := Lib.hid (List.getElem?_eq_getElem hjl)
                  generalize M[j] = z at *
                  have hjj : (j : Int) < M.length := by omega
                  go_wp2_with fail
                  cases v with
                  | true =>
                    refine wp_region_ways (S := (fun _ => True)) [0, 1, 2, 3, 4, 5, 6, 7, 8, 9, 10, 11, 12, 13] (y := .take 0 (.take 1 (.take 2 (.take 3 (.take 4 (.take 5 (.take 6 (.take 7 (.take 8 (.take 9 (.take 10 (.take 11 (.take 12 (.take 13 (.done))))))))))))))) (by kernel_rfl) (by kernel_rfl) (by kernel_rfl) ?_ (fun hHeld => ?_)
                    · trivial
                    repeat (first | (refine wpWay_take rfl (by rfl) (by intro w hSw; (try dsimp only at hSw); first | (go_simp; done) | (go_simp; with_reducible rfl)) ?_; try simp only [Act.put, List.setIfInBounds_toArray, List.set_cons_zero, List.set_cons_succ]) | (refine wpWay_skip rfl (by rfl) ?_; try simp only [Act.put, List.setIfInBounds_toArray, List.set_cons_zero, List.set_cons_succ]))
                    refine wpWay_done ?_
                    go_wp2_with fail
                    go_roundg (M.length - (j + 1))
                    case measure => omega
                    case rel => exact ⟨j + 1, true, by omega, rfl, by go_num, rfl, Lib.hid (fun _ _ _ => rfl), Lib.hid HE.out.drew⟩
                  | false =>
                    go_quiet (fail)
                    go_wp2_with fail
                    go_roundg (M.length - (j + 1))
                    case measure => omega
                    case rel =>
                      refine ⟨j + 1, z == x1, by omega, rfl, by go_num, rfl, Lib.hid (fun p hp hq => ?_), Lib.hid (HE.out.drewN _)⟩
                      by_cases hpj : p = j
                      · subst hpj
                        rw [HG.out] at hq
                        simp at hq; simp [hq]
                      · exact absurd (HV.out p (by omega) hq) (by simp)
                · have hv : v = true := by
                    obtain ⟨p, hp, he⟩ := List.getElem_of_mem HX.out
                    exact HV.out p (by omega) (by rw [List.getElem?_eq_getElem hp, he])
                  subst hv
                  go_wp2_with fail
                  go_roundg (R.length - (i + 1))
                  case measure => omega
                  case rel => exact ⟨i + 1, by omega, rfl, by go_num, Lib.hid (HD.out.bl HE.out)⟩
            · go_wp2_with fail
              refine (wakes18_any _).mono ?_
              rintro e z ⟨rfl, hb⟩
              go_wp2_with fail
              go_ret
              exact ⟨rfl, ((HB.out.bl HY.out).bl HD.out).bl hb⟩
end Go.Proofs.Ytaedelhdandflaa.ExtW
