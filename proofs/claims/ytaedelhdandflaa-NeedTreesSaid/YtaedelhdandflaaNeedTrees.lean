/- The walk of overdublaw24.NeedTrees. -/
import Derived.Test.YtaedelhdandflaaTreeCount
import Derived.Test.YtaedelhdandflaaOpen
import Derived.Test.YtaedelhdandflaaNeedNodes
namespace Go.Proofs.Ytaedelhdandflaa.ExtW
open Go.RowKit Go.Ov Go.Proofs.Ytaedelhdandflaa.Need

def rowE (k : Nat) : Ext := ⟨k, 1 + k, 1, 0, 1⟩
def rowK (k : Nat) : List Ext := (List.range k).map rowE
theorem rowK_succ (k : Nat) : rowK (k + 1) = rowK k ++ [rowE k] := by simp [rowK, List.range_succ]
theorem rowK_len (k : Nat) : (rowK k).length = k := by simp [rowK]

set_option maxRecDepth 100000 in
set_option maxHeartbeats 4000000 in
theorem trees_walk (v : Value) (l : List Int) (v2 : Value) (sp : List Int) (w : World) (h : ArgInts w v l) (h2 : ArgInts w v2 sp) :
    Calls Try.prog 8 #[v, v2] w fun e w' => e = .returned (.bool true) ∧ Bl w w' := by
  obtain ⟨⟨A, c, rfl, _, q1, _, hA⟩, _, _⟩ := h
  obtain ⟨⟨A2, c2, rfl, _, q2, _, hA2⟩, _, _⟩ := h2
  have HA := Lib.hid hA
  have HA2 := Lib.hid hA2
  unfold maxLen at q1 q2
  have hl : l.length ≤ 9223372036854775807 := by omega
  have hl2 : sp.length ≤ 9223372036854775807 := by omega
  clear hA hA2 q1 q2
  go_enter Try.func8, Try.ntmps8
  go_wp2_with fail
  refine (tnew_any _).mono ?_
  rintro e w1 ⟨t0, rfl, ht, hb⟩
  have HT := Lib.hid ht
  have HB := Lib.hid hb
  obtain ⟨b0, _, _, rfl, _⟩ := ht
  clear hb
  go_wp2_with fail
  go_loopg [5, 6] l.length (fun g t i wr => ∃ (k : Nat) (r : List Ext), k ≤ l.length ∧ k ≤ 10 ∧ g = l.length - k ∧ i = .int .i64 k ∧ Hid (TreeIs wr t (treeM r)) ∧ Hid (validFrom 0 r = true) ∧ Hid (Bl w wr))
  case atStart => exact ⟨0, [], by omega, by omega, rfl, rfl, HT, Lib.hid rfl, HB⟩
  case round =>
    clear HT HB
    obtain ⟨k, r, hk, hk10, rfl, rfl, HT, HV, HB⟩ := hrel
    obtain ⟨wp, rfl⟩ : ∃ wp : World, wp = wr := ⟨_, rfl⟩
    by_cases hlt : k < l.length ∧ k < 10
    · obtain ⟨hlt, hlt10⟩ := hlt
      obtain ⟨ad, rfl, d0⟩ := int_at (HA.out.bl HB.out) k hlt
      generalize l[k] = x at d0
      have D0 := Lib.hid d0
      have hx := within_bd x 60 (by decide)
      obtain ⟨m, hm⟩ : ∃ m : Nat, (m : Int) = within x 60 := ⟨(within x 60).toNat, by omega⟩
      have HM := Lib.hid hm
      have hm60 : m < 60 := by omega
      have hkl : (k : Int) < l.length := by omega
      have hkt : decide ((k : Int) < 10) = true := by simp; omega
      clear d0 hm hx
      go_wp2_with fail
      go_loopg [7, 8] m (fun g s i wr => ∃ j : Nat, j ≤ m ∧ g = m - j ∧ i = .int .i64 j ∧ Hid (extE.Own 34 wr wp.heap.size s (rowK j)) ∧ Hid (Bl wp wr))
      case atStart => exact ⟨0, by omega, rfl, rfl, Lib.hid (Enc.Own.nil _ _ _), Lib.hid (Bl.refl _)⟩
      case round =>
        obtain ⟨j, hj, rfl, rfl, HO, HD⟩ := hrel
        have d0 := HD.out.cell D0.out
        by_cases hjm : j < m
        · have hji : (j : Int) < m := by omega
          have hrs := Lib.hid (rowK_succ j)
          have hrl := Lib.hid (rowK_len j)
          generalize rowK j = rk at *
          go_wp2_with fail
          refine (within_any _ _ _ (by decide)).mono ?_
          rintro e w2 ⟨rfl, rfl⟩
          rw [← HM.out]
          go_wp2_with (at_builtin; refine Enc.Own.append1 (E := extE) rfl (.tmp 35) (.tmp 40) 28 rfl wp.heap.size 34 (.agg #[.int .i64 0, .int .i64 0, .int .i64 0, .int .i64 0, .int .i64 0]) 5 40 Try.underlying28 infoExt rfl rfl (by decide) (by decide) u7 rk rfl HO.out ⟨j, 1 + j, 1, 0, 1⟩ _ rfl rfl rfl ?hlen ?hbase ?_; (case hlen => have := hrl.out; omega); (case hbase => exact HD.out.size); intro v1 w3 ho hg)
          have hD3 := Lib.hid ((HD.out.alloc _).grown hg (fun k hk => (Enc.Own.lt HO.out k hk).1))
          have hO3 := Lib.hid ho
          clear ho hg
          go_roundg (m - (j + 1))
          case measure => omega
          case rel => exact ⟨j + 1, by omega, rfl, by go_num, Lib.hid (by rw [hrs.out]; exact hO3.out), hD3⟩
        · have hji : ¬ (j : Int) < m := by omega
          go_wp2_with fail
          refine (within_any _ _ _ (by decide)).mono ?_
          rintro e w2 ⟨rfl, rfl⟩
          rw [← HM.out]
          go_wp2_with fail
          have HT2 := Lib.hid (HT.out.bl HD.out)
          have hvb := validFrom_bd r 0 (by decide) HV.out
          clear HT
          have hE1 : 0 ≤ endM r := by omega
          have hE2 : endM r ≤ 1000 := by omega
          have hw1 : IntKind.i64.wrap (endM r + 1) = endM r + 1 := IntWalk.i64_in _ (by omega)
          refine wp_region_ways (S := (fun w' => w'.cell? (ad.add k) = some (.int .i64 x))) [0, 1, 2, 3, 4, 5, 7, 9] (y := .take 0 (.take 1 (.take 2 (.take 3 (.take 4 (.take 5 (.ev 6 (.take 7 (.ev 8 (.take 9 (.done)) (.stop))) (.stop)))))))) (by kernel_rfl) (by kernel_rfl) (by kernel_rfl) ?_ (fun hHeld => ?_)
          · exact Bl.cell (Bl.refl _).drew d0
          have D1 := Lib.hid hHeld
          repeat (first | (refine wpWay_take rfl (by rfl) (by intro w hSw; (try dsimp only at hSw); first | (go_simp; done) | (go_simp; with_reducible rfl)) ?_; try simp only [Act.put, List.setIfInBounds_toArray, List.set_cons_zero, List.set_cons_succ]) | (refine wpWay_skip rfl (by rfl) ?_; try simp only [Act.put, List.setIfInBounds_toArray, List.set_cons_zero, List.set_cons_succ]))
          clear hHeld
          refine wpWay_ev rfl (fun K hK => ?_) wpWay_stop
          go_wp2_with fail
          refine (tend_any _ _ _ (HT2.out.bl (Bl.refl _).drew) HV.out).mono ?_
          rintro e w3 ⟨rfl, hb⟩
          have HB3 := Lib.hid (Bl.bl (Bl.refl wr).drew hb)
          replace D1 := Lib.hid (hb.cell D1.out)
          clear hb
          go_wp2_with fail
          refine ⟨D1.out, ?_⟩
          rw [show (treeM r).row = r from rfl]
          repeat (first | (refine wpWay_take rfl (by rfl) (by intro w hSw; (try dsimp only at hSw); first | (go_simp; done) | (go_simp; with_reducible rfl)) ?_; try simp only [Act.put, List.setIfInBounds_toArray, List.set_cons_zero, List.set_cons_succ]) | (refine wpWay_skip rfl (by rfl) ?_; try simp only [Act.put, List.setIfInBounds_toArray, List.set_cons_zero, List.set_cons_succ]))
          clear hw1
          refine wpWay_ev rfl (fun K hK => ?_) wpWay_stop
          go_wp2_with fail
          refine (within_any _ _ _ (by omega)).mono ?_
          rintro e w4 ⟨rfl, rfl⟩
          go_wp2_with fail
          refine ⟨D1.out, ?_⟩
          repeat (first | (refine wpWay_take rfl (by rfl) (by intro w hSw; (try dsimp only at hSw); first | (go_simp; done) | (go_simp; with_reducible rfl)) ?_; try simp only [Act.put, List.setIfInBounds_toArray, List.set_cons_zero, List.set_cons_succ]) | (refine wpWay_skip rfl (by rfl) ?_; try simp only [Act.put, List.setIfInBounds_toArray, List.set_cons_zero, List.set_cons_succ]))
          refine wpWay_done ?_
          have hat := within_bd (wrap64 (Int.tdiv x 60)) (endM r + 1) (by omega)
          generalize within (wrap64 (Int.tdiv x 60)) (endM r + 1) = at0 at *
          go_upto_if 55 with (fail)
          go_cut [10] (fun v10 wc => ∃ tt : Int, v10 = .int .i64 tt ∧ wc = w3)
          case first =>
            by_cases hks : k < sp.length
            · obtain ⟨ad2, rfl, e0⟩ := int_at (HA2.out.bl ((HB.out.bl HD.out).bl HB3.out)) k hks
              generalize sp[k] = y at e0
              have hy := within_bd y 20 (by decide)
              go_wp2_with fail
              refine (within_any _ _ _ (by decide)).mono ?_
              rintro e w4 ⟨rfl, rfl⟩
              go_wp2_with fail
              go_meet
              exact ⟨_, rfl, rfl⟩
            · go_wp2_with fail
              go_meet
              exact ⟨_, rfl, rfl⟩
          case rest =>
          obtain ⟨tt, rfl, rfl⟩ := hcut
          have hro := Lib.hid (show extE.Is wc u7 (rowK j) from HO.out.is.bl HB3.out)
          have hrl := rowK_len j
          go_wp2_with fail
          refine (tsplice_any _ _ (treeM r) (rowK j) _ _ _ (HT2.out.bl HB3.out) hro.out HV.out (by omega)).mono ?_
          rintro e w5 ⟨hs, hb⟩
          have HB5 := Lib.hid (((HB.out.bl HD.out).bl HB3.out).bl hb)
          have HSV := Lib.hid (splice_row_valid (new := rowK j) (fr := at0) (tt := tt) HV.out)
          have HT5 := Lib.hid ((HT2.out.bl HB3.out).bl hb)
          clear hb hrl
          rw [show (treeM r).row = r from rfl] at hs
          obtain ⟨hs1, hs2⟩ := hs
          by_cases hz : (spliceM r at0 tt (rowK j)).2 = 0
          · obtain ⟨u, rfl, ht⟩ := hs1 hz
            have HS := Lib.hid ht
            have HZ := Lib.hid (HSV.out hz)
            clear hs1 hs2 hz HSV
            generalize (spliceM r at0 tt (rowK j)).1 = r2 at *
            have hvb2 := validFrom_bd r2 0 (by decide) HZ.out
            have hlen2 : r2.length ≤ 1000 := by omega
            have htn := tree_nodes r2
            have hsm := made_small r2 hlen2
            obtain ⟨b2, _, _, rfl, _⟩ := ht
            have hnn : (nodesI (r2.length : Int)) = (nodes r2.length : Nat) := by unfold nodesI; congr 2; omega
            have hle : decide (((nodes r2.length : Nat) : Int) < (nodesOf (madeM r2) : Int)) = false := by simp; omega
            obtain ⟨p, hp⟩ : ∃ p, p = r2.length := ⟨_, rfl⟩
            obtain ⟨q, hq⟩ : ∃ q, q = nodesOf (madeM r2) := ⟨_, rfl⟩
            rw [← hp, ← hq] at htn hle
            rw [← hp] at hnn
            have hle2 : decide (nodes p < q) = false := by simp; omega
            have HLE2 := Lib.hid hle2
            clear hle2
            have hpq := htn.2
            have HP := Lib.hid hp
            have HQ := Lib.hid hq
            clear hp hq
            have HNN := Lib.hid hnn
            have HLE := Lib.hid hle
            clear hnn hle htn
            have hd : (p = 0 ∧ q = 0) ∨ (0 < p ∧ 0 < q) := by omega
            clear hpq
            rcases hd with ⟨rfl, rfl⟩ | ⟨hp0, hq0⟩
            · go_wp2_with fail
              refine (tnodes_any _ (treeM r2) _ HS.out hsm).mono ?_
              rintro e w6 ⟨rfl, hb6⟩
              rw [show (treeM r2).top = madeM r2 from rfl, ← HQ.out]
              go_wp2_with fail
              refine (tlen_any _ (treeM r2) _ (HS.out.bl hb6)).mono ?_
              rintro e w7 ⟨rfl, rfl⟩
              rw [show (treeM r2).row = r2 from rfl, ← HP.out]
              go_wp2_with fail
              refine (nodes_any _ _).mono ?_
              rintro e w7 ⟨rfl, rfl⟩
              first | rw [HNN.out] | rw [show nodesI 0 = 0 from nodesI_np 0 (by omega)]
              have hle := HLE.out
              have hle2 := HLE2.out
              go_wp2_with fail
              refine (tlen_any _ (treeM r2) _ (HS.out.bl hb6)).mono ?_
              rintro e w7 ⟨rfl, rfl⟩
              rw [show (treeM r2).row = r2 from rfl, ← HP.out]
              clear hle hle2
              go_wp2_with fail
              refine (tnodes_any _ (treeM r2) _ (HS.out.bl hb6) hsm).mono ?_
              rintro e w8 ⟨rfl, hb8⟩
              rw [show (treeM r2).top = madeM r2 from rfl, ← HQ.out]
              go_wp2_with fail
              go_roundg (l.length - (k + 1))
              case measure => omega
              case rel => exact ⟨k + 1, r2, by omega, by omega, rfl, by go_num, Lib.hid (HS.out.bl (hb6.bl hb8)), HZ, Lib.hid (HB5.out.bl (hb6.bl hb8))⟩
            · have e1 : ((p : Int) == 0) = false := by rw [beq_eq_false_iff_ne]; omega
              have e2 : ((q : Int) == 0) = false := by rw [beq_eq_false_iff_ne]; omega
              go_wp2_with fail
              refine (tnodes_any _ (treeM r2) _ HS.out hsm).mono ?_
              rintro e w6 ⟨rfl, hb6⟩
              rw [show (treeM r2).top = madeM r2 from rfl, ← HQ.out]
              go_wp2_with fail
              refine (tlen_any _ (treeM r2) _ (HS.out.bl hb6)).mono ?_
              rintro e w7 ⟨rfl, rfl⟩
              rw [show (treeM r2).row = r2 from rfl, ← HP.out]
              go_wp2_with fail
              refine (nodes_any _ _).mono ?_
              rintro e w7 ⟨rfl, rfl⟩
              first | rw [HNN.out] | rw [show nodesI 0 = 0 from nodesI_np 0 (by omega)]
              have hle := HLE.out
              have hle2 := HLE2.out
              go_wp2_with fail
              refine (tlen_any _ (treeM r2) _ (HS.out.bl hb6)).mono ?_
              rintro e w7 ⟨rfl, rfl⟩
              rw [show (treeM r2).row = r2 from rfl, ← HP.out]
              clear hle hle2
              go_wp2_with fail
              refine (tnodes_any _ (treeM r2) _ (HS.out.bl hb6) hsm).mono ?_
              rintro e w8 ⟨rfl, hb8⟩
              rw [show (treeM r2).top = madeM r2 from rfl, ← HQ.out]
              go_wp2_with fail
              go_roundg (l.length - (k + 1))
              case measure => omega
              case rel => exact ⟨k + 1, r2, by omega, by omega, rfl, by go_num, Lib.hid (HS.out.bl (hb6.bl hb8)), HZ, Lib.hid (HB5.out.bl (hb6.bl hb8))⟩
          · have he := hs2 hz
            generalize (spliceM r at0 tt (rowK j)).2 = er at *
            subst he
            have hz1 : (er == 0) = false := by simpa using hz
            have hz2 : (er != 0) = true := by simpa using hz
            clear hs1 hs2 hz HSV
            go_wp2_with fail
            go_roundg (l.length - (k + 1))
            case measure => omega
            case rel => exact ⟨k + 1, r, by omega, by omega, rfl, by go_num, HT5, HV, HB5⟩
    · rcases (show (k < l.length ∧ ¬ k < 10) ∨ ¬ k < l.length from by by_cases q : k < l.length; exact .inl ⟨q, fun p => hlt ⟨q, p⟩⟩; exact .inr q) with ⟨hkl2, hk7⟩ | hkl2
      all_goals
        clear hlt
        go_wp2_with fail
        refine (wakes_any _).mono ?_
        rintro e w2 ⟨rfl, rfl⟩
        go_wp2_with fail
        go_ret
        exact ⟨rfl, HB.out⟩
end Go.Proofs.Ytaedelhdandflaa.ExtW
