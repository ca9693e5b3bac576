/- Several texts joined (see each one's head). -/
import Derived.Test.YtddcjekkimajpaaGreatPkG
/- The walk of overdublaw22.HistoryErrors. -/
namespace Go.Proofs.YtddcjekkimajpaaGreat.ExtW
open Go.RowKit Go.Ov Go.Proofs.YtddcjekkimajpaaGreat.Need

theorem sameSs_refl (a : List StM) : sameSs a a = true := by unfold sameSs; exact decide_eq_true rfl
theorem sameH_refl (m : HistM) : sameH m m = true := by unfold sameH; rw [sameS_refl, sameSs_refl, sameSs_refl]; rfl
theorem HOK.all {m : HistM} (h : HOK m) : ∀ s ∈ allH m, SOK s := fun s hs => by
  simp only [allH, List.cons_append, List.mem_cons, List.mem_append] at hs
  rcases hs with rfl | hs | hs
  · exact h.1.1
  · exact (h.2.1 s hs).1
  · exact (h.2.2.1 s hs).1
theorem ArgInts.bl {w w' : World} {v : Value} {l : List Int} (h : ArgInts w v l) (hb : Bl w w') : ArgInts w' v l := ⟨h.1.bl hb, h.2⟩

set_option maxRecDepth 100000 in
set_option maxHeartbeats 1000000 in
theorem herrs_walk (v : Value) (l : List Rec) (v' : Value) (ns : List Int) (what : Int) (w : World) (h : ArgRecs w v l) (h' : ArgInts w v' ns) (_ : -9223372036854775808 ≤ what ∧ what ≤ 9223372036854775807) :
    Calls Tryz.prog 4 #[v, v', .int .i64 what] w fun e w' => e = .returned (.bool true) ∧ Bl w w' := by
  have HL := Lib.hid h
  have HNS := Lib.hid h'
  obtain ⟨A, c, rfl, _⟩ := h
  obtain ⟨⟨A', c', rfl, _⟩, _⟩ := h'
  have hur := Tryz.underlying46
  have huh := Tryz.underlying30
  go_enter Tryz.func4, Tryz.ntmps4
  go_wp2_with fail
  refine (hnew_any _).mono ?_
  rintro e w1 ⟨B, rfl, hBw, hh, hb⟩
  have HB1 := Lib.hid hb
  have HBw := Lib.hid hBw
  have HH1 := Lib.hid hh
  clear hb hh hBw
  (go_wp2_with fail; refine (kcutRec_any _ l 8 _ (ArgRecs.bl HL.out HB1.out) (by decide) (by decide)).mono ?_; rintro e w1' ⟨uc, rfl, hcr, rfl⟩; obtain ⟨L, hL⟩ : ∃ L, L = l.take (8 : Int).toNat := ⟨_, rfl⟩; rw [← hL] at hcr; clear hL; have HCR := Lib.hid hcr; obtain ⟨Ac, cc, rfl, _⟩ := id hcr; clear hcr)
  go_wp2_with fail
  refine (play22_any (fun _ => false) B _ _ _ noH L ns _ HH1.out (RHIs.nil _) rfl HOK.no HCR.out (ArgInts.bl HNS.out HB1.out)).mono ?_
  rintro e w2 ⟨u, m, rfl, hh, hr, hm, hg⟩
  have HB2 := Lib.hid (HB1.out.grown hg (fun k hk => by injection hk with hk; have := HBw.out; omega))
  have HH2 := Lib.hid hh
  have HR2 := Lib.hid (RHIs.sub (Sub.un _ _) hr)
  have HM := Lib.hid hm
  obtain ⟨a1, b1, c1, rfl, h1, h2, h3⟩ := id hr
  obtain ⟨A1, n1, t1, rfl⟩ : ∃ A' n' c', a1 = .slice A' n' c' := by obtain ⟨A', c', e'⟩ := h1.slice; exact ⟨A', _, c', e'⟩
  obtain ⟨A2, n2, t2, rfl⟩ : ∃ A' n' c', b1 = .slice A' n' c' := by obtain ⟨A', c', e'⟩ := h2.slice; exact ⟨A', _, c', e'⟩
  obtain ⟨A3, n3, t3, rfl⟩ : ∃ A' n' c', c1 = .slice A' n' c' := by obtain ⟨A', c', e'⟩ := h3.slice; exact ⟨A', _, c', e'⟩
  clear hh hr hm hg h1 h2 h3 HB1 HH1
  have HOKs := Lib.hid (HOK.all HM.out)
  have hal := (Bl.refl w2).alloc (.cells #[.slice A1 n1 t1, .slice A2 n2 t2, .slice A3 n3 t3] 30)
  have HAL := Lib.hid hal
  have HKB := Lib.hid (Blk.new w2 #[.slice A1 n1 t1, .slice A2 n2 t2, .slice A3 n3 t3] 30)
  clear hal
  go_wp2_with fail
  refine (hnow_any B m _ (HH2.out.bl HAL.out)).mono ?_
  rintro e w3 ⟨u3, rfl, hst, rfl⟩
  obtain ⟨b3, _, _, rfl, _⟩ := id hst
  clear hst
  go_wp2_with fail
  refine (hcloneH_any B m _ (HH2.out.bl HAL.out) HM.out.2.2.2.1 HM.out.2.2.2.2).mono ?_
  rintro e w4 ⟨B2, rfl, hB2, hh2, hb⟩
  have HC := Lib.hid hh2
  have HB4 := Lib.hid (HAL.out.bl hb)
  replace HKB := Lib.hid (HKB.out.bl hb)
  clear hh2 hb hB2
  have hb1 := within_bd what 7 (by omega)
  go_wp2_with fail
  refine (within_any _ _ _ (by decide)).mono ?_
  rintro e w5 ⟨rfl, rfl⟩
  generalize within what 7 = y at *
  rcases (show y = 0 ∨ y = 1 ∨ y = 2 ∨ y = 3 ∨ y = 4 ∨ y = 5 ∨ y = 6 by omega) with rfl | rfl | rfl | rfl | rfl | rfl | rfl
  all_goals
    have q0 := HKB.out.cell 0
    have q1 := HKB.out.cell 1
    have q2 := HKB.out.cell 2
    have hlt := HKB.out.lt
    simp at q0 q1 q2
    go_wp2_with fail
    refine (hap20_any (fun _ => true) m _ _ _ _ (RHIs.sub ?hrs HR2.out) (rec_is _ _ _ _ _) HM.out).mono ?_
    case hrs => exact (Sub.bl ((HB4.out.alloc _).alloc _)).trans (fun ad v h => cell_only rfl h)
    rintro e w6 ⟨u6, rfl, hrh, hb⟩
    have HB6 := Lib.hid (((HB4.out.alloc _).alloc _).bl hb)
    have HX := Lib.hid ((Blk.new (w4.alloc _) _ _).bl hb)
    replace HKB := Lib.hid (HKB.out.bl ((((Bl.refl w4).alloc _).alloc _).bl hb))
    have HC6 := Lib.hid (HC.out.bl ((((Bl.refl w4).alloc _).alloc _).bl hb))
    obtain ⟨a2, b2, c2, rfl, h1, h2, h3⟩ := id hrh
    obtain ⟨D1, k1, s1, rfl⟩ : ∃ A' n' c', a2 = .slice A' n' c' := by obtain ⟨A', c', e'⟩ := h1.slice; exact ⟨A', _, c', e'⟩
    obtain ⟨D2, k2, s2, rfl⟩ : ∃ A' n' c', b2 = .slice A' n' c' := by obtain ⟨A', c', e'⟩ := h2.slice; exact ⟨A', _, c', e'⟩
    obtain ⟨D3, k3, s3, rfl⟩ : ∃ A' n' c', c2 = .slice A' n' c' := by obtain ⟨A', c', e'⟩ := h3.slice; exact ⟨A', _, c', e'⟩
    clear hrh h1 h2 h3 hb q0 q1 q2 hlt
    generalize hp : applyH m _ = p at *
    obtain ⟨m', ez⟩ := p
    have HP := Lib.hid hp
    clear hp
    dsimp only
    by_cases hz : ez = 0
    · subst hz
      go_wp2_with fail
      refine (wakes22_any _).mono ?_
      rintro e w7 ⟨rfl, hb⟩
      have HB7 := Lib.hid (HB2.out.bl ((HB6.out.alloc _).bl hb))
      clear hb
      go_wp2_with fail
      go_ret
      exact ⟨rfl, HB7.out⟩
    · have hz1 : (ez == 0) = false := by rw [beq_eq_false_iff_ne]; exact hz
      have HZ := Lib.hid hz
      have d0 := HX.out.cell 0
      have d1 := HX.out.cell 1
      have d2 := HX.out.cell 2
      have d3 := HX.out.cell 3
      have d4 := HX.out.cell 4
      have hltX := HX.out.lt
      simp at d0 d1 d2 d3 d4 hltX
      clear hz
      go_wp2_with fail
      have HA6 := Lib.hid (HB6.out.alloc (.cells #[.slice D1 k1 s1, .slice D2 k2 s2, .slice D3 k3 s3] 30))
      refine (happly_G (fun b => decide (b ≠ B)) B m _ _ _ (HistIs.toG (HH2.out.bl HA6.out)) (rec_is _ _ _ _ _) HM.out.1.1.1 HM.out.2.2.2.1 HM.out.2.2.2.2).mono ?_
      rintro e w7 ⟨rfl, hh, _, hno⟩
      rw [HP.out] at hh hno ⊢
      dsimp only at hh hno ⊢
      obtain ⟨hm', hb⟩ := hno HZ.out
      have HB7 := Lib.hid (HA6.out.bl hb)
      have HC7 := Lib.hid (HC6.out.bl (((Bl.refl w6).alloc _).bl hb))
      replace HKB := Lib.hid (HKB.out.bl (((Bl.refl w6).alloc _).bl hb))
      clear hh hno hm' hb d0 d1 d2 d3 d4 hltX
      go_wp2_with fail
      refine (hsame_any B B2 m m _ (HH2.out.bl HB7.out) HC7.out (fun s hs => HOKs.out s hs) (fun s hs => HOKs.out s hs)).mono ?_
      rintro e w8 ⟨rfl, hb⟩
      rw [sameH_refl]
      have HB8 := Lib.hid (HB7.out.bl hb)
      replace HKB := Lib.hid (HKB.out.bl hb)
      clear hb
      have q0 := HKB.out.cell 0
      have q1 := HKB.out.cell 1
      have q2 := HKB.out.cell 2
      simp at q0 q1 q2
      go_wp2_with fail
      refine (same22_any B _ m _ (HH2.out.bl HB8.out) (HR2.out.bl HB8.out) HM.out).mono ?_
      rintro e w9 ⟨rfl, hb⟩
      have HB9 := Lib.hid (HB8.out.bl hb)
      clear hb q0 q1 q2
      go_wp2_with fail
      refine (wakes22_any _).mono ?_
      rintro e w10 ⟨rfl, hb⟩
      have HB10 := Lib.hid (HB2.out.bl (HB9.out.bl hb))
      clear hb
      go_wp2_with fail
      go_ret
      exact ⟨rfl, HB10.out⟩
end Go.Proofs.YtddcjekkimajpaaGreat.ExtW

/- Contract of ref20's SameHistory. -/
namespace Go.Proofs.YtddcjekkimajpaaGreat.ExtW
open Go.RowKit Go.Ov Go.Proofs.YtddcjekkimajpaaGreat.Need

set_option maxRecDepth 100000 in
set_option maxHeartbeats 1000000 in
theorem samehist20_any (v v' : Value) (m m' : HistM) (w0 : World) (h : RHIs w0 v m) (h' : RHIs w0 v' m') (hm : HOK m) (hm' : HOK m') :
    Calls Tryz.prog 24 #[v, v'] w0 fun e w' => e = .returned (.bool (sameH m m')) ∧ Bl w0 w' := by
  have HMA := Lib.hid (HOK.all hm)
  have HMA' := Lib.hid (HOK.all hm')
  have HMU := Lib.hid (fun s hs => (hm.2.1 s hs).1)
  have HMR := Lib.hid (fun s hs => (hm.2.2.1 s hs).1)
  have HMU' := Lib.hid (fun s hs => (hm'.2.1 s hs).1)
  have HMR' := Lib.hid (fun s hs => (hm'.2.2.1 s hs).1)
  have HSN := Lib.hid hm.1.1
  have HSN' := Lib.hid hm'.1.1
  obtain ⟨a, b, c, rfl, h1, h2, h3⟩ := h
  obtain ⟨a', b', c', rfl, h1', h2', h3'⟩ := h'
  obtain ⟨Aa, na, cca, rfl⟩ : ∃ A' n' c', a = .slice A' n' c' := by obtain ⟨A', c', e'⟩ := h1.slice; exact ⟨A', _, c', e'⟩
  obtain ⟨Aa', na', cca', rfl⟩ : ∃ A' n' c', a' = .slice A' n' c' := by obtain ⟨A', c', e'⟩ := h1'.slice; exact ⟨A', _, c', e'⟩
  obtain ⟨hs2, hI2, hr2⟩ := h2
  obtain ⟨hs3, hI3, hr3⟩ := h3
  obtain ⟨hs2', hI2', hr2'⟩ := h2'
  obtain ⟨hs3', hI3', hr3'⟩ := h3'
  obtain ⟨Ab, ccb, rfl, g2, g2m, _, hA2⟩ := hI2
  obtain ⟨Ac, ccc, rfl, g3, g3m, _, hA3⟩ := hI3
  obtain ⟨Ab', ccb', rfl, g2', g2m', _, hA2'⟩ := hI2'
  obtain ⟨Ac', ccc', rfl, g3', g3m', _, hA3'⟩ := hI3'
  unfold maxLen at g2m g3m g2m' g3m'
  have hz2 : hs2.length ≤ 9223372036854775807 := by omega
  have hz3 : hs3.length ≤ 9223372036854775807 := by omega
  have HA2 := Lib.hid hA2
  have HA3 := Lib.hid hA3
  have HA2' := Lib.hid hA2'
  have HA3' := Lib.hid hA3'
  have HR2 := Lib.hid hr2
  have HR3 := Lib.hid hr3
  have HR2' := Lib.hid hr2'
  have HR3' := Lib.hid hr3'
  have HLn := Lib.hid h1
  have HLn' := Lib.hid h1'
  have huh := Tryz.underlying30
  clear h1 h1' hA2 hA3 hA2' hA3' hr2 hr3 hr2' hr3' hm hm' g2 g3 g2' g3' g2m g3m g2m' g3m'
  go_enter Tryz.func24, Tryz.ntmps24
  go_wp2_with fail
  obtain ⟨w, hw⟩ : ∃ w, w = (w0.alloc (.cells #[.slice Aa na cca, .slice Ab hs2.length ccb, .slice Ac hs3.length ccc] 30)).alloc (.cells #[.slice Aa' na' cca', .slice Ab' hs2'.length ccb', .slice Ac' hs3'.length ccc'] 30) := ⟨_, rfl⟩
  have hB0 : Bl w0 w := by rw [hw]; exact ((Bl.refl w0).alloc _).alloc _
  have HBK1 := Lib.hid (show Blk w w0.heap.size #[.slice Aa na cca, .slice Ab hs2.length ccb, .slice Ac hs3.length ccc] 30 from by rw [hw]; exact (Blk.new w0 _ _).bl ((Bl.refl _).alloc _))
  have HBK2 := Lib.hid (show Blk w (w0.heap.size + 1) #[.slice Aa' na' cca', .slice Ab' hs2'.length ccb', .slice Ac' hs3'.length ccc'] 30 from by
    have := Blk.new (w0.alloc (.cells #[.slice Aa na cca, .slice Ab hs2.length ccb, .slice Ac hs3.length ccc] 30)) #[.slice Aa' na' cca', .slice Ab' hs2'.length ccb', .slice Ac' hs3'.length ccc'] 30
    rw [alloc_size] at this
    rw [hw]; exact this)
  rw [← hw]
  have HB0 := Lib.hid hB0
  clear hw hB0
  replace HA2 := Lib.hid (HA2.out.bl HB0.out)
  replace HA3 := Lib.hid (HA3.out.bl HB0.out)
  replace HA2' := Lib.hid (HA2'.out.bl HB0.out)
  replace HA3' := Lib.hid (HA3'.out.bl HB0.out)
  replace HR2 := Lib.hid (LnsRows.sub (Sub.bl HB0.out) HR2.out)
  replace HR3 := Lib.hid (LnsRows.sub (Sub.bl HB0.out) HR3.out)
  replace HR2' := Lib.hid (LnsRows.sub (Sub.bl HB0.out) HR2'.out)
  replace HR3' := Lib.hid (LnsRows.sub (Sub.bl HB0.out) HR3'.out)
  refine (lsame_any _ _ (rowsOf m.now) (rowsOf m'.now) _ (HLn.out.bl HB0.out) (HLn'.out.bl HB0.out) (by rw [rowsOf_len]; have := HSN.out.1.1; omega) (by rw [rowsOf_len]; have := HSN'.out.1.1; omega)).mono ?_
  rintro e w1 ⟨rfl, hb⟩
  have HS0 := Lib.hid (show sameS m.now m'.now = decide (rowsOf m.now = rowsOf m'.now) from rfl)
  rw [← HS0.out]
  have HB1 := Lib.hid hb
  have q1 := (HBK1.out.bl hb).cell 1
  have q2 := (HBK1.out.bl hb).cell 2
  have r1 := (HBK2.out.bl hb).cell 1
  have r2 := (HBK2.out.bl hb).cell 2
  simp at q1 q2 r1 r2
  clear hb HS0
  have HFIN := Lib.hid (HB0.out.bl HB1.out)
  cases hs0 : sameS m.now m'.now
  · have HSH := Lib.hid (show sameH m m' = false from by unfold sameH; rw [hs0]; rfl)
    clear hs0
    go_wp2_with fail
    go_loopg [5] 0 (fun g v5 wr => v5 = .bool false ∧ Hid (Bl w wr))
    case atStart => exact ⟨rfl, HB1⟩
    case round =>
      obtain ⟨rfl, HBa⟩ := hrel
      go_wp2_with fail
      (go_loopg [5] 0 (fun g v5 wr => v5 = .bool false ∧ Hid (Bl w wr)); (case atStart => exact ⟨rfl, HBa⟩); (case round => (obtain ⟨rfl, HBb⟩ := hrel; go_wp2_with fail; go_ret; exact ⟨ret_bool HSH.out.symm, HB0.out.bl HBb.out⟩)))
  have HS0 := Lib.hid hs0
  clear hs0
  by_cases hl2 : hs2.length = hs2'.length
  case neg =>
    have e2 : ((hs2.length : Int) == hs2'.length) = false := by rw [beq_eq_false_iff_ne]; omega
    have HSH := Lib.hid (show sameH m m' = false from by
      unfold sameH
      rw [show sameSs m.undo m'.undo = false from decide_eq_false (fun h => hl2 (by have := congrArg List.length h; simp at this; have := HR2.out.1; have := HR2'.out.1; omega))]
      simp)
    clear hl2
    go_wp2_with fail
    go_loopg [5] 0 (fun g v5 wr => v5 = .bool false ∧ Hid (Bl w wr))
    case atStart => exact ⟨rfl, HB1⟩
    case round =>
      obtain ⟨rfl, HBa⟩ := hrel
      go_wp2_with fail
      (go_loopg [5] 0 (fun g v5 wr => v5 = .bool false ∧ Hid (Bl w wr)); (case atStart => exact ⟨rfl, HBa⟩); (case round => (obtain ⟨rfl, HBb⟩ := hrel; go_wp2_with fail; go_ret; exact ⟨ret_bool HSH.out.symm, HB0.out.bl HBb.out⟩)))
  have e2 : ((hs2.length : Int) == hs2'.length) = true := by rw [hl2]; simp
  have HL2 := Lib.hid hl2
  clear hl2
  by_cases hl3 : hs3.length = hs3'.length
  case neg =>
    have e3 : ((hs3.length : Int) == hs3'.length) = false := by rw [beq_eq_false_iff_ne]; omega
    have HSH := Lib.hid (show sameH m m' = false from by
      unfold sameH
      rw [show sameSs m.redo m'.redo = false from decide_eq_false (fun h => hl3 (by have := congrArg List.length h; simp at this; have := HR3.out.1; have := HR3'.out.1; omega))]
      simp)
    clear hl3
    go_wp2_with fail
    go_loopg [5] 0 (fun g v5 wr => v5 = .bool false ∧ Hid (Bl w wr))
    case atStart => exact ⟨rfl, HB1⟩
    case round =>
      obtain ⟨rfl, HBa⟩ := hrel
      go_wp2_with fail
      (go_loopg [5] 0 (fun g v5 wr => v5 = .bool false ∧ Hid (Bl w wr)); (case atStart => exact ⟨rfl, HBa⟩); (case round => (obtain ⟨rfl, HBb⟩ := hrel; go_wp2_with fail; go_ret; exact ⟨ret_bool HSH.out.symm, HB0.out.bl HBb.out⟩)))
  have e3 : ((hs3.length : Int) == hs3'.length) = true := by rw [hl3]; simp
  have HL3 := Lib.hid hl3
  clear hl3
  go_upto_block 0 with fail
  go_cut [5] (fun v5 wc => ∃ ok : Bool, v5 = .bool ok ∧ Hid (ok = false → sameH m m' = false) ∧ Hid (ok = true → sameSs m.undo m'.undo = true) ∧ Hid (Bl w wc))
  case first =>
    go_wp2_with fail
    have HLEN := Lib.hid HL2.out
    go_loopg [5, 6] hs2.length (fun g v5 i wr => ∃ k : Nat, k ≤ hs2.length ∧ g = hs2.length - k ∧ i = .int .i64 k ∧ v5 = .bool (decide ((m.undo.take k).map rowsOf = (m'.undo.take k).map rowsOf)) ∧ Hid (Bl w wr))
    case atStart => exact ⟨0, by omega, rfl, rfl, by simp, HB1⟩
    case round =>
      obtain ⟨k, hk, rfl, rfl, rfl, HBa⟩ := hrel
      cases hq : decide ((m.undo.take k).map rowsOf = (m'.undo.take k).map rowsOf)
      · have HQ := Lib.hid (show sameSs m.undo m'.undo = false from by
          unfold sameSs
          refine decide_eq_false (fun h => of_decide_eq_false hq ?_)
          rw [List.map_take, List.map_take, h])
        have HSH := Lib.hid (show sameH m m' = false from by unfold sameH; rw [HQ.out]; simp)
        go_wp2_with fail
        (go_meet; exact ⟨false, rfl, Lib.hid (fun _ => HSH.out), Lib.hid (fun h => by cases h), HBa⟩)
      · have HQ := Lib.hid (of_decide_eq_true hq)
        have q1 := (HBK1.out.bl HBa.out).cell 1
        have q2 := (HBK2.out.bl HBa.out).cell 1
        simp at q1 q2
        clear hq
        by_cases hlt : k < hs2.length
        · have hlt' : k < hs2'.length := by have := HLEN.out; omega
          have hx1 : k < (m.undo).length := by have := HR2.out.1; omega
          have hx2 : k < (m'.undo).length := by have := HR2'.out.1; omega
          obtain ⟨ad, rfl, d0⟩ := head_at (HA2.out.bl HBa.out) k hlt
          obtain ⟨ad', rfl, d1⟩ := head_at (HA2'.out.bl HBa.out) k hlt'
          obtain ⟨_, hln⟩ := HR2.out.at k hx1
          obtain ⟨_, hln'⟩ := HR2'.out.at k hx2
          have HLN := Lib.hid (hln.bl HBa.out)
          have HLN' := Lib.hid (hln'.bl HBa.out)
          have HK1 := Lib.hid (HMU.out _ (List.getElem_mem hx1))
          have HK2 := Lib.hid (HMU'.out _ (List.getElem_mem hx2))
          have ht := Lib.hid (List.take_succ_eq_append_getElem hx1)
          have ht' := Lib.hid (List.take_succ_eq_append_getElem hx2)
          generalize hs2[k] = ha at *
          generalize hs2'[k] = hb at *
          generalize (m.undo)[k] = s at *
          generalize (m'.undo)[k] = s' at *
          obtain ⟨xA, xn, xc⟩ := ha
          obtain ⟨yA, yn, yc⟩ := hb
          simp only [Head.v] at d0 d1 HLN HLN'
          clear hln hln'
          go_wp2_with fail
          refine wp_region_ways (S := (fun w' => w'.cell? ⟨w0.heap.size, 1, none⟩ = some (.slice (some ad) hs2.length ccb) ∧ w'.cell? ⟨w0.heap.size + 1, 1, none⟩ = some (.slice (some ad') hs2'.length ccb') ∧ w'.cell? (ad.add k) = some (.slice xA xn xc) ∧ w'.cell? (ad'.add k) = some (.slice yA yn yc))) [0, 1, 2, 3, 4, 5, 6, 7, 8, 9, 11] (y := .take 0 (.take 1 (.take 2 (.take 3 (.take 4 (.take 5 (.take 6 (.take 7 (.take 8 (.take 9 (.ev 10 (.take 11 (.done)) (.stop)))))))))))) (by kernel_rfl) (by kernel_rfl) (by kernel_rfl) ?_ (fun hHeld => ?_)
          · exact ⟨(Bl.refl _).drew.cell q1, (Bl.refl _).drew.cell q2, (Bl.refl _).drew.cell d0, (Bl.refl _).drew.cell d1⟩
          have HHL := Lib.hid hHeld
          clear hHeld q1 q2 d0 d1
          repeat (first | (refine wpWay_take rfl (by rfl) (by intro w hSw; (try dsimp only at hSw); first | (go_simp; done) | (go_simp; with_reducible rfl)) ?_; try simp only [Act.put, List.setIfInBounds_toArray, List.set_cons_zero, List.set_cons_succ]) | (refine wpWay_skip rfl (by rfl) ?_; try simp only [Act.put, List.setIfInBounds_toArray, List.set_cons_zero, List.set_cons_succ]))
          refine wpWay_ev rfl (fun K hK => ?_) wpWay_stop
          go_wp2_with fail
          refine (lsame_any _ _ (rowsOf s) (rowsOf s') _ (HLN.out.bl (Bl.refl _).drew) (HLN'.out.bl (Bl.refl _).drew) (by rw [rowsOf_len]; have := HK1.out.1.1; omega) (by rw [rowsOf_len]; have := HK2.out.1.1; omega)).mono ?_
          rintro e wn ⟨rfl, hb⟩
          have HBa' := Lib.hid (HBa.out.drew.bl hb)
          replace HHL := Lib.hid (And.intro (hb.cell HHL.out.1) (And.intro (hb.cell HHL.out.2.1) (And.intro (hb.cell HHL.out.2.2.1) (hb.cell HHL.out.2.2.2))))
          have HE := Lib.hid (show decide (rowsOf s = rowsOf s') = decide ((m.undo.take (k + 1)).map rowsOf = (m'.undo.take (k + 1)).map rowsOf) from by
            rw [ht.out, ht'.out, List.map_append, List.map_append, HQ.out]
            simp)
          generalize decide (rowsOf s = rowsOf s') = bq at *
          clear hb
          go_wp2_with fail
          refine ⟨HHL.out, ?_⟩
          repeat (first | (refine wpWay_take rfl (by rfl) (by intro w hSw; (try dsimp only at hSw); first | (go_simp; done) | (go_simp; with_reducible rfl)) ?_; try simp only [Act.put, List.setIfInBounds_toArray, List.set_cons_zero, List.set_cons_succ]) | (refine wpWay_skip rfl (by rfl) ?_; try simp only [Act.put, List.setIfInBounds_toArray, List.set_cons_zero, List.set_cons_succ]))
          refine wpWay_done ?_
          go_wp2_with fail
          go_roundg (hs2.length - (k + 1))
          case measure => omega
          case rel => exact ⟨k + 1, by omega, rfl, by go_num, by rw [HE.out], HBa'⟩
        · have HQ2 := Lib.hid (show sameSs m.undo m'.undo = true from by
            unfold sameSs
            have h1 := HR2.out.1
            have h2 := HR2'.out.1
            have h3 := HLEN.out
            have := HQ.out
            rw [List.take_of_length_le (by omega), List.take_of_length_le (by omega)] at this
            exact decide_eq_true this)
          go_wp2_with fail
          (go_meet; exact ⟨true, rfl, Lib.hid (fun h => by cases h), Lib.hid (fun _ => HQ2.out), HBa⟩)
  case rest =>
  clear HB1 q1 q2 r1 r2
  obtain ⟨ok, rfl, HNO, HYES, HB⟩ := hcut
  have q2 := (HBK1.out.bl HB.out).cell 2
  have r2 := (HBK2.out.bl HB.out).cell 2
  simp at q2 r2
  cases ok
  · have HSH := Lib.hid (HNO.out rfl)
    go_wp2_with fail
    go_loopg [5] 0 (fun g v5 wr => v5 = .bool false ∧ Hid (Bl w wr))
    case atStart => exact ⟨rfl, HB⟩
    case round =>
      obtain ⟨rfl, HBa⟩ := hrel
      go_wp2_with fail
      (go_ret; exact ⟨ret_bool HSH.out.symm, HB0.out.bl HBa.out⟩)
  · have HU2 := Lib.hid (HYES.out rfl)
    clear HYES HNO
    go_wp2_with fail
    have HLEN := Lib.hid HL3.out
    go_loopg [5, 7] hs3.length (fun g v5 i wr => ∃ k : Nat, k ≤ hs3.length ∧ g = hs3.length - k ∧ i = .int .i64 k ∧ v5 = .bool (decide ((m.redo.take k).map rowsOf = (m'.redo.take k).map rowsOf)) ∧ Hid (Bl w wr))
    case atStart => exact ⟨0, by omega, rfl, rfl, by simp, HB⟩
    case round =>
      obtain ⟨k, hk, rfl, rfl, rfl, HBa⟩ := hrel
      cases hq : decide ((m.redo.take k).map rowsOf = (m'.redo.take k).map rowsOf)
      · have HQ := Lib.hid (show sameSs m.redo m'.redo = false from by
          unfold sameSs
          refine decide_eq_false (fun h => of_decide_eq_false hq ?_)
          rw [List.map_take, List.map_take, h])
        have HSH := Lib.hid (show sameH m m' = false from by unfold sameH; rw [HQ.out]; simp)
        go_wp2_with fail
        (go_ret; exact ⟨ret_bool HSH.out.symm, HB0.out.bl HBa.out⟩)
      · have HQ := Lib.hid (of_decide_eq_true hq)
        have q1 := (HBK1.out.bl HBa.out).cell 2
        have q2 := (HBK2.out.bl HBa.out).cell 2
        simp at q1 q2
        clear hq
        by_cases hlt : k < hs3.length
        · have hlt' : k < hs3'.length := by have := HLEN.out; omega
          have hx1 : k < (m.redo).length := by have := HR3.out.1; omega
          have hx2 : k < (m'.redo).length := by have := HR3'.out.1; omega
          obtain ⟨ad, rfl, d0⟩ := head_at (HA3.out.bl HBa.out) k hlt
          obtain ⟨ad', rfl, d1⟩ := head_at (HA3'.out.bl HBa.out) k hlt'
          obtain ⟨_, hln⟩ := HR3.out.at k hx1
          obtain ⟨_, hln'⟩ := HR3'.out.at k hx2
          have HLN := Lib.hid (hln.bl HBa.out)
          have HLN' := Lib.hid (hln'.bl HBa.out)
          have HK1 := Lib.hid (HMR.out _ (List.getElem_mem hx1))
          have HK2 := Lib.hid (HMR'.out _ (List.getElem_mem hx2))
          have ht := Lib.hid (List.take_succ_eq_append_getElem hx1)
          have ht' := Lib.hid (List.take_succ_eq_append_getElem hx2)
          generalize hs3[k] = ha at *
          generalize hs3'[k] = hb at *
          generalize (m.redo)[k] = s at *
          generalize (m'.redo)[k] = s' at *
          obtain ⟨xA, xn, xc⟩ := ha
          obtain ⟨yA, yn, yc⟩ := hb
          simp only [Head.v] at d0 d1 HLN HLN'
          clear hln hln'
          go_wp2_with fail
          refine wp_region_ways (S := (fun w' => w'.cell? ⟨w0.heap.size, 2, none⟩ = some (.slice (some ad) hs3.length ccc) ∧ w'.cell? ⟨w0.heap.size + 1, 2, none⟩ = some (.slice (some ad') hs3'.length ccc') ∧ w'.cell? (ad.add k) = some (.slice xA xn xc) ∧ w'.cell? (ad'.add k) = some (.slice yA yn yc))) [0, 1, 2, 3, 4, 5, 6, 7, 8, 9, 11] (y := .take 0 (.take 1 (.take 2 (.take 3 (.take 4 (.take 5 (.take 6 (.take 7 (.take 8 (.take 9 (.ev 10 (.take 11 (.done)) (.stop)))))))))))) (by kernel_rfl) (by kernel_rfl) (by kernel_rfl) ?_ (fun hHeld => ?_)
          · exact ⟨(Bl.refl _).drew.cell q1, (Bl.refl _).drew.cell q2, (Bl.refl _).drew.cell d0, (Bl.refl _).drew.cell d1⟩
          have HHL := Lib.hid hHeld
          clear hHeld q1 q2 d0 d1
          repeat (first | (refine wpWay_take rfl (by rfl) (by intro w hSw; (try dsimp only at hSw); first | (go_simp; done) | (go_simp; with_reducible rfl)) ?_; try simp only [Act.put, List.setIfInBounds_toArray, List.set_cons_zero, List.set_cons_succ]) | (refine wpWay_skip rfl (by rfl) ?_; try simp only [Act.put, List.setIfInBounds_toArray, List.set_cons_zero, List.set_cons_succ]))
          refine wpWay_ev rfl (fun K hK => ?_) wpWay_stop
          go_wp2_with fail
          refine (lsame_any _ _ (rowsOf s) (rowsOf s') _ (HLN.out.bl (Bl.refl _).drew) (HLN'.out.bl (Bl.refl _).drew) (by rw [rowsOf_len]; have := HK1.out.1.1; omega) (by rw [rowsOf_len]; have := HK2.out.1.1; omega)).mono ?_
          rintro e wn ⟨rfl, hb⟩
          have HBa' := Lib.hid (HBa.out.drew.bl hb)
          replace HHL := Lib.hid (And.intro (hb.cell HHL.out.1) (And.intro (hb.cell HHL.out.2.1) (And.intro (hb.cell HHL.out.2.2.1) (hb.cell HHL.out.2.2.2))))
          have HE := Lib.hid (show decide (rowsOf s = rowsOf s') = decide ((m.redo.take (k + 1)).map rowsOf = (m'.redo.take (k + 1)).map rowsOf) from by
            rw [ht.out, ht'.out, List.map_append, List.map_append, HQ.out]
            simp)
          generalize decide (rowsOf s = rowsOf s') = bq at *
          clear hb
          go_wp2_with fail
          refine ⟨HHL.out, ?_⟩
          repeat (first | (refine wpWay_take rfl (by rfl) (by intro w hSw; (try dsimp only at hSw); first | (go_simp; done) | (go_simp; with_reducible rfl)) ?_; try simp only [Act.put, List.setIfInBounds_toArray, List.set_cons_zero, List.set_cons_succ]) | (refine wpWay_skip rfl (by rfl) ?_; try simp only [Act.put, List.setIfInBounds_toArray, List.set_cons_zero, List.set_cons_succ]))
          refine wpWay_done ?_
          go_wp2_with fail
          go_roundg (hs3.length - (k + 1))
          case measure => omega
          case rel => exact ⟨k + 1, by omega, rfl, by go_num, by rw [HE.out], HBa'⟩
        · have HQ2 := Lib.hid (show sameSs m.redo m'.redo = true from by
            unfold sameSs
            have h1 := HR3.out.1
            have h2 := HR3'.out.1
            have h3 := HLEN.out
            have := HQ.out
            rw [List.take_of_length_le (by omega), List.take_of_length_le (by omega)] at this
            exact decide_eq_true this)
          go_wp2_with fail
          (go_ret; exact ⟨ret_bool (by unfold sameH; rw [HS0.out, HU2.out, HQ2.out]; rfl), HB0.out.bl HBa.out⟩)
end Go.Proofs.YtddcjekkimajpaaGreat.ExtW

/- Undone so often, redone as often: what a history is then. -/
namespace Go.Proofs.YtddcjekkimajpaaGreat.ExtW
open Go.RowKit Go.Ov Go.Proofs.YtddcjekkimajpaaGreat.Need

/-- all that was, up to now -/
def wasH (m : HistM) : List StM := m.undo ++ [m.now]
/-- undone so often, some redone -/
def Fwd (m g : HistM) (j : Nat) : Prop := j ≤ m.undo.length ∧ g.now = (wasH m).getD (m.undo.length - j) [] ∧ ∃ pre, g.redo = pre ++ ((wasH m).drop (m.undo.length - j + 1)).reverse
/-- undone so often -/
def Back (m g : HistM) (j : Nat) : Prop := Fwd m g j ∧ g.undo = m.undo.take (m.undo.length - j)
theorem was_len (m : HistM) : (wasH m).length = m.undo.length + 1 := by simp [wasH]
theorem Back.zero (m : HistM) : Back m m 0 := by
  refine ⟨⟨Nat.zero_le _, ?_, m.redo, ?_⟩, by simp⟩
  · simp [wasH]
  · rw [List.drop_of_length_le (by rw [was_len]; omega)]; simp
theorem Fwd.done {m g : HistM} (h : Fwd m g 0) : g.now = m.now := by
  rw [h.2.1]; simp [wasH]
theorem Back.len {m g : HistM} {j : Nat} (h : Back m g j) : g.undo.length = m.undo.length - j := by
  rw [h.2, List.length_take]; have := h.1.1; omega
theorem Back.undo {m g : HistM} {j : Nat} (h : Back m g j) (h4 : m.undo.length ≤ 4) (hu : 0 < g.undo.length) : Back m (undoM g hu) (j + 1) := by
  have hl := h.len
  obtain ⟨⟨h1, h2, pre, h3⟩, h5⟩ := h
  obtain ⟨q, hq⟩ : ∃ q, m.undo.length - j = q + 1 := ⟨m.undo.length - j - 1, by omega⟩
  have hq' : m.undo.length - (j + 1) = q := by omega
  refine ⟨⟨by omega, ?_, pre.drop (g.redo.length + 1 - 4), ?_⟩, ?_⟩
  · show g.undo[g.undo.length - 1] = _
    rw [hq', List.getD_eq_getElem?_getD]
    have : g.undo[g.undo.length - 1]? = (wasH m)[q]? := by
      rw [h5, hq, List.length_take, List.getElem?_take]
      rw [if_pos (by omega)]
      unfold wasH
      rw [List.getElem?_append_left (by omega)]
      congr 1
      omega
    rw [List.getElem?_eq_getElem (by omega)] at this
    rw [← this]; rfl
  · show (g.redo ++ [g.now]).drop (g.redo.length + 1 - 4) = _
    have hlen : g.redo.length = pre.length + j := by
      rw [h3, List.length_append, List.length_reverse, List.length_drop, was_len]; omega
    have e1 : ((wasH m).drop (m.undo.length - (j + 1) + 1)).reverse = ((wasH m).drop (m.undo.length - j + 1)).reverse ++ [g.now] := by
      rw [hq', hq, List.drop_eq_getElem_cons (i := q + 1) (by rw [was_len]; omega), List.reverse_cons, h2, hq, List.getD_eq_getElem?_getD, List.getElem?_eq_getElem (by rw [was_len]; omega)]
      rfl
    rw [e1, ← List.append_assoc, h3]
    rw [List.append_assoc, List.drop_append_of_le_length (by rw [← h3, hlen]; omega), List.append_assoc]
  · show g.undo.take (g.undo.length - 1) = _
    rw [hq', h5, hq, List.length_take, List.take_take]
    congr 1; omega
theorem Fwd.redo {m g : HistM} {j : Nat} (h : Fwd m g (j + 1)) : ∃ hu : 0 < g.redo.length, Fwd m (redoM g hu) j := by
  obtain ⟨h1, h2, pre, h3⟩ := h
  obtain ⟨q, hq⟩ : ∃ q, m.undo.length - (j + 1) = q := ⟨_, rfl⟩
  have hq' : m.undo.length - j = q + 1 := by omega
  have e1 : g.redo = (pre ++ ((wasH m).drop (q + 2)).reverse) ++ [(wasH m).getD (q + 1) []] := by
    rw [h3, hq, List.drop_eq_getElem_cons (i := q + 1) (by rw [was_len]; omega), List.reverse_cons, List.getD_eq_getElem?_getD, List.getElem?_eq_getElem (by rw [was_len]; omega), List.append_assoc]
    rfl
  have hu : 0 < g.redo.length := by rw [e1]; simp; omega
  refine ⟨hu, by omega, ?_, pre, ?_⟩
  · show g.redo[g.redo.length - 1] = _
    have : g.redo[g.redo.length - 1]? = some ((wasH m).getD (q + 1) []) := by
      rw [e1, List.length_append, List.length_singleton, Nat.add_sub_cancel, List.getElem?_append_right (Nat.le_refl _), Nat.sub_self]; rfl
    rw [List.getElem?_eq_getElem (by omega)] at this
    rw [hq']; injection this
  · show g.redo.take (g.redo.length - 1) = _
    rw [e1, List.length_append, List.length_singleton, Nat.add_sub_cancel, List.take_append_of_le_length (Nat.le_refl _), List.take_length, hq']
theorem applyH_U (g : HistM) : applyH g ⟨4, 0, 0, 0, []⟩ = if h : 0 < g.undo.length then (undoM g h, 0) else (g, 5) := rfl
theorem applyH_R (g : HistM) : applyH g ⟨5, 0, 0, 0, []⟩ = if h : 0 < g.redo.length then (redoM g h, 0) else (g, 5) := rfl
end Go.Proofs.YtddcjekkimajpaaGreat.ExtW

/- The walk of overdublaw22.HistoryApart. -/
namespace Go.Proofs.YtddcjekkimajpaaGreat.ExtW
open Go.RowKit Go.Ov Go.Proofs.YtddcjekkimajpaaGreat.Need

set_option maxRecDepth 100000 in
set_option maxHeartbeats 1000000 in
theorem hapart_walk (v : Value) (l : List Rec) (v' : Value) (ns : List Int) (n : Int) (w : World) (h : ArgRecs w v l) (h' : ArgInts w v' ns) (_ : -9223372036854775808 ≤ n ∧ n ≤ 9223372036854775807) :
    Calls Tryz.prog 6 #[v, v', .int .i64 n] w fun e w' => e = .returned (.bool true) ∧ Bl w w' := by
  have HL := Lib.hid h
  have HNS := Lib.hid h'
  obtain ⟨A, c, rfl, _⟩ := h
  obtain ⟨⟨A', c', rfl, _⟩, _⟩ := h'
  have hur := Tryz.underlying46
  have huh := Tryz.underlying30
  go_enter Tryz.func6, Tryz.ntmps6
  go_wp2_with fail
  refine (hnew_any _).mono ?_
  rintro e w1 ⟨B, rfl, hBw, hh, hb⟩
  have HB1 := Lib.hid hb
  have HBw := Lib.hid hBw
  have HH1 := Lib.hid hh
  clear hb hh hBw
  (go_wp2_with fail; refine (kcutRec_any _ l 8 _ (ArgRecs.bl HL.out HB1.out) (by decide) (by decide)).mono ?_; rintro e w1' ⟨uc, rfl, hcr, rfl⟩; obtain ⟨L, hL⟩ : ∃ L, L = l.take (8 : Int).toNat := ⟨_, rfl⟩; rw [← hL] at hcr; clear hL; have HCR := Lib.hid hcr; obtain ⟨Ac, cc, rfl, _⟩ := id hcr; clear hcr)
  go_wp2_with fail
  refine (play22_any (fun _ => false) B _ _ _ noH L ns _ HH1.out (RHIs.nil _) rfl HOK.no HCR.out (ArgInts.bl HNS.out HB1.out)).mono ?_
  rintro e w2 ⟨u, m, rfl, hh, hr, hm, hg⟩
  have HB2 := Lib.hid (HB1.out.grown hg (fun k hk => by injection hk with hk; have := HBw.out; omega))
  have HH2 := Lib.hid hh
  have HR2 := Lib.hid (RHIs.sub (Sub.un _ _) hr)
  have HM := Lib.hid hm
  obtain ⟨a1, b1, c1, rfl, h1, h2, h3⟩ := id hr
  obtain ⟨A1, n1, t1, rfl⟩ : ∃ A' n' c', a1 = .slice A' n' c' := by obtain ⟨A', c', e'⟩ := h1.slice; exact ⟨A', _, c', e'⟩
  obtain ⟨A2, n2, t2, rfl⟩ : ∃ A' n' c', b1 = .slice A' n' c' := by obtain ⟨A', c', e'⟩ := h2.slice; exact ⟨A', _, c', e'⟩
  obtain ⟨A3, n3, t3, rfl⟩ : ∃ A' n' c', c1 = .slice A' n' c' := by obtain ⟨A', c', e'⟩ := h3.slice; exact ⟨A', _, c', e'⟩
  clear hh hr hm hg h1 h2 h3 HB1 HH1
  have HOKs := Lib.hid (HOK.all HM.out)
  have hal := (Bl.refl w2).alloc (.cells #[.slice A1 n1 t1, .slice A2 n2 t2, .slice A3 n3 t3] 30)
  have HAL := Lib.hid hal
  have HKB := Lib.hid (Blk.new w2 #[.slice A1 n1 t1, .slice A2 n2 t2, .slice A3 n3 t3] 30)
  have hn2 : n2 = m.undo.length := by obtain ⟨_, b', _, e, _, h2, _⟩ := HR2.out; simp at e; obtain ⟨_, _, e2⟩ := h2.slice; rw [e2] at e; simp at e; exact e.2.1.2.1
  have HN2 := Lib.hid hn2
  clear hal hn2
  go_wp2_with fail
  refine (hcloneH_any B m _ (HH2.out.bl HAL.out) HM.out.2.2.2.1 HM.out.2.2.2.2).mono ?_
  rintro e w4 ⟨B2, rfl, hB2, hh2, hb⟩
  have HC := Lib.hid hh2
  have HAL4 := Lib.hid (HAL.out.bl hb)
  have HB2lt := Lib.hid (show w2.heap.size < B2 from by have : (w2.alloc (.cells #[.slice A1 n1 t1, .slice A2 n2 t2, .slice A3 n3 t3] 30)).heap.size = w2.heap.size + 1 := alloc_size _ _; omega)
  replace HKB := Lib.hid (HKB.out.bl hb)
  clear hh2 hb hB2
  go_wp2_with fail
  refine (hsame_any B2 B m m _ HC.out (HH2.out.bl HAL4.out) (fun s hs => HOKs.out s hs) (fun s hs => HOKs.out s hs)).mono ?_
  rintro e w5 ⟨rfl, hb⟩
  rw [sameH_refl]
  have HAL5 := Lib.hid (HAL4.out.bl hb)
  have HC5 := Lib.hid (HC.out.bl hb)
  replace HKB := Lib.hid (HKB.out.bl hb)
  clear hb HC
  have hwn := within_bd n 4 (by omega)
  obtain ⟨K, hK⟩ : ∃ K : Nat, within n 4 = K := ⟨(within n 4).toNat, by omega⟩
  have HK := Lib.hid hK
  have hK4 : K < 4 := by omega
  have hw1 : IntKind.i64.wrap (1 + (K : Int)) = 1 + K := IntWalk.i64_in _ (by omega)
  have HP4 := Lib.hid HM.out.2.2.2.1
  clear hK hwn
  go_wp2_with fail
  go_loopg [11, 12] (K + 1) (fun g v11 i wr => ∃ (k : Nat) (mg : HistM), k ≤ K + 1 ∧ g = K + 1 - k ∧ i = .int .i64 k ∧ v11 = .int .i64 (min k m.undo.length : Nat) ∧ Hid (HistIs 59 wr B2 mg) ∧ Hid (HOK mg) ∧ Hid (Back m mg (min k m.undo.length)) ∧ Hid (Bl w2 wr) ∧ Hid (Blk wr w2.heap.size #[.slice A1 n1 t1, .slice A2 n2 t2, .slice A3 n3 t3] 30))
  case atStart => exact ⟨0, m, by omega, rfl, rfl, by simp, HC5, HM, Lib.hid (by rw [Nat.zero_min]; exact Back.zero m), HAL5, HKB⟩
  case round =>
    clear HKB HC5 HAL5
    obtain ⟨k, mg, hk, rfl, rfl, rfl, HG, HMg, HBk, HX, HKB⟩ := hrel
    go_wp2_with fail
    refine (within_any _ _ _ (by decide)).mono ?_
    rintro e wx ⟨rfl, rfl⟩
    rw [HK.out]
    have HLe := Lib.hid HBk.out.len
    by_cases hlt : k < K + 1
    · have hlti : (k : Int) < 1 + K := by omega
      go_wp2_with fail
      refine (happly_any B2 mg _ ⟨4, 0, 0, 0, []⟩ _ HG.out (rec_is _ 4 0 0 0) HMg.out.1.1.1 HMg.out.2.2.2.1 HMg.out.2.2.2.2).mono ?_
      rintro e w6 ⟨rfl, hh, hg⟩
      have HM' := Lib.hid (HMg.out.apply ⟨4, 0, 0, 0, []⟩)
      rw [applyH_U] at hh HM'
      rw [applyH_U]
      have HX' := Lib.hid (HX.out.grown hg (fun k hk => by injection hk with hk; have := HB2lt.out; omega))
      have HKB' := Lib.hid (blk_grown HKB.out hg (by have := HB2lt.out; omega))
      by_cases hu : 0 < mg.undo.length
      · rw [dif_pos hu] at hh HM'
        rw [dif_pos hu]
        have hb' := HBk.out.undo HP4.out hu
        have hkm : k < m.undo.length := by have := HLe.out; omega
        rw [Nat.min_eq_left (by omega)] at hb' ⊢
        have HBk' := Lib.hid hb'
        have HHg := Lib.hid hh
        have hw2 : IntKind.i64.wrap ((k : Int) + 1) = k + 1 := IntWalk.i64_in _ (by omega)
        clear hh hb' hg
        go_wp2_with fail
        go_roundg (K + 1 - (k + 1))
        case measure => omega
        case rel => exact ⟨k + 1, _, by omega, rfl, by go_num, by rw [Nat.min_eq_left (by omega)]; go_num, HHg, HM', Lib.hid (by rw [Nat.min_eq_left (by omega)]; exact HBk'.out), HX', HKB'⟩
      · rw [dif_neg hu] at hh HM'
        rw [dif_neg hu]
        have HHg := Lib.hid hh
        have hkm : m.undo.length ≤ k := by have := HLe.out; omega
        have HBk' := HBk.out
        rw [Nat.min_eq_right hkm] at HBk' ⊢
        have HBk2 := Lib.hid HBk'
        clear hh HBk' hg
        go_wp2_with fail
        go_roundg (K + 1 - (k + 1))
        case measure => omega
        case rel => exact ⟨k + 1, mg, by omega, rfl, by go_num, by rw [Nat.min_eq_right (by omega)], HHg, HM', Lib.hid (by rw [Nat.min_eq_right (by omega)]; exact HBk2.out), HX', HKB'⟩
    · have hlti : ¬ (k : Int) < 1 + K := by omega
      obtain rfl : k = K + 1 := by omega
      obtain ⟨U, hU⟩ : ∃ U, min (K + 1) m.undo.length = U := ⟨_, rfl⟩
      rw [hU] at HBk ⊢
      have HU := Lib.hid hU
      have q0 := HKB.out.cell 0
      have q1 := HKB.out.cell 1
      have q2 := HKB.out.cell 2
      simp at q0 q1 q2
      clear hU hlt
      have hmin : min (n2 : Int) (1 + (K : Int)) = (U : Int) := by have := HN2.out; have := HU.out; omega
      go_wp2_with fail
      refine wp_region_ways (S := (fun w' => w'.cell? ⟨w2.heap.size, 0, none⟩ = some (.slice A1 n1 t1) ∧ w'.cell? ⟨w2.heap.size, 1, none⟩ = some (.slice A2 n2 t2) ∧ w'.cell? ⟨w2.heap.size, 2, none⟩ = some (.slice A3 n3 t3))) [0, 1, 3, 4, 5, 6, 7, 8, 9, 11, 12, 13, 14] (y := .take 0 (.take 1 (.ev 2 (.take 3 (.take 4 (.take 5 (.take 6 (.take 7 (.take 8 (.take 9 (.ev 10 (.take 11 (.take 12 (.take 13 (.take 14 (.done))))) (.stop))))))))) (.stop)))) (by kernel_rfl) (by kernel_rfl) (by kernel_rfl) ?_ (fun hHeld => ?_)
      · exact ⟨(Bl.refl _).drew.cell q0, (Bl.refl _).drew.cell q1, (Bl.refl _).drew.cell q2⟩
      have HHe := Lib.hid hHeld
      have HX2 := Lib.hid HX.out.drew
      have HC2 := Lib.hid (Bl.refl wr).drew
      clear hHeld q0 q1 q2
      repeat (first | (refine wpWay_take rfl (by rfl) (by intro w hSw; (try dsimp only at hSw); first | (go_simp; done) | (go_simp; with_reducible rfl)) ?_; try simp only [Act.put, List.setIfInBounds_toArray, List.set_cons_zero, List.set_cons_succ]) | (refine wpWay_skip rfl (by rfl) ?_; try simp only [Act.put, List.setIfInBounds_toArray, List.set_cons_zero, List.set_cons_succ]))
      refine wpWay_ev rfl (fun K hK => ?_) wpWay_stop
      go_wp2_with fail
      refine (same22_any B _ m _ (HH2.out.bl HX2.out) (HR2.out.bl HX2.out) HM.out).mono ?_
      rintro e w7 ⟨rfl, hb⟩
      have HX3 := Lib.hid (HX2.out.bl hb)
      replace HC2 := Lib.hid (HC2.out.bl hb)
      replace HHe := Lib.hid (And.intro (hb.cell HHe.out.1) (And.intro (hb.cell HHe.out.2.1) (hb.cell HHe.out.2.2)))
      clear hb
      go_wp2_with fail
      refine ⟨HHe.out, ?_⟩
      repeat (first | (refine wpWay_take rfl (by rfl) (by intro w hSw; (try dsimp only at hSw); first | (go_simp; done) | (go_simp; with_reducible rfl)) ?_; try simp only [Act.put, List.setIfInBounds_toArray, List.set_cons_zero, List.set_cons_succ]) | (refine wpWay_skip rfl (by rfl) ?_; try simp only [Act.put, List.setIfInBounds_toArray, List.set_cons_zero, List.set_cons_succ]))
      refine wpWay_ev rfl (fun K hK => ?_) wpWay_stop
      go_wp2_with fail
      refine (within_any _ _ _ (by decide)).mono ?_
      rintro e wx ⟨rfl, rfl⟩
      rw [HK.out]
      go_wp2_with fail
      refine ⟨HHe.out, ?_⟩
      repeat (first | (refine wpWay_take rfl (by rfl) (by intro w hSw; (try dsimp only at hSw); first | (go_simp; done) | (go_simp; with_reducible rfl)) ?_; try simp only [Act.put, List.setIfInBounds_toArray, List.set_cons_zero, List.set_cons_succ]) | (refine wpWay_skip rfl (by rfl) ?_; try simp only [Act.put, List.setIfInBounds_toArray, List.set_cons_zero, List.set_cons_succ]))
      refine wpWay_done ?_
      have HG3 := Lib.hid (HG.out.bl HC2.out)
      have hU4 : U ≤ 4 := by have := HU.out; omega
      go_wp2_with fail
      go_loopg [14] U (fun g i wr => ∃ (k : Nat) (mg : HistM), k ≤ U ∧ g = U - k ∧ i = .int .i64 k ∧ Hid (HistIs 59 wr B2 mg) ∧ Hid (HOK mg) ∧ Hid (Fwd m mg (U - k)) ∧ Hid (Bl w2 wr))
      case atStart => exact ⟨0, mg, by omega, rfl, rfl, HG3, HMg, Lib.hid HBk.out.1, HX3⟩
      case round =>
        clear HG3 HX3 HC2 HHe
        obtain ⟨k, mg, hk, rfl, rfl, HG, HMg, HF, HX⟩ := hrel
        by_cases hlt : k < U
        · obtain ⟨j, hj⟩ : ∃ j, U - k = j + 1 := ⟨U - k - 1, by omega⟩
          have hf := HF.out
          rw [hj] at hf
          obtain ⟨hu, hf2⟩ := hf.redo
          have hj2 : j = U - (k + 1) := by omega
          rw [hj2] at hf2
          have HF2 := Lib.hid hf2
          clear hf hf2 hj hj2
          go_wp2_with fail
          refine (happly_any B2 mg _ ⟨5, 0, 0, 0, []⟩ _ HG.out (rec_is _ 5 0 0 0) HMg.out.1.1.1 HMg.out.2.2.2.1 HMg.out.2.2.2.2).mono ?_
          rintro e w8 ⟨rfl, hh, hg⟩
          have HM' := Lib.hid (HMg.out.apply ⟨5, 0, 0, 0, []⟩)
          rw [applyH_R, dif_pos hu] at hh HM'
          rw [applyH_R, dif_pos hu]
          have HHg := Lib.hid hh
          have HX' := Lib.hid (HX.out.grown hg (fun k hk => by injection hk with hk; have := HB2lt.out; omega))
          clear hh hg
          go_wp2_with fail
          go_roundg (U - (k + 1))
          case measure => omega
          case rel => exact ⟨k + 1, _, by omega, rfl, by go_num, HHg, HM', HF2, HX'⟩
        · obtain rfl : k = U := by omega
          have hf := HF.out
          rw [Nat.sub_self] at hf
          have HNow := Lib.hid hf.done
          clear hf
          go_wp2_with fail
          refine (hnow_any B2 mg _ HG.out).mono ?_
          rintro e w9 ⟨u1, rfl, hst, rfl⟩
          have HS1 := Lib.hid hst
          obtain ⟨b1, _, _, rfl, _⟩ := id hst
          clear hst
          go_wp2_with fail
          refine (hnow_any B m _ (HH2.out.bl HX.out)).mono ?_
          rintro e w9 ⟨u2, rfl, hst, rfl⟩
          have HS2 := Lib.hid hst
          obtain ⟨b2, _, _, rfl, _⟩ := id hst
          clear hst
          go_wp2_with fail
          refine (hnow_any B2 mg _ HG.out).mono ?_
          rintro e w9 ⟨u3, rfl, hst, rfl⟩
          have HS3 := Lib.hid hst
          obtain ⟨b3, _, _, rfl, _⟩ := id hst
          clear hst
          go_wp2_with fail
          refine (hnow_any B m _ (HH2.out.bl HX.out)).mono ?_
          rintro e w9 ⟨u4, rfl, hst, rfl⟩
          have HS4 := Lib.hid hst
          obtain ⟨b4, _, _, rfl, _⟩ := id hst
          clear hst
          go_wp2_with fail
          refine (ssame_any _ _ mg.now m.now _ HS3.out HS4.out HMg.out.1.1.1.2 HM.out.1.1.1.2).mono ?_
          rintro e w9 ⟨rfl, hb⟩
          rw [HNow.out, sameS_refl]
          have HX9 := Lib.hid (HX.out.bl hb)
          clear hb
          go_wp2_with fail
          refine (wakes22_any _).mono ?_
          rintro e w10 ⟨rfl, hb⟩
          have HX10 := Lib.hid (HB2.out.bl (HX9.out.bl hb))
          clear hb
          go_wp2_with fail
          go_ret
          exact ⟨rfl, HX10.out⟩
end Go.Proofs.YtddcjekkimajpaaGreat.ExtW
