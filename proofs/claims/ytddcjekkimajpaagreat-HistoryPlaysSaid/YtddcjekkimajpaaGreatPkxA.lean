/- Several texts joined (see each one's head). -/
import Derived.Test.YtddcjekkimajpaaGreatPkG
/- The walk of overdublaw22.HistoryErrors. -/
namespace Go.Proofs.YtddcjekkimajpaaGreat.ExtW
open Go.RowKit Go.Ov Go.Proofs.YtddcjekkimajpaaGreat.Need

theorem sameSs_refl (a : List StM) : sameSs a a = true := by unfold sameSs; exact decide_eq_true rfl
theorem sameH_refl (m : HistM) : sameH m m = true := by unfold sameH; rw [sameS_refl, sameSs_refl, sameSs_refl]; rfl
theorem HOK.all {m : HistM} (h : HOK m) : ∀ s ∈ allH m, SOK s := fun s hs => by
  simp only [allH, List.cons_append, List.mem_cons, List.mem_append] at hs
  rcases hs with rfl | hs | hs
  · exact h.1.1
  · exact (h.2.1 s hs).1
  · exact (h.2.2.1 s hs).1
theorem ArgInts.bl {w w' : World} {v : Value} {l : List Int} (h : ArgInts w v l) (hb : Bl w w') : ArgInts w' v l := ⟨h.1.bl hb, h.2⟩

set_option maxRecDepth 100000 in
set_option maxHeartbeats 1000000 in
theorem herrs_walk (v : Value) (l : List Rec) (v' : Value) (ns : List Int) (what : Int) (w : World) (h : ArgRecs w v l) (h' : ArgInts w v' ns) (_ : -9223372036854775808 ≤ what ∧ what ≤ 9223372036854775807) :
    Calls Tryz.prog 4 #[v, v', .int .i64 what] w fun e w' => e = .returned (.bool true) ∧ Bl w w' := by
  have HL := Lib.hid h
  have HNS := Lib.hid h'
  obtain ⟨A, c, rfl, _⟩ := h
  obtain ⟨⟨A', c', rfl, _⟩, _⟩ := h'
  have hur := Tryz.underlying46
  have huh := Tryz.underlying30
  go_enter Tryz.func4, Tryz.ntmps4
  go_wp2_with fail
  refine (hnew_any _).mono ?_
  rintro e w1 ⟨B, rfl, hBw, hh, hb⟩
  have HB1 := Lib.hid hb
  have HBw := Lib.hid hBw
  have HH1 := Lib.hid hh
  clear hb hh hBw
  (go_wp2_with fail; refine (kcutRec_any _ l 8 _ (ArgRecs.bl HL.out HB1.out) (by decide) (by decide)).mono ?_; rintro e w1' ⟨uc, rfl, hcr, rfl⟩; obtain ⟨L, hL⟩ : ∃ L, L = l.take (8 : Int).toNat := ⟨_, rfl⟩; rw [← hL] at hcr; clear hL; have HCR := Lib.hid hcr; obtain ⟨Ac, cc, rfl, _⟩ := id hcr; clear hcr)
  go_wp2_with fail
  refine (play22_any (fun _ => false) B _ _ _ noH L ns _ HH1.out (RHIs.nil _) rfl HOK.no HCR.out (ArgInts.bl HNS.out HB1.out)).mono ?_
  rintro e w2 ⟨u, m, rfl, hh, hr, hm, hg⟩
  have HB2 := Lib.hid (HB1.out.grown hg (fun k hk => by injection hk with hk; have := HBw.out; omega))
  have HH2 := Lib.hid hh
  have HR2 := Lib.hid (RHIs.sub (Sub.un _ _) hr)
  have HM := Lib.hid hm
  obtain ⟨a1, b1, c1, rfl, h1, h2, h3⟩ := id hr
  obtain ⟨A1, n1, t1, rfl⟩ : ∃ A' n' c', a1 = .slice A' n' c' := by obtain ⟨A', c', e'⟩ := h1.slice; exact ⟨A', _, c', e'⟩
  obtain ⟨A2, n2, t2, rfl⟩ : ∃ A' n' c', b1 = .slice A' n' c' := by obtain ⟨A', c', e'⟩ := h2.slice; exact ⟨A', _, c', e'⟩
  obtain ⟨A3, n3, t3, rfl⟩ : ∃ A' n' c', c1 = .slice A' n' c' := by obtain ⟨A', c', e'⟩ := h3.slice; exact ⟨A', _, c', e'⟩
  clear hh hr hm hg h1 h2 h3 HB1 HH1
  have HOKs := Lib.hid (HOK.all HM.out)
  have hal := (Bl.refl w2).alloc (.cells #[.slice A1 n1 t1, .slice A2 n2 t2, .slice A3 n3 t3] 30)
  have HAL := Lib.hid hal
  have HKB := Lib.hid (Blk.new w2 #[.slice A1 n1 t1, .slice A2 n2 t2, .slice A3 n3 t3] 30)
  clear hal
  go_wp2_with fail
  refine (hnow_any B m _ (HH2.out.bl HAL.out)).mono ?_
  rintro e w3 ⟨u3, rfl, hst, rfl⟩
  obtain ⟨b3, _, _, rfl, _⟩ := id hst
  clear hst
  go_wp2_with fail
  refine (hcloneH_any B m _ (HH2.out.bl HAL.out) HM.out.2.2.2.1 HM.out.2.2.2.2).mono ?_
  rintro e w4 ⟨B2, rfl, hB2, hh2, hb⟩
  have HC := Lib.hid hh2
  have HB4 := Lib.hid (HAL.out.bl hb)
  replace HKB := Lib.hid (HKB.out.bl hb)
  clear hh2 hb hB2
  have hb1 := within_bd what 7 (by omega)
  go_wp2_with fail
  refine (within_any _ _ _ (by decide)).mono ?_
  rintro e w5 ⟨rfl, rfl⟩
  generalize within what 7 = y at *
  rcases (show y = 0 ∨ y = 1 ∨ y = 2 ∨ y = 3 ∨ y = 4 ∨ y = 5 ∨ y = 6 by omega) with rfl | rfl | rfl | rfl | rfl | rfl | rfl
  all_goals
    have q0 := HKB.out.cell 0
    have q1 := HKB.out.cell 1
    have q2 := HKB.out.cell 2
    have hlt := HKB.out.lt
    simp at q0 q1 q2
    go_wp2_with fail
    refine (hap20_any (fun _ => true) m _ _ _ _ (RHIs.sub ?hrs HR2.out) (rec_is _ _ _ _ _) HM.out).mono ?_
    case hrs => exact (Sub.bl ((HB4.out.alloc _).alloc _)).trans (fun ad v h => cell_only rfl h)
    rintro e w6 ⟨u6, rfl, hrh, hb⟩
    have HB6 := Lib.hid (((HB4.out.alloc _).alloc _).bl hb)
    have HX := Lib.hid ((Blk.new (w4.alloc _) _ _).bl hb)
    replace HKB := Lib.hid (HKB.out.bl ((((Bl.refl w4).alloc _).alloc _).bl hb))
    have HC6 := Lib.hid (HC.out.bl ((((Bl.refl w4).alloc _).alloc _).bl hb))
    obtain ⟨a2, b2, c2, rfl, h1, h2, h3⟩ := id hrh
    obtain ⟨D1, k1, s1, rfl⟩ : ∃ A' n' c', a2 = .slice A' n' c' := by obtain ⟨A', c', e'⟩ := h1.slice; exact ⟨A', _, c', e'⟩
    obtain ⟨D2, k2, s2, rfl⟩ : ∃ A' n' c', b2 = .slice A' n' c' := by obtain ⟨A', c', e'⟩ := h2.slice; exact ⟨A', _, c', e'⟩
    obtain ⟨D3, k3, s3, rfl⟩ : ∃ A' n' c', c2 = .slice A' n' c' := by obtain ⟨A', c', e'⟩ := h3.slice; exact ⟨A', _, c', e'⟩
    clear hrh h1 h2 h3 hb q0 q1 q2 hlt
    generalize hp : applyH m _ = p at *
    obtain ⟨m', ez⟩ := p
    have HP := Lib.hid hp
    clear hp
    dsimp only
    by_cases hz : ez = 0
    · subst hz
      go_wp2_with fail
      refine (wakes22_any _).mono ?_
      rintro e w7 ⟨rfl, hb⟩
      have HB7 := Lib.hid (HB2.out.bl ((HB6.out.alloc _).bl hb))
      clear hb
      go_wp2_with fail
      go_ret
      exact ⟨rfl, HB7.out⟩
    · have hz1 : (ez == 0) = false := by rw [beq_eq_false_iff_ne]; exact hz
      have HZ := Lib.hid hz
      have d0 := HX.out.cell 0
      have d1 := HX.out.cell 1
      have d2 := HX.out.cell 2
      have d3 := HX.out.cell 3
      have d4 := HX.out.cell 4
      have hltX := HX.out.lt
      simp at d0 d1 d2 d3 d4 hltX
      clear hz
      go_wp2_with fail
      have HA6 := Lib.hid (HB6.out.alloc (.cells #[.slice D1 k1 s1, .slice D2 k2 s2, .slice D3 k3 s3] 30))
      refine (happly_G (fun b => decide (b ≠ B)) B m _ _ _ (HistIs.toG (HH2.out.bl HA6.out)) (rec_is _ _ _ _ _) HM.out.1.1.1 HM.out.2.2.2.1 HM.out.2.2.2.2).mono ?_
      rintro e w7 ⟨rfl, hh, _, hno⟩
      rw [HP.out] at hh hno ⊢
      dsimp only at hh hno ⊢
      obtain ⟨hm', hb⟩ := hno HZ.out
      have HB7 := Lib.hid (HA6.out.bl hb)
      have HC7 := Lib.hid (HC6.out.bl (((Bl.refl w6).alloc _).bl hb))
      replace HKB := Lib.hid (HKB.out.bl (((Bl.refl w6).alloc _).bl hb))
      clear hh hno hm' hb d0 d1 d2 d3 d4 hltX
      go_wp2_with fail
      refine (hsame_any B B2 m m _ (HH2.out.bl HB7.out) HC7.out (fun s hs => HOKs.out s hs) (fun s hs => HOKs.out s hs)).mono ?_
      rintro e w8 ⟨rfl, hb⟩
      rw [sameH_refl]
      have HB8 := Lib.hid (HB7.out.bl hb)
      replace HKB := Lib.hid (HKB.out.bl hb)
      clear hb
      have q0 := HKB.out.cell 0
      have q1 := HKB.out.cell 1
      have q2 := HKB.out.cell 2
      simp at q0 q1 q2
      go_wp2_with fail
      refine (same22_any B _ m _ (HH2.out.bl HB8.out) (HR2.out.bl HB8.out) HM.out).mono ?_
      rintro e w9 ⟨rfl, hb⟩
      have HB9 := Lib.hid (HB8.out.bl hb)
      clear hb q0 q1 q2
      go_wp2_with fail
      refine (wakes22_any _).mono ?_
      rintro e w10 ⟨rfl, hb⟩
      have HB10 := Lib.hid (HB2.out.bl (HB9.out.bl hb))
      clear hb
      go_wp2_with fail
      go_ret
      exact ⟨rfl, HB10.out⟩
end Go.Proofs.YtddcjekkimajpaaGreat.ExtW

/- Contract of ref20's SameHistory. -/
namespace Go.Proofs.YtddcjekkimajpaaGreat.ExtW
open Go.RowKit Go.Ov Go.Proofs.YtddcjekkimajpaaGreat.Need

set_option maxRecDepth 100000 in
set_option maxHeartbeats 1000000 in
theorem samehist20_any (v v' : Value) (m m' : HistM) (w0 : World) (h : RHIs w0 v m) (h' : RHIs w0 v' m') (hm : HOK m) (hm' : HOK m') :
    Calls Tryz.prog 24 #[v, v'] w0 fun e w' => e = .returned (.bool (sameH m m')) ∧ Bl w0 w' := by
  have HMA := Lib.hid (HOK.all hm)
  have HMA' := Lib.hid (HOK.all hm')
  have HMU := Lib.hid (fun s hs => (hm.2.1 s hs).1)
  have HMR := Lib.hid (fun s hs => (hm.2.2.1 s hs).1)
  have HMU' := Lib.hid (fun s hs => (hm'.2.1 s hs).1)
  have HMR' := Lib.hid (fun s hs => (hm'.2.2.1 s hs).1)
  have HSN := Lib.hid hm.1.1
  have HSN' := Lib.hid hm'.1.1
  obtain ⟨a, b, c, rfl, h1, h2, h3⟩ := h
  obtain ⟨a', b', c', rfl, h1', h2', h3'⟩ := h'
  obtain ⟨Aa, na, cca, rfl⟩ : ∃ A' n' c', a = .slice A' n' c' := by obtain ⟨A', c', e'⟩ := h1.slice; exact ⟨A', _, c', e'⟩
  obtain ⟨Aa', na', cca', rfl⟩ : ∃ A' n' c', a' = .slice A' n' c' := by obtain ⟨A', c', e'⟩ := h1'.slice; exact ⟨A', _, c', e'⟩
  obtain ⟨hs2, hI2, hr2⟩ := h2
  obtain ⟨hs3, hI3, hr3⟩ := h3
  obtain ⟨hs2', hI2', hr2'⟩ := h2'
  obtain ⟨hs3', hI3', hr3'⟩ := h3'
  obtain ⟨Ab, ccb, rfl, g2, g2m, _, hA2⟩ := hI2
  obtain ⟨Ac, ccc, rfl, g3, g3m, _, hA3⟩ := hI3
  obtain ⟨Ab', ccb', rfl, g2', g2m', _, hA2'⟩ := hI2'
  obtain ⟨Ac', ccc', rfl, g3', g3m', _, hA3'⟩ := hI3'
  unfold maxLen at g2m g3m g2m' g3m'
  have hz2 : hs2.length ≤ 9223372036854775807 := by omega
  have hz3 : hs3.length ≤ 9223372036854775807 := by omega
  have HA2 := Lib.hid hA2
  have HA3 := Lib.hid hA3
  have HA2' := Lib.hid hA2'
  have HA3' := Lib.hid hA3'
  have HR2 := Lib.hid hr2
  have HR3 := Lib.hid hr3
  have HR2' := Lib.hid hr2'
  have HR3' := Lib.hid hr3'
  have HLn := Lib.hid h1
  have HLn' := Lib.hid h1'
  have huh := Tryz.underlying30
  clear h1 h1' hA2 hA3 hA2' hA3' hr2 hr3 hr2' hr3' hm hm' g2 g3 g2' g3' g2m g3m g2m' g3m'
  go_enter Tryz.func24, Tryz.ntmps24
  go_wp2_with fail
  obtain ⟨w, hw⟩ : ∃ w, w = (w0.alloc (.cells #[.slice Aa na cca, .slice Ab hs2.length ccb, .slice Ac hs3.length ccc] 30)).alloc (.cells #[.slice Aa' na' cca', .slice Ab' hs2'.length ccb', .slice Ac' hs3'.length ccc'] 30) := ⟨_, rfl⟩
  have hB0 : Bl w0 w := by rw [hw]; exact ((Bl.refl w0).alloc _).alloc _
  have HBK1 := Lib.hid (show Blk w w0.heap.size #[.slice Aa na cca, .slice Ab hs2.length ccb, .slice Ac hs3.length ccc] 30 from by rw [hw]; exact (Blk.new w0 _ _).bl ((Bl.refl _).alloc _))
  have HBK2 := Lib.hid (show Blk w (w0.heap.size + 1) #[.slice Aa' na' cca', .slice Ab' hs2'.length ccb', .slice Ac' hs3'.length ccc'] 30 from by
    have := Blk.new (w0.alloc (.cells #[.slice Aa na cca, .slice Ab hs2.length ccb, .slice Ac hs3.length ccc] 30)) #[.slice Aa' na' cca', .slice Ab' hs2'.length ccb', .slice Ac' hs3'.length ccc'] 30
    rw [alloc_size] at this
    rw [hw]; exact this)
  rw [← hw]
  have HB0 := Lib.hid hB0
  clear hw hB0
  replace HA2 := Lib.hid (HA2.out.bl HB0.out)
  replace HA3 := Lib.hid (HA3.out.bl HB0.out)
  replace HA2' := Lib.hid (HA2'.out.bl HB0.out)
  replace HA3' := Lib.hid (HA3'.out.bl HB0.out)
  replace HR2 := Lib.hid (LnsRows.sub (Sub.bl HB0.out) HR2.out)
  replace HR3 := Lib.hid (LnsRows.sub (Sub.bl HB0.out) HR3.out)
  replace HR2' := Lib.hid (LnsRows.sub (Sub.bl HB0.out) HR2'.out)
  replace HR3' := Lib.hid (LnsRows.sub (Sub.bl HB0.out) HR3'.out)
  refine (lsame_any _ _ (rowsOf m.now) (rowsOf m'.now) _ (HLn.out.bl HB0.out) (HLn'.out.bl HB0.out) (by rw [rowsOf_len]; have := HSN.out.1.1; omega) (by rw [rowsOf_len]; have := HSN'.out.1.1; omega)).mono ?_
  rintro e w1 ⟨rfl, hb⟩
  have HS0 := Lib.hid (show sameS m.now m'.now = decide (rowsOf m.now = rowsOf m'.now) from rfl)
  rw [← HS0.out]
  have HB1 := Lib.hid hb
  have q1 := (HBK1.out.bl hb).cell 1
  have q2 := (HBK1.out.bl hb).cell 2
  have r1 := (HBK2.out.bl hb).cell 1
  have r2 := (HBK2.out.bl hb).cell 2
  simp at q1 q2 r1 r2
  clear hb HS0
  have HFIN := Lib.hid (HB0.out.bl HB1.out)
  cases hs0 : sameS m.now m'.now
  · have HSH := Lib.hid (show sameH m m' = false from by unfold sameH; rw [hs0]; rfl)
    clear hs0
    go_wp2_with fail
    go_loopg [5] 0 (fun g v5 wr => v5 = .bool false ∧ Hid (Bl w wr))
    case atStart => exact ⟨rfl, HB1⟩
    case round =>
      obtain ⟨rfl, HBa⟩ := hrel
      go_wp2_with fail
      (go_loopg [5] 0 (fun g v5 wr => v5 = .bool false ∧ Hid (Bl w wr)); (case atStart => exact ⟨rfl, HBa⟩); (case round => (obtain ⟨rfl, HBb⟩ := hrel; go_wp2_with fail; go_ret; exact ⟨ret_bool HSH.out.symm, HB0.out.bl HBb.out⟩)))
  have HS0 := Lib.hid hs0
  clear hs0
  by_cases hl2 : hs2.length = hs2'.length
  case neg =>
    have e2 : ((hs2.length : Int) == hs2'.length) = false := by rw [beq_eq_false_iff_ne]; omega
    have HSH := Lib.hid (show sameH m m' = false from by
      unfold sameH
      rw [show sameSs m.undo m'.undo = false from decide_eq_false (fun h => hl2 (by have := congrArg List.length h; simp at this; have := HR2.out.1; have := HR2'.out.1; omega))]
      simp)
    clear hl2
    go_wp2_with fail
    go_loopg [5] 0 (fun g v5 wr => v5 = .bool false ∧ Hid (Bl w wr))
    case atStart => exact ⟨rfl, HB1⟩
    case round =>
      obtain ⟨rfl, HBa⟩ := hrel
      go_wp2_with fail
      (go_loopg [5] 0 (fun g v5 wr => v5 = .bool false ∧ Hid (Bl w wr)); (case atStart => exact ⟨rfl, HBa⟩); (case round => (obtain ⟨rfl, HBb⟩ := hrel; go_wp2_with fail; go_ret; exact ⟨ret_bool HSH.out.symm, HB0.out.bl HBb.out⟩)))
  have e2 : ((hs2.length : Int) == hs2'.length) = true := by rw [hl2]; simp
  have HL2 := Lib.hid hl2
  clear hl2
  by_cases hl3 : hs3.length = hs3'.length
  case neg =>
    have e3 : ((hs3.length : Int) == hs3'.length) = false := by rw [beq_eq_false_iff_ne]; omega
    have HSH := Lib.hid (show sameH m m' = false from by
      unfold sameH
      rw [show sameSs m.redo m'.redo = false from decide_eq_false (fun h => hl3 (by have := congrArg List.length h; simp at this; have := HR3.out.1; have := HR3'.out.1; omega))]
      simp)
    clear hl3
    go_wp2_with fail
    go_loopg [5] 0 (fun g v5 wr => v5 = .bool false ∧ Hid (Bl w wr))
    case atStart => exact ⟨rfl, HB1⟩
    case round =>
      obtain ⟨rfl, HBa⟩ := hrel
      go_wp2_with fail
      (go_loopg [5] 0 (fun g v5 wr => v5 = .bool false ∧ Hid (Bl w wr)); (case atStart => exact ⟨rfl, HBa⟩); (case round => (obtain ⟨rfl, HBb⟩ := hrel; go_wp2_with fail; go_ret; exact ⟨ret_bool HSH.out.symm, HB0.out.bl HBb.out⟩)))
  have e3 : ((hs3.length : Int) == hs3'.length) = true := by rw [hl3]; simp
  have HL3 := Lib.hid hl3
  clear hl3
  go_upto_block 0 with fail
  go_cut [5] (fun v5 wc => ∃ ok : Bool, v5 = .bool ok ∧ Hid (ok = false → sameH m m' = false) ∧ Hid (ok = true → sameSs m.undo m'.undo = true) ∧ Hid (Bl w wc))
  case first =>
    go_wp2_with fail
    have HLEN := Lib.hid HL2.out
    go_loopg [5, 6] hs2.length (fun g v5 i wr => ∃ k : Nat, k ≤ hs2.length ∧ g = hs2.length - k ∧ i = .int .i64 k ∧ v5 = .bool (decide ((m.undo.take k).map rowsOf = (m'.undo.take k).map rowsOf)) ∧ Hid (Bl w wr))
    case atStart => exact ⟨0, by omega, rfl, rfl, by simp, HB1⟩
    case round =>
      obtain ⟨k, hk, rfl, rfl, rfl, HBa⟩ := hrel
      cases hq : decide ((m.undo.take k).map rowsOf = (m'.undo.take k).map rowsOf)
      · have HQ := Lib.hid (show sameSs m.undo m'.undo = false from by
          unfold sameSs
          refine decide_eq_false (fun h => of_decide_eq_false hq ?_)
          rw [List.map_take, List.map_take, h])
        have HSH := Lib.hid (show sameH m m' = false from by unfold sameH; rw [HQ.out]; simp)
        go_wp2_with fail
        (go_meet; exact ⟨false, rfl, Lib.hid (fun _ => HSH.out), Lib.hid (fun h => by cases h), HBa⟩)
      · have HQ := Lib.hid (of_decide_eq_true hq)
        have q1 := (HBK1.out.bl HBa.out).cell 1
        have q2 := (HBK2.out.bl HBa.out).cell 1
        simp at q1 q2
        clear hq
        by_cases hlt : k < hs2.length
        · have hlt' : k < hs2'.length := by have := HLEN.out; omega
          have hx1 : k < (m.undo).length := by have := HR2.out.1; omega
          have hx2 : k < (m'.undo).length := by have := HR2'.out.1; omega
          obtain ⟨ad, rfl, d0⟩ := head_at (HA2.out.bl HBa.out) k hlt
          obtain ⟨ad', rfl, d1⟩ := head_at (HA2'.out.bl HBa.out) k hlt'
          obtain ⟨_, hln⟩ := HR2.out.at k hx1
          obtain ⟨_, hln'⟩ := HR2'.out.at k hx2
          have HLN := Lib.hid (hln.bl HBa.out)
          have HLN' := Lib.hid (hln'.bl HBa.out)
          have HK1 := Lib.hid (HMU.out _ (List.getElem_mem hx1))
          have HK2 := Lib.hid (HMU'.out _ (List.getElem_mem hx2))
          have ht := Lib.hid (List.take_succ_eq_append_getElem hx1)
          have ht' := Lib.hid (List.take_succ_eq_append_getElem hx2)
          generalize hs2[k] = ha at *
          generalize hs2'[k] = hb at *
          generalize (m.undo)[k] = s at *
          generalize (m'.undo)[k] = s' at *
          obtain ⟨xA, xn, xc⟩ := ha
          obtain ⟨yA, yn, yc⟩ := hb
          simp only [Head.v] at d0 d1 HLN HLN'
          clear hln hln'
          go_wp2_with fail
          refine wp_region_ways (S := (fun w' => w'.cell? ⟨w0.heap.size, 1, none⟩ = some (.slice (some ad) hs2.length ccb) ∧ w'.cell? ⟨w0.heap.size + 1, 1, none⟩ = some (.slice (some ad') hs2'.length ccb') ∧ w'.cell? (ad.add k) = some (.slice xA xn xc) ∧ w'.cell? (ad'.add k) = some (.slice yA yn yc))) [0, 1, 2, 3, 4, 5, 6, 7, 8, 9, 11] (y := .take 0 (.take 1 (.take 2 (.take 3 (.take 4 (.take 5 (.take 6 (.take 7 (.take 8 (.take 9 (.ev 10 (.take 11 (.done)) (.stop)))))))))))) (by kernel_rfl) (by kernel_rfl) (by kernel_rfl) ?_ (fun hHeld => ?_)
          · exact ⟨(Bl.refl _).drew.cell q1, (Bl.refl _).drew.cell q2, (Bl.refl _).drew.cell d0, (Bl.refl _).drew.cell d1⟩
          have HHL := Lib.hid hHeld
          clear hHeld q1 q2 d0 d1
          repeat (first | (refine wpWay_take rfl (by rfl) (by intro w hSw; (try dsimp only at hSw); first | (go_simp; done) | (go_simp; with_reducible rfl)) ?_; try simp only [Act.put, List.setIfInBounds_toArray, List.set_cons_zero, List.set_cons_succ]) | (refine wpWay_skip rfl (by rfl) ?_; try simp only [Act.put, List.setIfInBounds_toArray, List.set_cons_zero, List.set_cons_succ]))
          refine wpWay_ev rfl (fun K hK => ?_) wpWay_stop
          go_wp2_with fail
          refine (lsame_any _ _ (rowsOf s) (rowsOf s') _ (HLN.out.bl (Bl.refl _).drew) (HLN'.out.bl (Bl.refl _).drew) (by rw [rowsOf_len]; have := HK1.out.1.1; omega) (by rw [rowsOf_len]; have := HK2.out.1.1; omega)).mono ?_
          rintro e wn ⟨rfl, hb⟩
          have HBa' := Lib.hid (HBa.out.drew.bl hb)
          replace HHL := Lib.hid (And.intro (hb.cell HHL.out.1) (And.intro (hb.cell HHL.out.2.1) (And.intro (hb.cell HHL.out.2.2.1) (hb.cell HHL.out.2.2.2))))
          have HE := Lib.hid (show decide (rowsOf s = rowsOf s') = decide ((m.undo.take (k + 1)).map rowsOf = (m'.undo.take (k + 1)).map rowsOf) from by
            rw [ht.out, ht'.out, List.map_append, List.map_append, HQ.out]
            simp)
          generalize decide (rowsOf s = rowsOf s') = bq at *
          clear hb
          go_wp2_with fail
          refine ⟨HHL.out, ?_⟩
          repeat (first | (refine wpWay_take rfl (by rfl) (by intro w hSw; (try dsimp only at hSw); first | (go_simp; done) | (go_simp; with_reducible rfl)) ?_; try simp only [Act.put, List.setIfInBounds_toArray, List.set_cons_zero, List.set_cons_succ]) | (refine wpWay_skip rfl (by rfl) ?_; try simp only [Act.put, List.setIfInBounds_toArray, List.set_cons_zero, List.set_cons_succ]))
          refine wpWay_done ?_
          go_wp2_with fail
          go_roundg (hs2.length - (k + 1))
          case measure => omega
          case rel => exact ⟨k + 1, by omega, rfl, by go_num, by rw [HE.out], HBa'⟩
        · have HQ2 := Lib.hid (show sameSs m.undo m'.undo = true from by
            unfold sameSs
            have h1 := HR2.out.1
            have h2 := HR2'.out.1
            have h3 := HLEN.out
            have := HQ.out
            rw [List.take_of_length_le (by omega), List.take_of_length_le (by omega)] at this
            exact decide_eq_true this)
          go_wp2_with fail
          (go_meet; exact ⟨true, rfl, Lib.hid (fun h => by cases h), Lib.hid (fun _ => HQ2.out), HBa⟩)
  case rest =>
  clear HB1 q1 q2 r1 r2
  obtain ⟨ok, rfl, HNO, HYES, HB⟩ := hcut
  have q2 := (HBK1.out.bl HB.out).cell 2
  have r2 := (HBK2.out.bl HB.out).cell 2
  simp at q2 r2
  cases ok
  · have HSH := Lib.hid (HNO.out rfl)
    go_wp2_with fail
    go_loopg [5] 0 (fun g v5 wr => v5 = .bool false ∧ Hid (Bl w wr))
    case atStart => exact ⟨rfl, HB⟩
    case round =>
      obtain ⟨rfl, HBa⟩ := hrel
      go_wp2_with fail
      (go_ret; exact ⟨ret_bool HSH.out.symm, HB0.out.bl HBa.out⟩)
  · have HU2 := Lib.hid (HYES.out rfl)
    clear HYES HNO
    go_wp2_with fail
    have HLEN := Lib.hid HL3.out
    go_loopg [5, 7] hs3.length (fun g v5 i wr => ∃ k : Nat, k ≤ hs3.length ∧ g = hs3.length - k ∧ i = .int .i64 k ∧ v5 = .bool (decide ((m.redo.take k).map rowsOf = (m'.redo.take k).map rowsOf)) ∧ Hid (Bl w wr))
    case atStart => exact ⟨0, by omega, rfl, rfl, by simp, HB⟩
    case round =>
      obtain ⟨k, hk, rfl, rfl, rfl, HBa⟩ := hrel
      cases hq : decide ((m.redo.take k).map rowsOf = (m'.redo.take k).map rowsOf)
      · have HQ := Lib.hid (show sameSs m.redo m'.redo = false from by
          unfold sameSs
          refine decide_eq_false (fun h => of_decide_eq_false hq ?_)
          rw [List.map_take, List.map_take, h])
        have HSH := Lib.hid (show sameH m m' = false from by unfold sameH; rw [HQ.out]; simp)
        go_wp2_with fail
        (go_ret; exact ⟨ret_bool HSH.out.symm, HB0.out.bl HBa.out⟩)
      · have HQ := Lib.hid (of_decide_eq_true hq)
        have q1 := (HBK1.out.bl HBa.out).cell 2
        have q2 := (HBK2.out.bl HBa.out).cell 2
        simp at q1 q2
        clear hq
        by_cases hlt : k < hs3.length
        · have hlt' : k < hs3'.length := by have := HLEN.out; omega
          have hx1 : k < (m.redo).length := by have := HR3.out.1; omega
          have hx2 : k < (m'.redo).length := by have := HR3'.out.1; omega
          obtain ⟨ad, rfl, d0⟩ := head_at (HA3.out.bl HBa.out) k hlt
          obtain ⟨ad', rfl, d1⟩ := head_at (HA3'.out.bl HBa.out) k hlt'
          obtain ⟨_, hln⟩ := HR3.out.at k hx1
          obtain ⟨_, hln'⟩ := HR3'.out.at k hx2
          have HLN := Lib.hid (hln.bl HBa.out)
          have HLN' := Lib.hid (hln'.bl HBa.out)
          have HK1 := Lib.hid (HMR.out _ (List.getElem_mem hx1))
          have HK2 := Lib.hid (HMR'.out _ (List.getElem_mem hx2))
          have ht := Lib.hid (List.take_succ_eq_append_getElem hx1)
          have ht' := Lib.hid (List.take_succ_eq_append_getElem hx2)
          generalize hs3[k] = ha at *
          generalize hs3'[k] = hb at *
          generalize (m.redo)[k] = s at *
          generalize (m'.redo)[k] = s' at *
          obtain ⟨xA, xn, xc⟩ := ha
          obtain ⟨yA, yn, yc⟩ := hb
          simp only [Head.v] at d0 d1 HLN HLN'
          clear hln hln'
          go_wp2_with fail
          refine wp_region_ways (S := (fun w' => w'.cell? ⟨w0.heap.size, 2, none⟩ = some (.slice (some ad) hs3.length ccc) ∧ w'.cell? ⟨w0.heap.size + 1, 2, none⟩ = some (.slice (some ad') hs3'.length ccc') ∧ w'.cell? (ad.add k) = some (.slice xA xn xc) ∧ w'.cell? (ad'.add k) = some (.slice yA yn yc))) [0, 1, 2, 3, 4, 5, 6, 7, 8, 9, 11] (y := .take 0 (.take 1 (.take 2 (.take 3 (.take 4 (.take 5 (.take 6 (.take 7 (.take 8 (.take 9 (.ev 10 (.take 11 (.done)) (.stop)))))))))))) (by kernel_rfl) (by kernel_rfl) (by kernel_rfl) ?_ (fun hHeld => ?_)
          · exact ⟨(Bl.refl _).drew.cell q1, (Bl.refl _).drew.cell q2, (Bl.refl _).drew.cell d0, (Bl.refl _).drew.cell d1⟩
          have HHL := Lib.hid hHeld
          clear hHeld q1 q2 d0 d1
          repeat (first | (refine wpWay_take rfl (by rfl) (by intro w hSw; (try dsimp only at hSw); first | (go_simp; done) | (go_simp; with_reducible rfl)) ?_; try simp only [Act.put, List.setIfInBounds_toArray, List.set_cons_zero, List.set_cons_succ]) | (refine wpWay_skip rfl (by rfl) ?_; try simp only [Act.put, List.setIfInBounds_toArray, List.set_cons_zero, List.set_cons_succ]))
          refine wpWay_ev rfl (fun K hK => ?_) wpWay_stop
          go_wp2_with fail
          refine (lsame_any _ _ (rowsOf s) (rowsOf s') _ (HLN.out.bl (Bl.refl _).drew) (HLN'.out.bl (Bl.refl _).drew) (by rw [rowsOf_len]; have := HK1.out.1.1; omega) (by rw [rowsOf_len]; have := HK2.out.1.1; omega)).mono ?_
          rintro e wn ⟨rfl, hb⟩
          have HBa' := Lib.hid (HBa.out.drew.bl hb)
          replace HHL := Lib.hid (And.intro (hb.cell HHL.out.1) (And.intro (hb.cell HHL.out.2.1) (And.intro (hb.cell HHL.out.2.2.1) (hb.cell HHL.out.2.2.2))))
          have HE := Lib.hid (show decide (rowsOf s = rowsOf s') = decide ((m.redo.take (k + 1)).map rowsOf = (m'.redo.take (k + 1)).map rowsOf) from by
            rw [ht.out, ht'.out, List.map_append, List.map_append, HQ.out]
            simp)
          generalize decide (rowsOf s = rowsOf s') = bq at *
          clear hb
          go_wp2_with fail
          refine ⟨HHL.out, ?_⟩
          repeat (first | (refine wpWay_take rfl (by rfl) (by intro w hSw; (try dsimp only at hSw); first | (go_simp; done) | (go_simp; with_reducible rfl)) ?_; try simp only [Act.put, List.setIfInBounds_toArray, List.set_cons_zero, List.set_cons_succ]) | (refine wpWay_skip rfl (by rfl) ?_; try simp only [Act.put, List.setIfInBounds_toArray, List.set_cons_zero, List.set_cons_succ]))
          refine wpWay_done ?_
          go_wp2_with fail
          go_roundg (hs3.length - (k + 1))
          case measure => omega
          case rel => exact ⟨k + 1, by omega, rfl, by go_num, by rw [HE.out], HBa'⟩
        · have HQ2 := Lib.hid (show sameSs m.redo m'.redo = true from by
            unfold sameSs
            have h1 := HR3.out.1
            have h2 := HR3'.out.1
            have h3 := HLEN.out
            have := HQ.out
            rw [List.take_of_length_le (by omega), List.take_of_length_le (by omega)] at this
            exact decide_eq_true this)
          go_wp2_with fail
          (go_ret; exact ⟨ret_bool (by unfold sameH; rw [HS0.out, HU2.out, HQ2.out]; rfl), HB0.out.bl HBa.out⟩)
end Go.Proofs.YtddcjekkimajpaaGreat.ExtW

/- The walk of overdublaw22.HistoryPlays. -/
namespace Go.Proofs.YtddcjekkimajpaaGreat.ExtW
open Go.RowKit Go.Ov Go.Proofs.YtddcjekkimajpaaGreat.Need

set_option maxRecDepth 100000 in
set_option maxHeartbeats 1000000 in
theorem hplays_walk (v : Value) (l : List Rec) (v1 : Value) (lm : List Rec) (v' : Value) (ns : List Int) (w : World) (h : ArgRecs w v l) (h1 : ArgRecs w v1 lm) (h' : ArgInts w v' ns) :
    Calls Tryz.prog 5 #[v, v1, v'] w fun e w' => e = .returned (.bool true) ∧ Bl w w' := by
  have HL := Lib.hid h
  have HLM := Lib.hid h1
  have HNS := Lib.hid h'
  obtain ⟨A, c, rfl, _⟩ := h
  obtain ⟨Am, cm, rfl, _⟩ := h1
  obtain ⟨⟨A', c', rfl, _⟩, _⟩ := h'
  have hur := Tryz.underlying46
  have huh := Tryz.underlying30
  go_enter Tryz.func5, Tryz.ntmps5
  go_wp2_with fail
  refine (hnew_any _).mono ?_
  rintro e w1 ⟨B, rfl, hBw, hh, hb⟩
  have HB1 := Lib.hid hb
  have HBw := Lib.hid hBw
  have HH1 := Lib.hid hh
  clear hb hh hBw
  skip
  go_wp2_with fail
  refine (play22_any (fun _ => false) B _ _ _ noH l ns _ HH1.out (RHIs.nil _) rfl HOK.no (ArgRecs.bl HL.out HB1.out) (ArgInts.bl HNS.out HB1.out)).mono ?_
  rintro e w2 ⟨u, m, rfl, hh, hr, hm, hg⟩
  have HB2 := Lib.hid (HB1.out.grown hg (fun k hk => by injection hk with hk; have := HBw.out; omega))
  have HH2 := Lib.hid hh
  have HR2 := Lib.hid (RHIs.sub (Sub.un _ _) hr)
  have HM := Lib.hid hm
  obtain ⟨a1, b1, c1, rfl, h1, h2, h3⟩ := id hr
  obtain ⟨A1, n1, t1, rfl⟩ : ∃ A' n' c', a1 = .slice A' n' c' := by obtain ⟨A', c', e'⟩ := h1.slice; exact ⟨A', _, c', e'⟩
  obtain ⟨A2, n2, t2, rfl⟩ : ∃ A' n' c', b1 = .slice A' n' c' := by obtain ⟨A', c', e'⟩ := h2.slice; exact ⟨A', _, c', e'⟩
  obtain ⟨A3, n3, t3, rfl⟩ : ∃ A' n' c', c1 = .slice A' n' c' := by obtain ⟨A', c', e'⟩ := h3.slice; exact ⟨A', _, c', e'⟩
  clear hh hr hm hg h1 h2 h3 HB1 HH1
  have HOKs := Lib.hid (HOK.all HM.out)
  have hal := (Bl.refl w2).alloc (.cells #[.slice A1 n1 t1, .slice A2 n2 t2, .slice A3 n3 t3] 30)
  have HAL := Lib.hid hal
  have HKB := Lib.hid (Blk.new w2 #[.slice A1 n1 t1, .slice A2 n2 t2, .slice A3 n3 t3] 30)
  clear hal
  go_wp2_with fail
  refine (hcloneH_any B m _ (HH2.out.bl HAL.out) HM.out.2.2.2.1 HM.out.2.2.2.2).mono ?_
  rintro e w4 ⟨B2, rfl, hB2, hh2, hb⟩
  have HC := Lib.hid hh2
  have HB4 := Lib.hid ((HB2.out.bl HAL.out).bl hb)
  have HAL4 := Lib.hid (HAL.out.bl hb)
  have hB2w := hb.size
  have HB2lt := Lib.hid (show w2.heap.size < B2 from by have : (w2.alloc (.cells #[.slice A1 n1 t1, .slice A2 n2 t2, .slice A3 n3 t3] 30)).heap.size = w2.heap.size + 1 := alloc_size _ _; omega)
  replace HKB := Lib.hid (HKB.out.bl hb)
  clear hh2 hb hB2 hB2w
  go_wp2_with fail
  refine (hsame_any B B2 m m _ (HH2.out.bl HAL4.out) HC.out (fun s hs => HOKs.out s hs) (fun s hs => HOKs.out s hs)).mono ?_
  rintro e w5 ⟨rfl, hb⟩
  rw [sameH_refl]
  have HB5 := Lib.hid (HB4.out.bl hb)
  have HAL5 := Lib.hid (HAL4.out.bl hb)
  have HC5 := Lib.hid (HC.out.bl hb)
  replace HKB := Lib.hid (HKB.out.bl hb)
  clear hb HC
  have q0 := HKB.out.cell 0
  have q1 := HKB.out.cell 1
  have q2 := HKB.out.cell 2
  simp at q0 q1 q2
  go_wp2_with fail
  refine wp_region_ways (S := (fun w' => w'.cell? ⟨w2.heap.size, 0, none⟩ = some (.slice A1 n1 t1) ∧ w'.cell? ⟨w2.heap.size, 1, none⟩ = some (.slice A2 n2 t2) ∧ w'.cell? ⟨w2.heap.size, 2, none⟩ = some (.slice A3 n3 t3))) [0, 1, 2, 4, 6, 7, 8, 11] (y := .take 0 (.take 1 (.take 2 (.take 4 (.ev 3 (.ev 5 (.take 6 (.take 7 (.take 8 (.ev 9 (.ev 10 (.take 11 (.done)) (.stop)) (.stop))))) (.ev 9 (.ev 5 (.take 6 (.take 7 (.take 8 (.ev 10 (.take 11 (.done)) (.stop))))) (.stop)) (.stop))) (.ev 9 (.ev 3 (.ev 5 (.take 6 (.take 7 (.take 8 (.ev 10 (.take 11 (.done)) (.stop))))) (.stop)) (.stop)) (.stop))))))) (by kernel_rfl) (by kernel_rfl) (by kernel_rfl) ?_ (fun hHeld => ?_)
  · exact ⟨(Bl.refl _).drew.cell q0, (Bl.refl _).drew.cell q1, (Bl.refl _).drew.cell q2⟩
  have HHe := Lib.hid hHeld
  have HBd := Lib.hid (HB5.out.drew)
  clear hHeld q0 q1 q2
  have HR2L := Lib.hid (RHIs.sub (b := only w2 (fun k => decide (k < w2.heap.size))) (fun ad _ q => cell_only (decide_eq_true (World.block_lt_of_cell? w2 ad q)) q) HR2.out)
  have H25 := Lib.hid (show Bl w2 w5.drew from HAL5.out.drew)
  replace HKB := Lib.hid (HKB.out.bl (Bl.refl _).drew)
  have HG5 := Lib.hid ((HistIs.toG HC5.out).cap.bl (Bl.refl w5).drew)
  repeat (first | (refine wpWay_take rfl (by rfl) (by intro w hSw; (try dsimp only at hSw); first | (go_simp; done) | (go_simp; with_reducible rfl)) ?_; try simp only [Act.put, List.setIfInBounds_toArray, List.set_cons_zero, List.set_cons_succ]) | (refine wpWay_skip rfl (by rfl) ?_; try simp only [Act.put, List.setIfInBounds_toArray, List.set_cons_zero, List.set_cons_succ]))
  refine wpWay_ev rfl (fun K hK => ?_) ?_
  · go_wp2_with fail
    refine (kcutRec_any _ lm 8 _ (ArgRecs.bl HLM.out HBd.out) (by decide) (by decide)).mono ?_
    rintro e wc' ⟨uc, rfl, hcr, rfl⟩
    obtain ⟨L, hL⟩ : ∃ L, L = lm.take (8 : Int).toNat := ⟨_, rfl⟩
    rw [← hL] at hcr
    clear hL
    have HCR := Lib.hid hcr
    obtain ⟨Ac, cc, rfl, _⟩ := id hcr
    clear hcr
    go_wp2_with fail
    refine ⟨HHe.out, ?_⟩
    repeat (first | (refine wpWay_take rfl (by rfl) (by intro w hSw; (try dsimp only at hSw); first | (go_simp; done) | (go_simp; with_reducible rfl)) ?_; try simp only [Act.put, List.setIfInBounds_toArray, List.set_cons_zero, List.set_cons_succ]) | (refine wpWay_skip rfl (by rfl) ?_; try simp only [Act.put, List.setIfInBounds_toArray, List.set_cons_zero, List.set_cons_succ]))
    refine wpWay_ev rfl (fun K hK => ?_) ?_
    · have HXX := H25
      have HBx := HBd
      go_wp2_with fail
      refine (play22_G _ (fun k => decide (k < w2.heap.size)) B2 _ _ _ m L ns _ HG5.out (RHIs.sub (Sub.bl (HXX.out.only _)) HR2L.out) (decide_eq_false (by have := HB2lt.out; omega)) HM.out HCR.out (ArgInts.bl HNS.out HBx.out)).mono ?_
      rintro e wy ⟨u, m', rfl, hh, hr, hm, hg⟩
      have HXY := Lib.hid (HXX.out.grown hg (fun k hk => by injection hk with hk; have := HB2lt.out; omega))
      have HY := Lib.hid hg
      have HGy := Lib.hid hh.cap
      have HQy := Lib.hid (RHIs.sub (Sub.cap _ _) hr)
      have HMq := Lib.hid hm
      obtain ⟨d1, d2, d3, rfl, g1, g2, g3⟩ := id hr
      obtain ⟨D1, k1, s1, rfl⟩ : ∃ A' n' c', d1 = .slice A' n' c' := by obtain ⟨A', c', e'⟩ := g1.slice; exact ⟨A', _, c', e'⟩
      obtain ⟨D2, k2, s2, rfl⟩ : ∃ A' n' c', d2 = .slice A' n' c' := by obtain ⟨A', c', e'⟩ := g2.slice; exact ⟨A', _, c', e'⟩
      obtain ⟨D3, k3, s3, rfl⟩ : ∃ A' n' c', d3 = .slice A' n' c' := by obtain ⟨A', c', e'⟩ := g3.slice; exact ⟨A', _, c', e'⟩
      replace HKB := Lib.hid (blk_grown HKB.out hg (by have := HB2lt.out; omega))
      have q0 := HKB.out.cell 0
      have q1 := HKB.out.cell 1
      have q2 := HKB.out.cell 2
      simp at q0 q1 q2
      replace HHe := Lib.hid (And.intro q0 (And.intro q1 q2))
      clear hh hr hm hg g1 g2 g3 q0 q1 q2
      go_wp2_with fail
      refine ⟨HHe.out, ?_⟩
      repeat (first | (refine wpWay_take rfl (by rfl) (by intro w hSw; (try dsimp only at hSw); first | (go_simp; done) | (go_simp; with_reducible rfl)) ?_; try simp only [Act.put, List.setIfInBounds_toArray, List.set_cons_zero, List.set_cons_succ]) | (refine wpWay_skip rfl (by rfl) ?_; try simp only [Act.put, List.setIfInBounds_toArray, List.set_cons_zero, List.set_cons_succ]))
      refine wpWay_ev rfl (fun K hK => ?_) wpWay_stop
      go_wp2_with fail
      have ha := (Bl.refl wy).alloc (.cells #[.slice none 0 0, .slice none 0 0, .slice none 0 0] 30)
      refine ⟨⟨ha.cell HHe.out.1, ha.cell HHe.out.2.1, ha.cell HHe.out.2.2⟩, ?_⟩
      repeat (first | (refine wpWay_take rfl (by rfl) (by intro w hSw; (try dsimp only at hSw); first | (go_simp; done) | (go_simp; with_reducible rfl)) ?_; try simp only [Act.put, List.setIfInBounds_toArray, List.set_cons_zero, List.set_cons_succ]) | (refine wpWay_skip rfl (by rfl) ?_; try simp only [Act.put, List.setIfInBounds_toArray, List.set_cons_zero, List.set_cons_succ]))
      clear ha
      refine wpWay_ev rfl (fun K hK => ?_) wpWay_stop
      go_wp2_with fail
      have ha := (Bl.refl wy).alloc (.cells #[.slice D1 k1 s1, .slice D2 k2 s2, .slice D3 k3 s3] 30)
      refine ⟨⟨ha.cell HHe.out.1, ha.cell HHe.out.2.1, ha.cell HHe.out.2.2⟩, ?_⟩
      repeat (first | (refine wpWay_take rfl (by rfl) (by intro w hSw; (try dsimp only at hSw); first | (go_simp; done) | (go_simp; with_reducible rfl)) ?_; try simp only [Act.put, List.setIfInBounds_toArray, List.set_cons_zero, List.set_cons_succ]) | (refine wpWay_skip rfl (by rfl) ?_; try simp only [Act.put, List.setIfInBounds_toArray, List.set_cons_zero, List.set_cons_succ]))
      refine wpWay_done ?_
      have HA := Lib.hid ha
      clear ha
      clear HHe
      obtain ⟨wz, hwz⟩ : ∃ wz, wz = (wy.alloc (.cells #[.slice D1 k1 s1, .slice D2 k2 s2, .slice D3 k3 s3] 30)) := ⟨_, rfl⟩
      rw [← hwz]
      have HF2 := Lib.hid (show Bl w2 wz from by rw [hwz]; exact (HXY.out.bl HA.out))
      have HFK := Lib.hid (show Blk wz w2.heap.size #[.slice A1 n1 t1, .slice A2 n2 t2, .slice A3 n3 t3] 30 from by rw [hwz]; exact (HKB.out.bl HA.out))
      have HFQ := Lib.hid (show Blk wz (wy.heap.size) #[.slice D1 k1 s1, .slice D2 k2 s2, .slice D3 k3 s3] 30 from by rw [hwz]; exact (Blk.new _ _ _))
      have HFG := Lib.hid (show HistIs 59 wz B2 m' from by rw [hwz]; exact (HGy.out.is.bl HA.out))
      have HFR := Lib.hid (show RHIs wz (.agg #[.slice D1 k1 s1, .slice D2 k2 s2, .slice D3 k3 s3]) m' from by rw [hwz]; exact ((RHIs.sub (Sub.un _ _) HQy.out).bl HA.out))
      clear hwz
      have q0 := HFK.out.cell 0
      have q1 := HFK.out.cell 1
      have q2 := HFK.out.cell 2
      have d0 := HFQ.out.cell 0
      have d1 := HFQ.out.cell 1
      have d2 := HFQ.out.cell 2
      simp at q0 q1 q2 d0 d1 d2
      go_wp2_with fail
      refine wp_region_ways (S := (fun w' => w'.cell? ⟨w2.heap.size, 0, none⟩ = some (.slice A1 n1 t1) ∧ w'.cell? ⟨w2.heap.size, 1, none⟩ = some (.slice A2 n2 t2) ∧ w'.cell? ⟨w2.heap.size, 2, none⟩ = some (.slice A3 n3 t3) ∧ w'.cell? ⟨wy.heap.size, 0, none⟩ = some (.slice D1 k1 s1) ∧ w'.cell? ⟨wy.heap.size, 1, none⟩ = some (.slice D2 k2 s2) ∧ w'.cell? ⟨wy.heap.size, 2, none⟩ = some (.slice D3 k3 s3))) [0, 1, 2, 3, 5, 6, 7, 8, 10, 11, 13, 14, 15, 17, 18] (y := .take 0 (.take 1 (.take 2 (.take 3 (.ev 4 (.take 5 (.take 6 (.take 7 (.take 8 (.take 10 (.take 11 (.ev 9 (.ev 12 (.take 13 (.take 14 (.take 15 (.ev 16 (.take 17 (.take 18 (.done))) (.stop))))) (.stop)) (.stop)))))))) (.stop)))))) (by kernel_rfl) (by kernel_rfl) (by kernel_rfl) ?_ (fun hHeld => ?_)
      · exact ⟨(Bl.refl _).drew.cell q0, (Bl.refl _).drew.cell q1, (Bl.refl _).drew.cell q2, (Bl.refl _).drew.cell d0, (Bl.refl _).drew.cell d1, (Bl.refl _).drew.cell d2⟩
      have HHe := Lib.hid hHeld
      have HZ := Lib.hid ((Bl.refl wz).drew)
      have HF3 := Lib.hid HF2.out.drew
      clear hHeld q0 q1 q2 d0 d1 d2
      repeat (first | (refine wpWay_take rfl (by rfl) (by intro w hSw; (try dsimp only at hSw); first | (go_simp; done) | (go_simp; with_reducible rfl)) ?_; try simp only [Act.put, List.setIfInBounds_toArray, List.set_cons_zero, List.set_cons_succ]) | (refine wpWay_skip rfl (by rfl) ?_; try simp only [Act.put, List.setIfInBounds_toArray, List.set_cons_zero, List.set_cons_succ]))
      refine wpWay_ev rfl (fun K hK => ?_) wpWay_stop
      go_wp2_with fail
      refine (same22_any B _ m _ (HH2.out.bl HF3.out) (HR2.out.bl HF3.out) HM.out).mono ?_
      rintro e w31 ⟨rfl, hb⟩
      have HF4 := Lib.hid (HF3.out.bl hb)
      replace HZ := Lib.hid (HZ.out.bl hb)
      replace HHe := Lib.hid (And.intro (hb.cell HHe.out.1) (And.intro (hb.cell HHe.out.2.1) (And.intro (hb.cell HHe.out.2.2.1) (And.intro (hb.cell HHe.out.2.2.2.1) (And.intro (hb.cell HHe.out.2.2.2.2.1) (hb.cell HHe.out.2.2.2.2.2))))))
      clear hb
      go_wp2_with fail
      refine ⟨HHe.out, ?_⟩
      repeat (first | (refine wpWay_take rfl (by rfl) (by intro w hSw; (try dsimp only at hSw); first | (go_simp; done) | (go_simp; with_reducible rfl)) ?_; try simp only [Act.put, List.setIfInBounds_toArray, List.set_cons_zero, List.set_cons_succ]) | (refine wpWay_skip rfl (by rfl) ?_; try simp only [Act.put, List.setIfInBounds_toArray, List.set_cons_zero, List.set_cons_succ]))
      refine wpWay_ev rfl (fun K hK => ?_) wpWay_stop
      go_wp2_with fail
      refine (hsame_any B B2 m m' _ (HH2.out.bl HF4.out) (HFG.out.bl HZ.out) (HOK.all HM.out) (HOK.all HMq.out)).mono ?_
      rintro e w32 ⟨rfl, hb⟩
      have HF5 := Lib.hid (HF4.out.bl hb)
      replace HZ := Lib.hid (HZ.out.bl hb)
      replace HHe := Lib.hid (And.intro (hb.cell HHe.out.1) (And.intro (hb.cell HHe.out.2.1) (And.intro (hb.cell HHe.out.2.2.1) (And.intro (hb.cell HHe.out.2.2.2.1) (And.intro (hb.cell HHe.out.2.2.2.2.1) (hb.cell HHe.out.2.2.2.2.2))))))
      clear hb
      go_wp2_with fail
      refine ⟨HHe.out, ?_⟩
      repeat (first | (refine wpWay_take rfl (by rfl) (by intro w hSw; (try dsimp only at hSw); first | (go_simp; done) | (go_simp; with_reducible rfl)) ?_; try simp only [Act.put, List.setIfInBounds_toArray, List.set_cons_zero, List.set_cons_succ]) | (refine wpWay_skip rfl (by rfl) ?_; try simp only [Act.put, List.setIfInBounds_toArray, List.set_cons_zero, List.set_cons_succ]))
      refine wpWay_ev rfl (fun K hK => ?_) wpWay_stop
      go_wp2_with fail
      refine (samehist20_any _ _ m m' _ (HR2.out.bl HF5.out) (HFR.out.bl HZ.out) HM.out HMq.out).mono ?_
      rintro e w33 ⟨rfl, hb⟩
      have HF6 := Lib.hid (HF5.out.bl hb)
      replace HZ := Lib.hid (HZ.out.bl hb)
      replace HHe := Lib.hid (And.intro (hb.cell HHe.out.1) (And.intro (hb.cell HHe.out.2.1) (And.intro (hb.cell HHe.out.2.2.1) (And.intro (hb.cell HHe.out.2.2.2.1) (And.intro (hb.cell HHe.out.2.2.2.2.1) (hb.cell HHe.out.2.2.2.2.2))))))
      clear hb
      generalize sameH m m' = bq at *
      go_wp2_with fail
      refine ⟨HHe.out, ?_⟩
      repeat (first | (refine wpWay_take rfl (by rfl) (by intro w hSw; (try dsimp only at hSw); first | (go_simp; done) | (go_simp; with_reducible rfl)) ?_; try simp only [Act.put, List.setIfInBounds_toArray, List.set_cons_zero, List.set_cons_succ]) | (refine wpWay_skip rfl (by rfl) ?_; try simp only [Act.put, List.setIfInBounds_toArray, List.set_cons_zero, List.set_cons_succ]))
      refine wpWay_ev rfl (fun K hK => ?_) wpWay_stop
      go_wp2_with fail
      refine (wakes22_any _).mono ?_
      rintro e w34 ⟨rfl, hb⟩
      have HF7 := Lib.hid (HF6.out.bl hb)
      replace HZ := Lib.hid (HZ.out.bl hb)
      replace HHe := Lib.hid (And.intro (hb.cell HHe.out.1) (And.intro (hb.cell HHe.out.2.1) (And.intro (hb.cell HHe.out.2.2.1) (And.intro (hb.cell HHe.out.2.2.2.1) (And.intro (hb.cell HHe.out.2.2.2.2.1) (hb.cell HHe.out.2.2.2.2.2))))))
      clear hb
      go_wp2_with fail
      refine ⟨HHe.out, ?_⟩
      repeat (first | (refine wpWay_take rfl (by rfl) (by intro w hSw; (try dsimp only at hSw); first | (go_simp; done) | (go_simp; with_reducible rfl)) ?_; try simp only [Act.put, List.setIfInBounds_toArray, List.set_cons_zero, List.set_cons_succ]) | (refine wpWay_skip rfl (by rfl) ?_; try simp only [Act.put, List.setIfInBounds_toArray, List.set_cons_zero, List.set_cons_succ]))
      refine wpWay_done ?_
      go_wp2_with fail
      go_ret
      exact ⟨rfl, HB2.out.bl HF7.out⟩
    · refine wpWay_ev rfl (fun K hK => ?_) wpWay_stop
      go_wp2_with fail
      have ha := (Bl.refl w5.drew).alloc (.cells #[.slice none 0 0, .slice none 0 0, .slice none 0 0] 30)
      refine ⟨⟨ha.cell HHe.out.1, ha.cell HHe.out.2.1, ha.cell HHe.out.2.2⟩, ?_⟩
      have HXX := Lib.hid (H25.out.bl ha)
      have HBx := Lib.hid (HBd.out.bl ha)
      replace HG5 := Lib.hid (HG5.out.bl ha)
      replace HKB := Lib.hid (HKB.out.bl ha)
      replace HHe := Lib.hid (And.intro (ha.cell HHe.out.1) (And.intro (ha.cell HHe.out.2.1) (ha.cell HHe.out.2.2)))
      have HZB := Lib.hid (show Blk _ w5.heap.size _ _ from Blk.new w5.drew #[.slice none 0 0, .slice none 0 0, .slice none 0 0] 30)
      clear ha
      repeat (first | (refine wpWay_take rfl (by rfl) (by intro w hSw; (try dsimp only at hSw); first | (go_simp; done) | (go_simp; with_reducible rfl)) ?_; try simp only [Act.put, List.setIfInBounds_toArray, List.set_cons_zero, List.set_cons_succ]) | (refine wpWay_skip rfl (by rfl) ?_; try simp only [Act.put, List.setIfInBounds_toArray, List.set_cons_zero, List.set_cons_succ]))
      replace HCR := Lib.hid (ArgRecs.bl HCR.out ((Bl.refl w5.drew).alloc (.cells #[.slice none 0 0, .slice none 0 0, .slice none 0 0] 30)))
      refine wpWay_ev rfl (fun K hK => ?_) wpWay_stop
      go_wp2_with fail
      refine (play22_G _ (fun k => decide (k < w2.heap.size)) B2 _ _ _ m L ns _ HG5.out (RHIs.sub (Sub.bl (HXX.out.only _)) HR2L.out) (decide_eq_false (by have := HB2lt.out; omega)) HM.out HCR.out (ArgInts.bl HNS.out HBx.out)).mono ?_
      rintro e wy ⟨u, m', rfl, hh, hr, hm, hg⟩
      have HXY := Lib.hid (HXX.out.grown hg (fun k hk => by injection hk with hk; have := HB2lt.out; omega))
      have HY := Lib.hid hg
      have HGy := Lib.hid hh.cap
      have HQy := Lib.hid (RHIs.sub (Sub.cap _ _) hr)
      have HMq := Lib.hid hm
      obtain ⟨d1, d2, d3, rfl, g1, g2, g3⟩ := id hr
      obtain ⟨D1, k1, s1, rfl⟩ : ∃ A' n' c', d1 = .slice A' n' c' := by obtain ⟨A', c', e'⟩ := g1.slice; exact ⟨A', _, c', e'⟩
      obtain ⟨D2, k2, s2, rfl⟩ : ∃ A' n' c', d2 = .slice A' n' c' := by obtain ⟨A', c', e'⟩ := g2.slice; exact ⟨A', _, c', e'⟩
      obtain ⟨D3, k3, s3, rfl⟩ : ∃ A' n' c', d3 = .slice A' n' c' := by obtain ⟨A', c', e'⟩ := g3.slice; exact ⟨A', _, c', e'⟩
      replace HKB := Lib.hid (blk_grown HKB.out hg (by have := HB2lt.out; omega))
      have q0 := HKB.out.cell 0
      have q1 := HKB.out.cell 1
      have q2 := HKB.out.cell 2
      simp at q0 q1 q2
      replace HHe := Lib.hid (And.intro q0 (And.intro q1 q2))
      clear hh hr hm hg g1 g2 g3 q0 q1 q2
      go_wp2_with fail
      refine ⟨HHe.out, ?_⟩
      repeat (first | (refine wpWay_take rfl (by rfl) (by intro w hSw; (try dsimp only at hSw); first | (go_simp; done) | (go_simp; with_reducible rfl)) ?_; try simp only [Act.put, List.setIfInBounds_toArray, List.set_cons_zero, List.set_cons_succ]) | (refine wpWay_skip rfl (by rfl) ?_; try simp only [Act.put, List.setIfInBounds_toArray, List.set_cons_zero, List.set_cons_succ]))
      have HZy := Lib.hid (blk_grown HZB.out HY.out (by have := HC5.out; have := (HistIs.toG HC5.out).lt; omega))
      have hb5 : w2.heap.size < w5.heap.size := by have := (HistIs.toG HC5.out).lt; have := HB2lt.out; omega
      have f0 := HZy.out.frozen 0
      have f1 := HZy.out.frozen 1
      have f2 := HZy.out.frozen 2
      have z0 := HZy.out.cell 0
      have z1 := HZy.out.cell 1
      have z2 := HZy.out.cell 2
      simp at z0 z1 z2
      refine wpWay_ev rfl (fun K hK => ?_) wpWay_stop
      go_wp2_with fail
      clear f0 f1 f2 z0 z1 z2
      refine ⟨⟨cell_set3 _ _ _ HHe.out.1 (by dsimp only; omega), cell_set3 _ _ _ HHe.out.2.1 (by dsimp only; omega), cell_set3 _ _ _ HHe.out.2.2 (by dsimp only; omega)⟩, ?_⟩
      repeat (first | (refine wpWay_take rfl (by rfl) (by intro w hSw; (try dsimp only at hSw); first | (go_simp; done) | (go_simp; with_reducible rfl)) ?_; try simp only [Act.put, List.setIfInBounds_toArray, List.set_cons_zero, List.set_cons_succ]) | (refine wpWay_skip rfl (by rfl) ?_; try simp only [Act.put, List.setIfInBounds_toArray, List.set_cons_zero, List.set_cons_succ]))
      refine wpWay_done ?_
      have hsa : w5.heap.size < (w5.drew.alloc (.cells #[.slice none 0 0, .slice none 0 0, .slice none 0 0] 30)).heap.size := by rw [alloc_size]; show w5.heap.size < w5.heap.size + 1; omega
      have hm1 : cap (gor (cap (fun b => decide (b ≠ B2)) w5) (w5.drew.alloc (.cells #[.slice none 0 0, .slice none 0 0, .slice none 0 0] 30))) wy w5.heap.size = false := cap_no (.inl (gor_no (cap_no (.inr (Nat.le_refl _))) hsa))
      have hm2 : cap (gor (fun k => decide (k < w2.heap.size)) (w5.drew.alloc (.cells #[.slice none 0 0, .slice none 0 0, .slice none 0 0] 30))) wy w5.heap.size = false := cap_no (.inl (gor_no (decide_eq_false (by omega)) hsa))
      have HM1 := Lib.hid hm1
      have HM2 := Lib.hid hm2
      have hne : w5.heap.size ≠ B2 := by have := (HistIs.toG HC5.out).lt; omega
      have HNE := Lib.hid hne
      have HB25 := Lib.hid hb5
      clear hm1 hm2 hne hsa hb5
      clear HHe
      obtain ⟨wz, hwz⟩ : ∃ wz, wz = (((wy.setCell ⟨w5.heap.size, 0, none⟩ (.slice D1 k1 s1)).setCell ⟨w5.heap.size, 1, none⟩ (.slice D2 k2 s2)).setCell ⟨w5.heap.size, 2, none⟩ (.slice D3 k3 s3)) := ⟨_, rfl⟩
      rw [← hwz]
      have HF2 := Lib.hid (show Bl w2 wz from by rw [hwz]; exact (((HXY.out.set _ _ _ (by have := HB25.out; omega)).set _ _ _ (by have := HB25.out; omega)).set _ _ _ (by have := HB25.out; omega)))
      have HFK := Lib.hid (show Blk wz w2.heap.size #[.slice A1 n1 t1, .slice A2 n2 t2, .slice A3 n3 t3] 30 from by rw [hwz]; exact (((HKB.out.set_else _ _ _ (by have := HB25.out; omega)).set_else _ _ _ (by have := HB25.out; omega)).set_else _ _ _ (by have := HB25.out; omega)))
      have HFQ := Lib.hid (show Blk wz (w5.heap.size) #[.slice D1 k1 s1, .slice D2 k2 s2, .slice D3 k3 s3] 30 from by rw [hwz]; exact (by simpa using ((HZy.out.set 0 (.slice D1 k1 s1)).set 1 (.slice D2 k2 s2)).set 2 (.slice D3 k3 s3)))
      have HFG := Lib.hid (show HistIs 59 wz B2 m' from by rw [hwz]; exact ((HGy.out.sub (sub_set3 _ _ _ HM1.out) HGy.out.1 (fun cs hc => ((hc.set_else _ _ _ HNE.out).set_else _ _ _ HNE.out).set_else _ _ _ HNE.out)).is))
      have HFR := Lib.hid (show RHIs wz (.agg #[.slice D1 k1 s1, .slice D2 k2 s2, .slice D3 k3 s3]) m' from by rw [hwz]; exact (RHIs.sub ((sub_set3 _ _ _ HM2.out).trans (Sub.un _ _)) HQy.out))
      clear hwz
      have q0 := HFK.out.cell 0
      have q1 := HFK.out.cell 1
      have q2 := HFK.out.cell 2
      have d0 := HFQ.out.cell 0
      have d1 := HFQ.out.cell 1
      have d2 := HFQ.out.cell 2
      simp at q0 q1 q2 d0 d1 d2
      go_wp2_with fail
      refine wp_region_ways (S := (fun w' => w'.cell? ⟨w2.heap.size, 0, none⟩ = some (.slice A1 n1 t1) ∧ w'.cell? ⟨w2.heap.size, 1, none⟩ = some (.slice A2 n2 t2) ∧ w'.cell? ⟨w2.heap.size, 2, none⟩ = some (.slice A3 n3 t3) ∧ w'.cell? ⟨w5.heap.size, 0, none⟩ = some (.slice D1 k1 s1) ∧ w'.cell? ⟨w5.heap.size, 1, none⟩ = some (.slice D2 k2 s2) ∧ w'.cell? ⟨w5.heap.size, 2, none⟩ = some (.slice D3 k3 s3))) [0, 1, 2, 3, 5, 6, 7, 8, 10, 11, 13, 14, 15, 17, 18] (y := .take 0 (.take 1 (.take 2 (.take 3 (.ev 4 (.take 5 (.take 6 (.take 7 (.take 8 (.take 10 (.take 11 (.ev 9 (.ev 12 (.take 13 (.take 14 (.take 15 (.ev 16 (.take 17 (.take 18 (.done))) (.stop))))) (.stop)) (.stop)))))))) (.stop)))))) (by kernel_rfl) (by kernel_rfl) (by kernel_rfl) ?_ (fun hHeld => ?_)
      · exact ⟨(Bl.refl _).drew.cell q0, (Bl.refl _).drew.cell q1, (Bl.refl _).drew.cell q2, (Bl.refl _).drew.cell d0, (Bl.refl _).drew.cell d1, (Bl.refl _).drew.cell d2⟩
      have HHe := Lib.hid hHeld
      have HZ := Lib.hid ((Bl.refl wz).drew)
      have HF3 := Lib.hid HF2.out.drew
      clear hHeld q0 q1 q2 d0 d1 d2
      repeat (first | (refine wpWay_take rfl (by rfl) (by intro w hSw; (try dsimp only at hSw); first | (go_simp; done) | (go_simp; with_reducible rfl)) ?_; try simp only [Act.put, List.setIfInBounds_toArray, List.set_cons_zero, List.set_cons_succ]) | (refine wpWay_skip rfl (by rfl) ?_; try simp only [Act.put, List.setIfInBounds_toArray, List.set_cons_zero, List.set_cons_succ]))
      refine wpWay_ev rfl (fun K hK => ?_) wpWay_stop
      go_wp2_with fail
      refine (same22_any B _ m _ (HH2.out.bl HF3.out) (HR2.out.bl HF3.out) HM.out).mono ?_
      rintro e w31 ⟨rfl, hb⟩
      have HF4 := Lib.hid (HF3.out.bl hb)
      replace HZ := Lib.hid (HZ.out.bl hb)
      replace HHe := Lib.hid (And.intro (hb.cell HHe.out.1) (And.intro (hb.cell HHe.out.2.1) (And.intro (hb.cell HHe.out.2.2.1) (And.intro (hb.cell HHe.out.2.2.2.1) (And.intro (hb.cell HHe.out.2.2.2.2.1) (hb.cell HHe.out.2.2.2.2.2))))))
      clear hb
      go_wp2_with fail
      refine ⟨HHe.out, ?_⟩
      repeat (first | (refine wpWay_take rfl (by rfl) (by intro w hSw; (try dsimp only at hSw); first | (go_simp; done) | (go_simp; with_reducible rfl)) ?_; try simp only [Act.put, List.setIfInBounds_toArray, List.set_cons_zero, List.set_cons_succ]) | (refine wpWay_skip rfl (by rfl) ?_; try simp only [Act.put, List.setIfInBounds_toArray, List.set_cons_zero, List.set_cons_succ]))
      refine wpWay_ev rfl (fun K hK => ?_) wpWay_stop
      go_wp2_with fail
      refine (hsame_any B B2 m m' _ (HH2.out.bl HF4.out) (HFG.out.bl HZ.out) (HOK.all HM.out) (HOK.all HMq.out)).mono ?_
      rintro e w32 ⟨rfl, hb⟩
      have HF5 := Lib.hid (HF4.out.bl hb)
      replace HZ := Lib.hid (HZ.out.bl hb)
      replace HHe := Lib.hid (And.intro (hb.cell HHe.out.1) (And.intro (hb.cell HHe.out.2.1) (And.intro (hb.cell HHe.out.2.2.1) (And.intro (hb.cell HHe.out.2.2.2.1) (And.intro (hb.cell HHe.out.2.2.2.2.1) (hb.cell HHe.out.2.2.2.2.2))))))
      clear hb
      go_wp2_with fail
      refine ⟨HHe.out, ?_⟩
      repeat (first | (refine wpWay_take rfl (by rfl) (by intro w hSw; (try dsimp only at hSw); first | (go_simp; done) | (go_simp; with_reducible rfl)) ?_; try simp only [Act.put, List.setIfInBounds_toArray, List.set_cons_zero, List.set_cons_succ]) | (refine wpWay_skip rfl (by rfl) ?_; try simp only [Act.put, List.setIfInBounds_toArray, List.set_cons_zero, List.set_cons_succ]))
      refine wpWay_ev rfl (fun K hK => ?_) wpWay_stop
      go_wp2_with fail
      refine (samehist20_any _ _ m m' _ (HR2.out.bl HF5.out) (HFR.out.bl HZ.out) HM.out HMq.out).mono ?_
      rintro e w33 ⟨rfl, hb⟩
      have HF6 := Lib.hid (HF5.out.bl hb)
      replace HZ := Lib.hid (HZ.out.bl hb)
      replace HHe := Lib.hid (And.intro (hb.cell HHe.out.1) (And.intro (hb.cell HHe.out.2.1) (And.intro (hb.cell HHe.out.2.2.1) (And.intro (hb.cell HHe.out.2.2.2.1) (And.intro (hb.cell HHe.out.2.2.2.2.1) (hb.cell HHe.out.2.2.2.2.2))))))
      clear hb
      generalize sameH m m' = bq at *
      go_wp2_with fail
      refine ⟨HHe.out, ?_⟩
      repeat (first | (refine wpWay_take rfl (by rfl) (by intro w hSw; (try dsimp only at hSw); first | (go_simp; done) | (go_simp; with_reducible rfl)) ?_; try simp only [Act.put, List.setIfInBounds_toArray, List.set_cons_zero, List.set_cons_succ]) | (refine wpWay_skip rfl (by rfl) ?_; try simp only [Act.put, List.setIfInBounds_toArray, List.set_cons_zero, List.set_cons_succ]))
      refine wpWay_ev rfl (fun K hK => ?_) wpWay_stop
      go_wp2_with fail
      refine (wakes22_any _).mono ?_
      rintro e w34 ⟨rfl, hb⟩
      have HF7 := Lib.hid (HF6.out.bl hb)
      replace HZ := Lib.hid (HZ.out.bl hb)
      replace HHe := Lib.hid (And.intro (hb.cell HHe.out.1) (And.intro (hb.cell HHe.out.2.1) (And.intro (hb.cell HHe.out.2.2.1) (And.intro (hb.cell HHe.out.2.2.2.1) (And.intro (hb.cell HHe.out.2.2.2.2.1) (hb.cell HHe.out.2.2.2.2.2))))))
      clear hb
      go_wp2_with fail
      refine ⟨HHe.out, ?_⟩
      repeat (first | (refine wpWay_take rfl (by rfl) (by intro w hSw; (try dsimp only at hSw); first | (go_simp; done) | (go_simp; with_reducible rfl)) ?_; try simp only [Act.put, List.setIfInBounds_toArray, List.set_cons_zero, List.set_cons_succ]) | (refine wpWay_skip rfl (by rfl) ?_; try simp only [Act.put, List.setIfInBounds_toArray, List.set_cons_zero, List.set_cons_succ]))
      refine wpWay_done ?_
      go_wp2_with fail
      go_ret
      exact ⟨rfl, HB2.out.bl HF7.out⟩
  · refine wpWay_ev rfl (fun K hK => ?_) wpWay_stop
    go_wp2_with fail
    have ha := (Bl.refl w5.drew).alloc (.cells #[.slice none 0 0, .slice none 0 0, .slice none 0 0] 30)
    refine ⟨⟨ha.cell HHe.out.1, ha.cell HHe.out.2.1, ha.cell HHe.out.2.2⟩, ?_⟩
    have HXX := Lib.hid (H25.out.bl ha)
    have HBx := Lib.hid (HBd.out.bl ha)
    replace HG5 := Lib.hid (HG5.out.bl ha)
    replace HKB := Lib.hid (HKB.out.bl ha)
    replace HHe := Lib.hid (And.intro (ha.cell HHe.out.1) (And.intro (ha.cell HHe.out.2.1) (ha.cell HHe.out.2.2)))
    have HZB := Lib.hid (show Blk _ w5.heap.size _ _ from Blk.new w5.drew #[.slice none 0 0, .slice none 0 0, .slice none 0 0] 30)
    clear ha
    repeat (first | (refine wpWay_take rfl (by rfl) (by intro w hSw; (try dsimp only at hSw); first | (go_simp; done) | (go_simp; with_reducible rfl)) ?_; try simp only [Act.put, List.setIfInBounds_toArray, List.set_cons_zero, List.set_cons_succ]) | (refine wpWay_skip rfl (by rfl) ?_; try simp only [Act.put, List.setIfInBounds_toArray, List.set_cons_zero, List.set_cons_succ]))
    refine wpWay_ev rfl (fun K hK => ?_) wpWay_stop
    go_wp2_with fail
    refine (kcutRec_any _ lm 8 _ (ArgRecs.bl HLM.out HBx.out) (by decide) (by decide)).mono ?_
    rintro e wc' ⟨uc, rfl, hcr, rfl⟩
    obtain ⟨L, hL⟩ : ∃ L, L = lm.take (8 : Int).toNat := ⟨_, rfl⟩
    rw [← hL] at hcr
    clear hL
    have HCR := Lib.hid hcr
    obtain ⟨Ac, cc, rfl, _⟩ := id hcr
    clear hcr
    go_wp2_with fail
    refine ⟨HHe.out, ?_⟩
    repeat (first | (refine wpWay_take rfl (by rfl) (by intro w hSw; (try dsimp only at hSw); first | (go_simp; done) | (go_simp; with_reducible rfl)) ?_; try simp only [Act.put, List.setIfInBounds_toArray, List.set_cons_zero, List.set_cons_succ]) | (refine wpWay_skip rfl (by rfl) ?_; try simp only [Act.put, List.setIfInBounds_toArray, List.set_cons_zero, List.set_cons_succ]))
    refine wpWay_ev rfl (fun K hK => ?_) wpWay_stop
    go_wp2_with fail
    refine (play22_G _ (fun k => decide (k < w2.heap.size)) B2 _ _ _ m L ns _ HG5.out (RHIs.sub (Sub.bl (HXX.out.only _)) HR2L.out) (decide_eq_false (by have := HB2lt.out; omega)) HM.out HCR.out (ArgInts.bl HNS.out HBx.out)).mono ?_
    rintro e wy ⟨u, m', rfl, hh, hr, hm, hg⟩
    have HXY := Lib.hid (HXX.out.grown hg (fun k hk => by injection hk with hk; have := HB2lt.out; omega))
    have HY := Lib.hid hg
    have HGy := Lib.hid hh.cap
    have HQy := Lib.hid (RHIs.sub (Sub.cap _ _) hr)
    have HMq := Lib.hid hm
    obtain ⟨d1, d2, d3, rfl, g1, g2, g3⟩ := id hr
    obtain ⟨D1, k1, s1, rfl⟩ : ∃ A' n' c', d1 = .slice A' n' c' := by obtain ⟨A', c', e'⟩ := g1.slice; exact ⟨A', _, c', e'⟩
    obtain ⟨D2, k2, s2, rfl⟩ : ∃ A' n' c', d2 = .slice A' n' c' := by obtain ⟨A', c', e'⟩ := g2.slice; exact ⟨A', _, c', e'⟩
    obtain ⟨D3, k3, s3, rfl⟩ : ∃ A' n' c', d3 = .slice A' n' c' := by obtain ⟨A', c', e'⟩ := g3.slice; exact ⟨A', _, c', e'⟩
    replace HKB := Lib.hid (blk_grown HKB.out hg (by have := HB2lt.out; omega))
    have q0 := HKB.out.cell 0
    have q1 := HKB.out.cell 1
    have q2 := HKB.out.cell 2
    simp at q0 q1 q2
    replace HHe := Lib.hid (And.intro q0 (And.intro q1 q2))
    clear hh hr hm hg g1 g2 g3 q0 q1 q2
    go_wp2_with fail
    refine ⟨HHe.out, ?_⟩
    repeat (first | (refine wpWay_take rfl (by rfl) (by intro w hSw; (try dsimp only at hSw); first | (go_simp; done) | (go_simp; with_reducible rfl)) ?_; try simp only [Act.put, List.setIfInBounds_toArray, List.set_cons_zero, List.set_cons_succ]) | (refine wpWay_skip rfl (by rfl) ?_; try simp only [Act.put, List.setIfInBounds_toArray, List.set_cons_zero, List.set_cons_succ]))
    have HZy := Lib.hid (blk_grown HZB.out HY.out (by have := HC5.out; have := (HistIs.toG HC5.out).lt; omega))
    have hb5 : w2.heap.size < w5.heap.size := by have := (HistIs.toG HC5.out).lt; have := HB2lt.out; omega
    have f0 := HZy.out.frozen 0
    have f1 := HZy.out.frozen 1
    have f2 := HZy.out.frozen 2
    have z0 := HZy.out.cell 0
    have z1 := HZy.out.cell 1
    have z2 := HZy.out.cell 2
    simp at z0 z1 z2
    refine wpWay_ev rfl (fun K hK => ?_) wpWay_stop
    go_wp2_with fail
    clear f0 f1 f2 z0 z1 z2
    refine ⟨⟨cell_set3 _ _ _ HHe.out.1 (by dsimp only; omega), cell_set3 _ _ _ HHe.out.2.1 (by dsimp only; omega), cell_set3 _ _ _ HHe.out.2.2 (by dsimp only; omega)⟩, ?_⟩
    repeat (first | (refine wpWay_take rfl (by rfl) (by intro w hSw; (try dsimp only at hSw); first | (go_simp; done) | (go_simp; with_reducible rfl)) ?_; try simp only [Act.put, List.setIfInBounds_toArray, List.set_cons_zero, List.set_cons_succ]) | (refine wpWay_skip rfl (by rfl) ?_; try simp only [Act.put, List.setIfInBounds_toArray, List.set_cons_zero, List.set_cons_succ]))
    refine wpWay_done ?_
    have hsa : w5.heap.size < (w5.drew.alloc (.cells #[.slice none 0 0, .slice none 0 0, .slice none 0 0] 30)).heap.size := by rw [alloc_size]; show w5.heap.size < w5.heap.size + 1; omega
    have hm1 : cap (gor (cap (fun b => decide (b ≠ B2)) w5) (w5.drew.alloc (.cells #[.slice none 0 0, .slice none 0 0, .slice none 0 0] 30))) wy w5.heap.size = false := cap_no (.inl (gor_no (cap_no (.inr (Nat.le_refl _))) hsa))
    have hm2 : cap (gor (fun k => decide (k < w2.heap.size)) (w5.drew.alloc (.cells #[.slice none 0 0, .slice none 0 0, .slice none 0 0] 30))) wy w5.heap.size = false := cap_no (.inl (gor_no (decide_eq_false (by omega)) hsa))
    have HM1 := Lib.hid hm1
    have HM2 := Lib.hid hm2
    have hne : w5.heap.size ≠ B2 := by have := (HistIs.toG HC5.out).lt; omega
    have HNE := Lib.hid hne
    have HB25 := Lib.hid hb5
    clear hm1 hm2 hne hsa hb5
    clear HHe
    obtain ⟨wz, hwz⟩ : ∃ wz, wz = (((wy.setCell ⟨w5.heap.size, 0, none⟩ (.slice D1 k1 s1)).setCell ⟨w5.heap.size, 1, none⟩ (.slice D2 k2 s2)).setCell ⟨w5.heap.size, 2, none⟩ (.slice D3 k3 s3)) := ⟨_, rfl⟩
    rw [← hwz]
    have HF2 := Lib.hid (show Bl w2 wz from by rw [hwz]; exact (((HXY.out.set _ _ _ (by have := HB25.out; omega)).set _ _ _ (by have := HB25.out; omega)).set _ _ _ (by have := HB25.out; omega)))
    have HFK := Lib.hid (show Blk wz w2.heap.size #[.slice A1 n1 t1, .slice A2 n2 t2, .slice A3 n3 t3] 30 from by rw [hwz]; exact (((HKB.out.set_else _ _ _ (by have := HB25.out; omega)).set_else _ _ _ (by have := HB25.out; omega)).set_else _ _ _ (by have := HB25.out; omega)))
    have HFQ := Lib.hid (show Blk wz (w5.heap.size) #[.slice D1 k1 s1, .slice D2 k2 s2, .slice D3 k3 s3] 30 from by rw [hwz]; exact (by simpa using ((HZy.out.set 0 (.slice D1 k1 s1)).set 1 (.slice D2 k2 s2)).set 2 (.slice D3 k3 s3)))
    have HFG := Lib.hid (show HistIs 59 wz B2 m' from by rw [hwz]; exact ((HGy.out.sub (sub_set3 _ _ _ HM1.out) HGy.out.1 (fun cs hc => ((hc.set_else _ _ _ HNE.out).set_else _ _ _ HNE.out).set_else _ _ _ HNE.out)).is))
    have HFR := Lib.hid (show RHIs wz (.agg #[.slice D1 k1 s1, .slice D2 k2 s2, .slice D3 k3 s3]) m' from by rw [hwz]; exact (RHIs.sub ((sub_set3 _ _ _ HM2.out).trans (Sub.un _ _)) HQy.out))
    clear hwz
    have q0 := HFK.out.cell 0
    have q1 := HFK.out.cell 1
    have q2 := HFK.out.cell 2
    have d0 := HFQ.out.cell 0
    have d1 := HFQ.out.cell 1
    have d2 := HFQ.out.cell 2
    simp at q0 q1 q2 d0 d1 d2
    go_wp2_with fail
    refine wp_region_ways (S := (fun w' => w'.cell? ⟨w2.heap.size, 0, none⟩ = some (.slice A1 n1 t1) ∧ w'.cell? ⟨w2.heap.size, 1, none⟩ = some (.slice A2 n2 t2) ∧ w'.cell? ⟨w2.heap.size, 2, none⟩ = some (.slice A3 n3 t3) ∧ w'.cell? ⟨w5.heap.size, 0, none⟩ = some (.slice D1 k1 s1) ∧ w'.cell? ⟨w5.heap.size, 1, none⟩ = some (.slice D2 k2 s2) ∧ w'.cell? ⟨w5.heap.size, 2, none⟩ = some (.slice D3 k3 s3))) [0, 1, 2, 3, 5, 6, 7, 8, 10, 11, 13, 14, 15, 17, 18] (y := .take 0 (.take 1 (.take 2 (.take 3 (.ev 4 (.take 5 (.take 6 (.take 7 (.take 8 (.take 10 (.take 11 (.ev 9 (.ev 12 (.take 13 (.take 14 (.take 15 (.ev 16 (.take 17 (.take 18 (.done))) (.stop))))) (.stop)) (.stop)))))))) (.stop)))))) (by kernel_rfl) (by kernel_rfl) (by kernel_rfl) ?_ (fun hHeld => ?_)
    · exact ⟨(Bl.refl _).drew.cell q0, (Bl.refl _).drew.cell q1, (Bl.refl _).drew.cell q2, (Bl.refl _).drew.cell d0, (Bl.refl _).drew.cell d1, (Bl.refl _).drew.cell d2⟩
    have HHe := Lib.hid hHeld
    have HZ := Lib.hid ((Bl.refl wz).drew)
    have HF3 := Lib.hid HF2.out.drew
    clear hHeld q0 q1 q2 d0 d1 d2
    repeat (first | (refine wpWay_take rfl (by rfl) (by intro w hSw; (try dsimp only at hSw); first | (go_simp; done) | (go_simp; with_reducible rfl)) ?_; try simp only [Act.put, List.setIfInBounds_toArray, List.set_cons_zero, List.set_cons_succ]) | (refine wpWay_skip rfl (by rfl) ?_; try simp only [Act.put, List.setIfInBounds_toArray, List.set_cons_zero, List.set_cons_succ]))
    refine wpWay_ev rfl (fun K hK => ?_) wpWay_stop
    go_wp2_with fail
    refine (same22_any B _ m _ (HH2.out.bl HF3.out) (HR2.out.bl HF3.out) HM.out).mono ?_
    rintro e w31 ⟨rfl, hb⟩
    have HF4 := Lib.hid (HF3.out.bl hb)
    replace HZ := Lib.hid (HZ.out.bl hb)
    replace HHe := Lib.hid (And.intro (hb.cell HHe.out.1) (And.intro (hb.cell HHe.out.2.1) (And.intro (hb.cell HHe.out.2.2.1) (And.intro (hb.cell HHe.out.2.2.2.1) (And.intro (hb.cell HHe.out.2.2.2.2.1) (hb.cell HHe.out.2.2.2.2.2))))))
    clear hb
    go_wp2_with fail
    refine ⟨HHe.out, ?_⟩
    repeat (first | (refine wpWay_take rfl (by rfl) (by intro w hSw; (try dsimp only at hSw); first | (go_simp; done) | (go_simp; with_reducible rfl)) ?_; try simp only [Act.put, List.setIfInBounds_toArray, List.set_cons_zero, List.set_cons_succ]) | (refine wpWay_skip rfl (by rfl) ?_; try simp only [Act.put, List.setIfInBounds_toArray, List.set_cons_zero, List.set_cons_succ]))
    refine wpWay_ev rfl (fun K hK => ?_) wpWay_stop
    go_wp2_with fail
    refine (hsame_any B B2 m m' _ (HH2.out.bl HF4.out) (HFG.out.bl HZ.out) (HOK.all HM.out) (HOK.all HMq.out)).mono ?_
    rintro e w32 ⟨rfl, hb⟩
    have HF5 := Lib.hid (HF4.out.bl hb)
    replace HZ := Lib.hid (HZ.out.bl hb)
    replace HHe := Lib.hid (And.intro (hb.cell HHe.out.1) (And.intro (hb.cell HHe.out.2.1) (And.intro (hb.cell HHe.out.2.2.1) (And.intro (hb.cell HHe.out.2.2.2.1) (And.intro (hb.cell HHe.out.2.2.2.2.1) (hb.cell HHe.out.2.2.2.2.2))))))
    clear hb
    go_wp2_with fail
    refine ⟨HHe.out, ?_⟩
    repeat (first | (refine wpWay_take rfl (by rfl) (by intro w hSw; (try dsimp only at hSw); first | (go_simp; done) | (go_simp; with_reducible rfl)) ?_; try simp only [Act.put, List.setIfInBounds_toArray, List.set_cons_zero, List.set_cons_succ]) | (refine wpWay_skip rfl (by rfl) ?_; try simp only [Act.put, List.setIfInBounds_toArray, List.set_cons_zero, List.set_cons_succ]))
    refine wpWay_ev rfl (fun K hK => ?_) wpWay_stop
    go_wp2_with fail
    refine (samehist20_any _ _ m m' _ (HR2.out.bl HF5.out) (HFR.out.bl HZ.out) HM.out HMq.out).mono ?_
    rintro e w33 ⟨rfl, hb⟩
    have HF6 := Lib.hid (HF5.out.bl hb)
    replace HZ := Lib.hid (HZ.out.bl hb)
    replace HHe := Lib.hid (And.intro (hb.cell HHe.out.1) (And.intro (hb.cell HHe.out.2.1) (And.intro (hb.cell HHe.out.2.2.1) (And.intro (hb.cell HHe.out.2.2.2.1) (And.intro (hb.cell HHe.out.2.2.2.2.1) (hb.cell HHe.out.2.2.2.2.2))))))
    clear hb
    generalize sameH m m' = bq at *
    go_wp2_with fail
    refine ⟨HHe.out, ?_⟩
    repeat (first | (refine wpWay_take rfl (by rfl) (by intro w hSw; (try dsimp only at hSw); first | (go_simp; done) | (go_simp; with_reducible rfl)) ?_; try simp only [Act.put, List.setIfInBounds_toArray, List.set_cons_zero, List.set_cons_succ]) | (refine wpWay_skip rfl (by rfl) ?_; try simp only [Act.put, List.setIfInBounds_toArray, List.set_cons_zero, List.set_cons_succ]))
    refine wpWay_ev rfl (fun K hK => ?_) wpWay_stop
    go_wp2_with fail
    refine (wakes22_any _).mono ?_
    rintro e w34 ⟨rfl, hb⟩
    have HF7 := Lib.hid (HF6.out.bl hb)
    replace HZ := Lib.hid (HZ.out.bl hb)
    replace HHe := Lib.hid (And.intro (hb.cell HHe.out.1) (And.intro (hb.cell HHe.out.2.1) (And.intro (hb.cell HHe.out.2.2.1) (And.intro (hb.cell HHe.out.2.2.2.1) (And.intro (hb.cell HHe.out.2.2.2.2.1) (hb.cell HHe.out.2.2.2.2.2))))))
    clear hb
    go_wp2_with fail
    refine ⟨HHe.out, ?_⟩
    repeat (first | (refine wpWay_take rfl (by rfl) (by intro w hSw; (try dsimp only at hSw); first | (go_simp; done) | (go_simp; with_reducible rfl)) ?_; try simp only [Act.put, List.setIfInBounds_toArray, List.set_cons_zero, List.set_cons_succ]) | (refine wpWay_skip rfl (by rfl) ?_; try simp only [Act.put, List.setIfInBounds_toArray, List.set_cons_zero, List.set_cons_succ]))
    refine wpWay_done ?_
    go_wp2_with fail
    go_ret
    exact ⟨rfl, HB2.out.bl HF7.out⟩
end Go.Proofs.YtddcjekkimajpaaGreat.ExtW
