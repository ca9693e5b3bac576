/- Several texts joined (see each one's head). -/
import Derived.Test.YtddcjekkimajpaaGreatPkG
/- The walk of overdublaw22.HistoryErrors. -/
namespace Go.Proofs.YtddcjekkimajpaaGreat.ExtW
open Go.RowKit Go.Ov Go.Proofs.YtddcjekkimajpaaGreat.Need

theorem sameSs_refl (a : List StM) : sameSs a a = true := by unfold sameSs; exact decide_eq_true rfl
theorem sameH_refl (m : HistM) : sameH m m = true := by unfold sameH; rw [sameS_refl, sameSs_refl, sameSs_refl]; rfl
theorem HOK.all {m : HistM} (h : HOK m) : ∀ s ∈ allH m, SOK s := fun s hs => by
  simp only [allH, List.cons_append, List.mem_cons, List.mem_append] at hs
  rcases hs with rfl | hs | hs
  · exact h.1.1
  · exact (h.2.1 s hs).1
  · exact (h.2.2.1 s hs).1
theorem ArgInts.bl {w w' : World} {v : Value} {l : List Int} (h : ArgInts w v l) (hb : Bl w w') : ArgInts w' v l := ⟨h.1.bl hb, h.2⟩

set_option maxRecDepth 100000 in
set_option maxHeartbeats 1000000 in
theorem herrs_walk (v : Value) (l : List Rec) (v' : Value) (ns : List Int) (what : Int) (w : World) (h : ArgRecs w v l) (h' : ArgInts w v' ns) (_ : -9223372036854775808 ≤ what ∧ what ≤ 9223372036854775807) :
    Calls Tryz.prog 4 #[v, v', .int .i64 what] w fun e w' => e = .returned (.bool true) ∧ Bl w w' := by
  have HL := Lib.hid h
  have HNS := Lib.hid h'
  obtain ⟨A, c, rfl, _⟩ := h
  obtain ⟨⟨A', c', rfl, _⟩, _⟩ := h'
  have hur := Tryz.underlying46
  have huh := Tryz.underlying30
  go_enter Tryz.func4, Tryz.ntmps4
  go_wp2_with fail
  refine (hnew_any _).mono ?_
  rintro e w1 ⟨B, rfl, hBw, hh, hb⟩
  have HB1 := Lib.hid hb
  have HBw := Lib.hid hBw
  have HH1 := Lib.hid hh
  clear hb hh hBw
  (go_wp2_with fail; refine (kcutRec_any _ l 8 _ (ArgRecs.bl HL.out HB1.out) (by decide) (by decide)).mono ?_; rintro e w1' ⟨uc, rfl, hcr, rfl⟩; obtain ⟨L, hL⟩ : ∃ L, L = l.take (8 : Int).toNat := ⟨_, rfl⟩; rw [← hL] at hcr; clear hL; have HCR := Lib.hid hcr; obtain ⟨Ac, cc, rfl, _⟩ := id hcr; clear hcr)
  go_wp2_with fail
  refine (play22_any (fun _ => false) B _ _ _ noH L ns _ HH1.out (RHIs.nil _) rfl HOK.no HCR.out (ArgInts.bl HNS.out HB1.out)).mono ?_
  rintro e w2 ⟨u, m, rfl, hh, hr, hm, hg⟩
  have HB2 := Lib.hid (HB1.out.grown hg (fun k hk => by injection hk with hk; have := HBw.out; omega))
  have HH2 := Lib.hid hh
  have HR2 := Lib.hid (RHIs.sub (Sub.un _ _) hr)
  have HM := Lib.hid hm
  obtain ⟨a1, b1, c1, rfl, h1, h2, h3⟩ := id hr
  obtain ⟨A1, n1, t1, rfl⟩ : ∃ A' n' c', a1 = .slice A' n' c' := by obtain ⟨A', c', e'⟩ := h1.slice; exact ⟨A', _, c', e'⟩
  obtain ⟨A2, n2, t2, rfl⟩ : ∃ A' n' c', b1 = .slice A' n' c' := by obtain ⟨A', c', e'⟩ := h2.slice; exact ⟨A', _, c', e'⟩
  obtain ⟨A3, n3, t3, rfl⟩ : ∃ A' n' c', c1 = .slice A' n' c' := by obtain ⟨A', c', e'⟩ := h3.slice; exact ⟨A', _, c', e'⟩
  clear hh hr hm hg h1 h2 h3 HB1 HH1
  have HOKs := Lib.hid (HOK.all HM.out)
  have hal := (Bl.refl w2).alloc (.cells #[.slice A1 n1 t1, .slice A2 n2 t2, .slice A3 n3 t3] 30)
  have HAL := Lib.hid hal
  have HKB := Lib.hid (Blk.new w2 #[.slice A1 n1 t1, .slice A2 n2 t2, .slice A3 n3 t3] 30)
  clear hal
  go_wp2_with fail
  refine (hnow_any B m _ (HH2.out.bl HAL.out)).mono ?_
  rintro e w3 ⟨u3, rfl, hst, rfl⟩
  obtain ⟨b3, _, _, rfl, _⟩ := id hst
  clear hst
  go_wp2_with fail
  refine (hcloneH_any B m _ (HH2.out.bl HAL.out) HM.out.2.2.2.1 HM.out.2.2.2.2).mono ?_
  rintro e w4 ⟨B2, rfl, hB2, hh2, hb⟩
  have HC := Lib.hid hh2
  have HB4 := Lib.hid (HAL.out.bl hb)
  replace HKB := Lib.hid (HKB.out.bl hb)
  clear hh2 hb hB2
  have hb1 := within_bd what 7 (by omega)
  go_wp2_with fail
  refine (within_any _ _ _ (by decide)).mono ?_
  rintro e w5 ⟨rfl, rfl⟩
  generalize within what 7 = y at *
  rcases (show y = 0 ∨ y = 1 ∨ y = 2 ∨ y = 3 ∨ y = 4 ∨ y = 5 ∨ y = 6 by omega) with rfl | rfl | rfl | rfl | rfl | rfl | rfl
  all_goals
    have q0 := HKB.out.cell 0
    have q1 := HKB.out.cell 1
    have q2 := HKB.out.cell 2
    have hlt := HKB.out.lt
    simp at q0 q1 q2
    go_wp2_with fail
    refine (hap20_any (fun _ => true) m _ _ _ _ (RHIs.sub ?hrs HR2.out) (rec_is _ _ _ _ _) HM.out).mono ?_
    case hrs => exact (Sub.bl ((HB4.out.alloc _).alloc _)).trans (fun ad v h => cell_only rfl h)
    rintro e w6 ⟨u6, rfl, hrh, hb⟩
    have HB6 := Lib.hid (((HB4.out.alloc _).alloc _).bl hb)
    have HX := Lib.hid ((Blk.new (w4.alloc _) _ _).bl hb)
    replace HKB := Lib.hid (HKB.out.bl ((((Bl.refl w4).alloc _).alloc _).bl hb))
    have HC6 := Lib.hid (HC.out.bl ((((Bl.refl w4).alloc _).alloc _).bl hb))
    obtain ⟨a2, b2, c2, rfl, h1, h2, h3⟩ := id hrh
    obtain ⟨D1, k1, s1, rfl⟩ : ∃ A' n' c', a2 = .slice A' n' c' := by obtain ⟨A', c', e'⟩ := h1.slice; exact ⟨A', _, c', e'⟩
    obtain ⟨D2, k2, s2, rfl⟩ : ∃ A' n' c', b2 = .slice A' n' c' := by obtain ⟨A', c', e'⟩ := h2.slice; exact ⟨A', _, c', e'⟩
    obtain ⟨D3, k3, s3, rfl⟩ : ∃ A' n' c', c2 = .slice A' n' c' := by obtain ⟨A', c', e'⟩ := h3.slice; exact ⟨A', _, c', e'⟩
    clear hrh h1 h2 h3 hb q0 q1 q2 hlt
    generalize hp : applyH m _ = p at *
    obtain ⟨m', ez⟩ := p
    have HP := Lib.hid hp
    clear hp
    dsimp only
    by_cases hz : ez = 0
    · subst hz
      go_wp2_with fail
      refine (wakes22_any _).mono ?_
      rintro e w7 ⟨rfl, hb⟩
      have HB7 := Lib.hid (HB2.out.bl ((HB6.out.alloc _).bl hb))
      clear hb
      go_wp2_with fail
      go_ret
      exact ⟨rfl, HB7.out⟩
    · have hz1 : (ez == 0) = false := by rw [beq_eq_false_iff_ne]; exact hz
      have HZ := Lib.hid hz
      have d0 := HX.out.cell 0
      have d1 := HX.out.cell 1
      have d2 := HX.out.cell 2
      have d3 := HX.out.cell 3
      have d4 := HX.out.cell 4
      have hltX := HX.out.lt
      simp at d0 d1 d2 d3 d4 hltX
      clear hz
      go_wp2_with fail
      have HA6 := Lib.hid (HB6.out.alloc (.cells #[.slice D1 k1 s1, .slice D2 k2 s2, .slice D3 k3 s3] 30))
      refine (happly_G (fun b => decide (b ≠ B)) B m _ _ _ (HistIs.toG (HH2.out.bl HA6.out)) (rec_is _ _ _ _ _) HM.out.1.1.1 HM.out.2.2.2.1 HM.out.2.2.2.2).mono ?_
      rintro e w7 ⟨rfl, hh, _, hno⟩
      rw [HP.out] at hh hno ⊢
      dsimp only at hh hno ⊢
      obtain ⟨hm', hb⟩ := hno HZ.out
      have HB7 := Lib.hid (HA6.out.bl hb)
      have HC7 := Lib.hid (HC6.out.bl (((Bl.refl w6).alloc _).bl hb))
      replace HKB := Lib.hid (HKB.out.bl (((Bl.refl w6).alloc _).bl hb))
      clear hh hno hm' hb d0 d1 d2 d3 d4 hltX
      go_wp2_with fail
      refine (hsame_any B B2 m m _ (HH2.out.bl HB7.out) HC7.out (fun s hs => HOKs.out s hs) (fun s hs => HOKs.out s hs)).mono ?_
      rintro e w8 ⟨rfl, hb⟩
      rw [sameH_refl]
      have HB8 := Lib.hid (HB7.out.bl hb)
      replace HKB := Lib.hid (HKB.out.bl hb)
      clear hb
      have q0 := HKB.out.cell 0
      have q1 := HKB.out.cell 1
      have q2 := HKB.out.cell 2
      simp at q0 q1 q2
      go_wp2_with fail
      refine (same22_any B _ m _ (HH2.out.bl HB8.out) (HR2.out.bl HB8.out) HM.out).mono ?_
      rintro e w9 ⟨rfl, hb⟩
      have HB9 := Lib.hid (HB8.out.bl hb)
      clear hb q0 q1 q2
      go_wp2_with fail
      refine (wakes22_any _).mono ?_
      rintro e w10 ⟨rfl, hb⟩
      have HB10 := Lib.hid (HB2.out.bl (HB9.out.bl hb))
      clear hb
      go_wp2_with fail
      go_ret
      exact ⟨rfl, HB10.out⟩
end Go.Proofs.YtddcjekkimajpaaGreat.ExtW
