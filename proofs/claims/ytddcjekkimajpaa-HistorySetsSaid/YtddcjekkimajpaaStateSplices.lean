/- The walk of overdublaw21.StateSplices. -/
import Derived.Test.YtddcjekkimajpaaStateErrors
namespace Go.Proofs.Ytddcjekkimajpaa.ExtW
open Go.RowKit Go.Ov Go.Proofs.Ytddcjekkimajpaa.Need

set_option maxHeartbeats 1000000 in
theorem tall_any (v : Value) (t : TreeM) (w : World) (h : TreeIs w v t) (hn : t.row.length * 40 ≤ 140737488355328) :
    Calls Try.prog 20 #[v] w fun e w' => ∃ u, e = .returned u ∧ extE.Own 38 w' w.heap.size u t.row ∧ Bl w w' := by
  obtain ⟨b, uh, n, rfl, c0, _, _, _, hl, _⟩ := h
  have HL := Lib.hid hl
  simp only [Head.v] at c0
  clear hl
  have hu := Try.underlying91
  go_enter Try.func20, Try.ntmps20
  go_wp2_with fail
  refine (tfresh_any _ _ _ HL.out hn).mono ?_
  rintro e w1 ⟨u, rfl, ho, hb⟩
  obtain ⟨A, c, rfl⟩ := ho.slice
  go_wp2_with fail
  go_ret
  exact ⟨_, rfl, ho, hb⟩

theorem shift0 : ∀ (l : List Ext) (a : Int), 0 ≤ a → a ≤ 1000 → validFrom a l = true → shiftM 0 l = l
  | [], _, _, _, _ => rfl
  | x :: l, a, h0, h1, hv => by
    obtain ⟨e0, e1, e2, e3, e4, e5, e6, e7, e8, e9⟩ := valid_cons hv
    show shiftE 0 x :: shiftM 0 l = x :: l
    rw [shift0 l (a + x.take) (by omega) e8 e9]
    obtain ⟨x0, x1, x2, x3, x4⟩ := x
    simp only at e0
    simp only [shiftE, Int.add_zero]
    rw [wrap_id (by omega) (by omega)]
theorem get_some {s : StM} {id : Int} {t : TreeM} (h : getS s id = some t) : 0 ≤ findS s id ∧ ∃ x ∈ s, x.2 = t := by
  rcases findS_get s id with ⟨_, h2⟩ | ⟨i, hi, h1, _, h3⟩
  · rw [h] at h2; cases h2
  · rw [h] at h3
    exact ⟨by rw [h1]; omega, s[i], List.getElem_mem hi, (Option.some.inj h3).symm⟩
theorem splice_round {S : StM} {t : TreeM} {fr tt : Int} {x : List Ext} (hS : SOK S) (h1 : getS S 1 = some t) (f0 : 0 ≤ fr) (f1 : fr ≤ endM t.row) (f2 : fr ≤ tt) (f3 : tt ≤ 1000)
    (hx : validFrom 0 x = true) (hn : endM t.row + endM x ≤ 1000) :
    ∃ t', applyR S (recS 1 fr tt x) = (putL S 1 t', 0) ∧ endM t'.row = endM t.row - (min tt (endM t.row) - fr) + endM x := by
  obtain ⟨hf, y, hy, rfl⟩ := get_some h1
  have hv := hS.1.2 y hy
  generalize y.2 = t at *
  have b1 := valid_bd t.row 0 (by decide) hv
  have b2 := valid_bd x 0 (by decide) hx
  have eb : spliceBad t.row fr (min tt (endM t.row)) x = false := by simp [spliceBad, hx]; omega
  have el : spliceLong t.row fr (min tt (endM t.row)) x = false := by unfold spliceLong; simp; omega
  have e : spliceOf t (recS 1 fr tt x) = (spliceL t.row fr (min tt (endM t.row)) x, 0) := by
    show spliceM t.row fr (min tt (endM t.row)) x = _
    unfold spliceM
    rw [eb, el]; rfl
  refine ⟨treeM (spliceL t.row fr (min tt (endM t.row)) x), ?_, ?_⟩
  · rw [apply_S _ _ _ _ _ (by decide) (by decide) f0 f2 f3 hx, h1]
    simp only [applyT]
    rw [if_neg (by simp [recS]), if_neg (show ¬ endM t.row < (recS 1 fr tt x).fr by simp [recS]; omega), e, if_pos rfl]
    unfold putR
    rw [if_neg (show ¬ ((recS 1 fr tt x).track < 0 ∨ 99 < (recS 1 fr tt x).track) by simp [recS]), if_neg (fun h => by have := h.1; simp only [recS] at this; omega)]
    rfl
  · show endM (spliceL t.row fr (min tt (endM t.row)) x) = _
    rw [splice_end _ _ _ _ hv f0 (by omega) f1]
    omega
def twoS : StM := putL (oneS 1) 2 (treeM [])
def thrS (row : List Ext) : StM := putL twoS 2 (treeM row)
theorem two_step : applyR (oneS 1) (recC 2) = (twoS, 0) := (apply_C _ 2 (by decide) (by decide)).2.2 (by rw [one_get, if_neg (by decide)]) (by rw [show (oneS 1).length = 1 by unfold oneS; rw [put_len]; rfl]; decide)
theorem two_get (j : Int) : getS twoS j = if j = 2 then some (treeM []) else if j = 1 then some (treeM []) else none := by unfold twoS; rw [put_get, one_get]
theorem two_ok : SOK twoS := by
  have := (one_ok 1 (by decide) (by decide)).apply (r := recC 2) (by rw [two_step])
  rwa [two_step] at this
theorem thr_step (row : List Ext) (hv : validFrom 0 row = true) : applyR twoS (recS 2 0 0 row) = (thrS row, 0) := by
  have b1 := valid_bd row 0 (by decide) hv
  have h1 : getS twoS 2 = some (treeM []) := by rw [two_get, if_pos rfl]
  have e : spliceOf (treeM []) (recS 2 0 0 row) = (row, 0) := by
    show spliceM [] 0 0 row = _
    have h1 : spliceBad [] 0 0 row = false := by simp [spliceBad, hv, endM]
    have h2 : spliceLong [] 0 0 row = false := by unfold spliceLong; simp [endM]; simp [endM] at b1; omega
    unfold spliceM
    rw [h1, h2]
    simp [spliceL, cutM, shift0 row 0 (by decide) (by decide) hv]
    simp [shiftM]
  have hf := (get_some h1).1
  rw [apply_S _ _ _ _ _ (by decide) (by decide) (by decide) (by decide) (by decide) hv, h1]
  simp only [applyT]
  rw [if_neg (by simp [recS]), if_neg (show ¬ endM (treeM []).row < (recS 2 0 0 row).fr by simp [treeM, endM, recS]), e, if_pos rfl]
  unfold putR
  rw [if_neg (show ¬ ((recS 2 0 0 row).track < 0 ∨ 99 < (recS 2 0 0 row).track) by simp [recS]), if_neg (fun h => by have := h.1; simp only [recS] at this; omega)]
  rfl
theorem thr_ok (row : List Ext) (hv : validFrom 0 row = true) : SOK (thrS row) := by
  have := two_ok.apply (r := recS 2 0 0 row) (by rw [thr_step row hv])
  rwa [thr_step row hv] at this
theorem thr_get (row : List Ext) (j : Int) : getS (thrS row) j = if j = 2 then some (treeM row) else if j = 1 then some (treeM []) else none := by
  unfold thrS; rw [put_get, two_get]; split
  · rfl
  · rfl
theorem end_range {S : StM} {t : TreeM} (h1 : getS S 1 = some t) (fr : Int) (h0 : 0 ≤ fr) (h2 : endM t.row < fr) (h3 : fr ≤ 1000) : applyR S (recS 1 fr fr []) = ([], 7) := by
  rw [apply_S _ _ _ _ _ (by decide) (by decide) h0 (Int.le_refl _) h3 rfl, h1]
  simp only [applyT]
  rw [if_neg (by simp [recS]), if_pos (show endM t.row < (recS 1 fr fr []).fr from h2)]
theorem end_none {S : StM} (h1 : getS S 3 = none) : applyR S (recS 3 0 0 []) = ([], 5) := by
  rw [apply_S _ _ _ _ _ (by decide) (by decide) (by decide) (by decide) (by decide) rfl, h1]
theorem end_undo (S : StM) : applyR S ⟨4, 0, 0, 0, []⟩ = ([], 1) := by
  unfold applyR; rw [if_pos (.inr (by decide))]
theorem piece_ok (i : Nat) (q : Int) (hi : i < 6) (h0 : 0 < q) (h1 : q ≤ 60) : validFrom 0 [(⟨0, 9 + i, 64, 64 - q, q⟩ : Ext)] = true := by
  simp [validFrom, oneB]; omega
theorem piece_end (a b c d e : Int) : endM [(⟨a, b, c, d, e⟩ : Ext)] = e := by simp [endM]

theorem piece_is (w : World) (b c d q : Int) : extE.Is (w.alloc (.cells #[.int .i64 0, .int .i64 b, .int .i64 c, .int .i64 d, .int .i64 q] 38)) (.slice (some ⟨w.heap.size, 0, none⟩) 1 1) [(⟨0, b, c, d, q⟩ : Ext)] :=
  (Enc.Own.lit (E := extE) (e := 38) w 0 [⟨0, b, c, d, q⟩] #[.int .i64 0, .int .i64 b, .int .i64 c, .int .i64 d, .int .i64 q] rfl 1 rfl (Nat.zero_le _) (by decide) rfl).is

set_option maxRecDepth 100000 in
set_option maxHeartbeats 2000000 in
theorem statesplices_walk (vl : Value) (ls : List (List Int)) (vr : Value) (rows : List Ext) (w : World) (hl : ArgIntss w vl ls) (hr : ArgExts w vr rows) :
    Calls Try.prog 5 #[vl, vr] w fun e w' => e = .returned (.bool true) ∧ Bl w w' := by
  obtain ⟨A, c, hs, rfl, h1, h2, hA, hR⟩ := hl
  have HA := Lib.hid hA
  have hl : hs.length ≤ 9223372036854775807 := by unfold maxLen at h2; omega
  have HRW := Lib.hid hr.1
  obtain ⟨⟨A', c', rfl, _⟩, _⟩ := hr
  clear hA hR h1 h2
  have hv := rowM_valid rows 5
  have hn := rowM_len rows 5
  obtain ⟨row, hrow⟩ : ∃ row, row = rowM rows 5 := ⟨_, rfl⟩
  rw [← hrow] at hv hn
  have HROW := Lib.hid hrow
  have E3 := Lib.hid (thr_step row hv)
  have K3 := Lib.hid (thr_ok row hv)
  have G3 := Lib.hid (thr_get row)
  have HRL := Lib.hid (show (treeM row).row.length * 40 ≤ 140737488355328 by show row.length * 40 ≤ _; omega)
  clear hrow hv hn
  have HB := Lib.hid (Bl.refl w)
  have hu := Try.underlying33
  go_enter Try.func5, Try.ntmps5
  go_wp2_with fail
  refine (snew_any _).mono ?_
  rintro e w1 ⟨s0, rfl, hs0, hb⟩
  try replace HA := Lib.hid (HA.out.bl hb)
  try replace HRW := Lib.hid (HRW.out.bl hb)
  try replace HROW := Lib.hid (HROW.out.bl hb)
  try replace E3 := Lib.hid (E3.out.bl hb)
  try replace K3 := Lib.hid (K3.out.bl hb)
  try replace G3 := Lib.hid (G3.out.bl hb)
  try replace HRL := Lib.hid (HRL.out.bl hb)
  try replace HB := Lib.hid (HB.out.bl hb)
  clear hb
  obtain ⟨b0, _, _, rfl, _⟩ := id hs0
  have HS := Lib.hid hs0
  have hb01 := HB.out
  clear hs0 HB
  have HB := Lib.hid (Bl.refl w1)
  go_wp2_with fail
  go_loopg [5, 6] 3 (fun g vs i wr => ((i = .int .i64 1 ∧ g = 3 ∧ Hid (StateIs wr vs [])) ∨ (i = .int .i64 2 ∧ g = 2 ∧ Hid (StateIs wr vs (oneS 1))) ∨ (i = .int .i64 3 ∧ g = 1 ∧ Hid (StateIs wr vs twoS))) ∧ Hid (Bl w1 wr))
  case atStart => exact ⟨.inl ⟨rfl, rfl, HS⟩, HB⟩
  case round =>
    clear HS HB
    obtain ⟨hh, HB⟩ := hrel
    rcases hh with ⟨rfl, rfl, HS⟩ | ⟨rfl, rfl, HS⟩ | ⟨rfl, rfl, HS⟩
    · have K0 := Lib.hid SOK.nil
      have E1 := Lib.hid (show applyR [] (recC 1) = (oneS 1, 0) from (apply_C [] 1 (by decide) (by decide)).2.2 rfl (by decide))
      obtain ⟨bS, _, _, e0, _⟩ := id HS.out
      subst e0
      go_wp2_with fail
      refine (sapply_any _ _ [] (recC 1) _ HS.out (rec_is _ 1 1 0 0) K0.out.1).mono ?_
      rintro e w3 ⟨⟨hx, _⟩, hb⟩
      obtain ⟨T, rfl, hst⟩ := hx (by rw [E1.out])
      rw [E1.out] at hst
      obtain ⟨bT, _, _, rfl, _⟩ := id hst
      clear hx
      try replace HA := Lib.hid (HA.out.bl hb)
      try replace HRW := Lib.hid (HRW.out.bl hb)
      try replace HROW := Lib.hid (HROW.out.bl hb)
      try replace E3 := Lib.hid (E3.out.bl hb)
      try replace K3 := Lib.hid (K3.out.bl hb)
      try replace G3 := Lib.hid (G3.out.bl hb)
      try replace HRL := Lib.hid (HRL.out.bl hb)
      try replace HB := Lib.hid (HB.out.bl hb)
      try replace HS := Lib.hid (HS.out.bl hb)
      try replace K0 := Lib.hid (K0.out.bl hb)
      try replace E1 := Lib.hid (E1.out.bl hb)
      clear hb
      have HT := Lib.hid hst
      clear hst
      go_wp2_with fail
      go_roundg 2
      case measure => omega
      case rel => exact ⟨.inr (.inl ⟨rfl, rfl, HT⟩), HB⟩
    · have K0 := Lib.hid (one_ok 1 (by decide) (by decide))
      have E1 := Lib.hid two_step
      obtain ⟨bS, _, _, e0, _⟩ := id HS.out
      subst e0
      go_wp2_with fail
      refine (sapply_any _ _ (oneS 1) (recC 2) _ HS.out (rec_is _ 1 2 0 0) K0.out.1).mono ?_
      rintro e w3 ⟨⟨hx, _⟩, hb⟩
      obtain ⟨T, rfl, hst⟩ := hx (by rw [E1.out])
      rw [E1.out] at hst
      obtain ⟨bT, _, _, rfl, _⟩ := id hst
      clear hx
      try replace HA := Lib.hid (HA.out.bl hb)
      try replace HRW := Lib.hid (HRW.out.bl hb)
      try replace HROW := Lib.hid (HROW.out.bl hb)
      try replace E3 := Lib.hid (E3.out.bl hb)
      try replace K3 := Lib.hid (K3.out.bl hb)
      try replace G3 := Lib.hid (G3.out.bl hb)
      try replace HRL := Lib.hid (HRL.out.bl hb)
      try replace HB := Lib.hid (HB.out.bl hb)
      try replace HS := Lib.hid (HS.out.bl hb)
      try replace K0 := Lib.hid (K0.out.bl hb)
      try replace E1 := Lib.hid (E1.out.bl hb)
      try replace HT := Lib.hid (HT.out.bl hb)
      clear hb
      have HT := Lib.hid hst
      clear hst
      go_wp2_with fail
      go_roundg 1
      case measure => omega
      case rel => exact ⟨.inr (.inr ⟨rfl, rfl, HT⟩), HB⟩
    · have K2 := Lib.hid two_ok
      obtain ⟨bS, _, _, e0, _⟩ := id HS.out
      subst e0
      go_wp2_with fail
      have HRWr := Lib.hid (HRW.out.bl HB.out)
      refine (row16_any _ _ 5 _ HRWr.out (by decide)).mono ?_
      rintro e w2 ⟨u, rfl, ho, hb⟩
      rw [← HROW.out] at ho
      obtain ⟨A2, c2, rfl⟩ := ho.slice
      clear HRWr
      try replace HA := Lib.hid (HA.out.bl hb)
      try replace HRW := Lib.hid (HRW.out.bl hb)
      try replace HROW := Lib.hid (HROW.out.bl hb)
      try replace E3 := Lib.hid (E3.out.bl hb)
      try replace K3 := Lib.hid (K3.out.bl hb)
      try replace G3 := Lib.hid (G3.out.bl hb)
      try replace HRL := Lib.hid (HRL.out.bl hb)
      try replace HB := Lib.hid (HB.out.bl hb)
      try replace HS := Lib.hid (HS.out.bl hb)
      try replace K0 := Lib.hid (K0.out.bl hb)
      try replace E1 := Lib.hid (E1.out.bl hb)
      try replace HT := Lib.hid (HT.out.bl hb)
      try replace K2 := Lib.hid (K2.out.bl hb)
      try replace HRWr := Lib.hid (HRWr.out.bl hb)
      clear hb
      have HR := Lib.hid ho.is
      clear ho
      go_wp2_with fail
      refine (sapply_any _ _ twoS (recS 2 0 0 row) _ HS.out ⟨_, rfl, HR.out⟩ K2.out.1).mono ?_
      rintro e w3 ⟨⟨hx, _⟩, hb⟩
      obtain ⟨T, rfl, hst⟩ := hx (by rw [E3.out])
      rw [E3.out] at hst
      obtain ⟨bT, _, _, rfl, _⟩ := id hst
      clear hx
      try replace HA := Lib.hid (HA.out.bl hb)
      try replace HRW := Lib.hid (HRW.out.bl hb)
      try replace HROW := Lib.hid (HROW.out.bl hb)
      try replace E3 := Lib.hid (E3.out.bl hb)
      try replace K3 := Lib.hid (K3.out.bl hb)
      try replace G3 := Lib.hid (G3.out.bl hb)
      try replace HRL := Lib.hid (HRL.out.bl hb)
      try replace HB := Lib.hid (HB.out.bl hb)
      try replace HS := Lib.hid (HS.out.bl hb)
      try replace K0 := Lib.hid (K0.out.bl hb)
      try replace E1 := Lib.hid (E1.out.bl hb)
      try replace HT := Lib.hid (HT.out.bl hb)
      try replace K2 := Lib.hid (K2.out.bl hb)
      try replace HRWr := Lib.hid (HRWr.out.bl hb)
      try replace HR := Lib.hid (HR.out.bl hb)
      clear hb
      have HT := Lib.hid hst
      clear hst
      clear HS
      go_wp2_with fail
      go_loopg [5, 12, 13] 6 (fun g vs n i wr => ∃ (k : Nat) (S : StM) (t : TreeM), k ≤ 6 ∧ g = 6 - k ∧ i = .int .i64 k ∧ n = .int .i64 (endM t.row) ∧ Hid (SOK S) ∧ Hid (getS S 1 = some t) ∧ Hid (getS S 2 = some (treeM row)) ∧ Hid (getS S 3 = none) ∧ 0 ≤ endM t.row ∧ endM t.row ≤ 60 * k ∧ Hid (StateIs wr vs S) ∧ Hid (extE.Is wr (.slice A2 row.length c2) row) ∧ Hid (Bl w1 wr))
      case atStart => exact ⟨0, thrS row, treeM [], by omega, rfl, rfl, rfl, K3, Lib.hid (by rw [G3.out]; rfl), Lib.hid (by rw [G3.out]; rfl), Lib.hid (by rw [G3.out]; rfl), Int.le_refl _, by decide, HT, HR, HB⟩
      case round =>
        clear HT HB HR E3 K3 G3
        obtain ⟨k, S, t, hk6, rfl, rfl, rfl, HK, HG1, HG2, HG3, n0, n1, HS, HR, HB⟩ := hrel
        obtain ⟨bS, _, _, e0, _⟩ := id HS.out
        subst e0
        by_cases hlt : k < hs.length ∧ k < 6
        · obtain ⟨hkl, hk⟩ := hlt
          have hkl' : (k : Int) < hs.length := by omega
          have hk' : (k : Int) < 6 := by omega
          obtain ⟨ad, rfl, d0⟩ := head_at HA.out k hkl
          replace d0 := HB.out.cell d0
          generalize hs[k] = y at d0
          obtain ⟨Ay, ny, cy⟩ := y
          unfold Head.v at d0
          simp only at d0
          rcases (show 60 < ny ∨ (0 < ny ∧ ny ≤ 60) ∨ ny = 0 by omega) with hq | ⟨hq, hq2⟩ | rfl
          · have hq' : (60 : Int) < ny := by omega
            go_wp2_with fail
            refine (within_any _ _ _ (by omega)).mono ?_
            rintro e w3 ⟨rfl, rfl⟩
            have hfr := within_bd (420 + k) (endM t.row + 1) (by omega)
            generalize within (420 + k) (endM t.row + 1) = fr at hfr ⊢
            obtain ⟨f0, f1⟩ := hfr
            obtain ⟨t', E1, E2⟩ := splice_round (fr := fr) (tt := min (fr + k) 1000) HK.out HG1.out f0 (by omega) (by omega) (by omega) (show validFrom 0 [(⟨0, 9 + (k : Int), 64, 4, 60⟩ : Ext)] = true from piece_ok k 60 hk (by decide) (by decide)) (by rw [(piece_end _ _ _ _ _)]; omega)
            have HE1 := Lib.hid E1
            have HNK := Lib.hid (HK.out.apply (r := recS 1 fr (min (fr + k) 1000) [⟨0, 9 + k, 64, 4, 60⟩]) (by rw [E1]))
            have HNG1 := Lib.hid (show getS (putL S 1 t') 1 = some t' by rw [put_get, if_pos rfl])
            have HNG2 := Lib.hid (show getS (putL S 1 t') 2 = some (treeM row) by rw [put_get, if_neg (by decide)]; exact HG2.out)
            have HNG3 := Lib.hid (show getS (putL S 1 t') 3 = none by rw [put_get, if_neg (by decide)]; exact HG3.out)
            rw [E1] at HNK
            rw [(piece_end _ _ _ _ _)] at E2
            generalize putL S 1 t' = S' at *
            clear E1
            go_wp2_with fail
            refine (sapply_any _ _ S (recS 1 fr (min (fr + k) 1000) [⟨0, 9 + k, 64, 4, 60⟩]) _ (HS.out.bl ((Bl.refl _).alloc _)) ⟨_, rfl, (piece_is wr _ _ _ _)⟩ HK.out.1).mono ?_
            rintro e w4 ⟨⟨hx, _⟩, hb0⟩
            obtain ⟨uT, rfl, hst⟩ := hx (by rw [HE1.out])
            rw [HE1.out] at hst
            obtain ⟨bT, _, _, rfl, _⟩ := id hst
            have hb := (Bl.bl ((Bl.refl wr).alloc _) hb0)
            clear hx hb0 HS HK HG1 HG2 HG3 HE1
            try replace HA := Lib.hid (HA.out.bl hb)
            try replace HRW := Lib.hid (HRW.out.bl hb)
            try replace HROW := Lib.hid (HROW.out.bl hb)
            try replace E3 := Lib.hid (E3.out.bl hb)
            try replace K3 := Lib.hid (K3.out.bl hb)
            try replace G3 := Lib.hid (G3.out.bl hb)
            try replace HRL := Lib.hid (HRL.out.bl hb)
            try replace HB := Lib.hid (HB.out.bl hb)
            try replace HS := Lib.hid (HS.out.bl hb)
            try replace K0 := Lib.hid (K0.out.bl hb)
            try replace E1 := Lib.hid (E1.out.bl hb)
            try replace HT := Lib.hid (HT.out.bl hb)
            try replace K2 := Lib.hid (K2.out.bl hb)
            try replace HRWr := Lib.hid (HRWr.out.bl hb)
            try replace HR := Lib.hid (HR.out.bl hb)
            try replace HE1 := Lib.hid (HE1.out.bl hb)
            try replace HNK := Lib.hid (HNK.out.bl hb)
            try replace HNG1 := Lib.hid (HNG1.out.bl hb)
            try replace HNG2 := Lib.hid (HNG2.out.bl hb)
            try replace HNG3 := Lib.hid (HNG3.out.bl hb)
            clear hb
            have HS := Lib.hid hst
            clear hst
            go_wp2_with fail
            refine (slength_any _ S' 1 _ HS.out HNK.out.1.2).mono ?_
            rintro e w5 ⟨⟨_, hx⟩, hb⟩
            obtain rfl := hx _ HNG1.out
            clear hx
            try replace HA := Lib.hid (HA.out.bl hb)
            try replace HRW := Lib.hid (HRW.out.bl hb)
            try replace HROW := Lib.hid (HROW.out.bl hb)
            try replace E3 := Lib.hid (E3.out.bl hb)
            try replace K3 := Lib.hid (K3.out.bl hb)
            try replace G3 := Lib.hid (G3.out.bl hb)
            try replace HRL := Lib.hid (HRL.out.bl hb)
            try replace HB := Lib.hid (HB.out.bl hb)
            try replace HS := Lib.hid (HS.out.bl hb)
            try replace K0 := Lib.hid (K0.out.bl hb)
            try replace E1 := Lib.hid (E1.out.bl hb)
            try replace HT := Lib.hid (HT.out.bl hb)
            try replace K2 := Lib.hid (K2.out.bl hb)
            try replace HRWr := Lib.hid (HRWr.out.bl hb)
            try replace HR := Lib.hid (HR.out.bl hb)
            try replace HE1 := Lib.hid (HE1.out.bl hb)
            try replace HNK := Lib.hid (HNK.out.bl hb)
            try replace HNG1 := Lib.hid (HNG1.out.bl hb)
            try replace HNG2 := Lib.hid (HNG2.out.bl hb)
            try replace HNG3 := Lib.hid (HNG3.out.bl hb)
            clear hb
            go_wp2_with fail
            refine (stree_any _ S' 2 _ HS.out).mono ?_
            rintro e w6 ⟨⟨_, hx⟩, hb⟩
            obtain ⟨uR, rfl, ht⟩ := hx _ HNG2.out
            obtain ⟨bR, _, _, rfl, _⟩ := id ht
            have HT := Lib.hid ht
            clear hx ht
            try replace HA := Lib.hid (HA.out.bl hb)
            try replace HRW := Lib.hid (HRW.out.bl hb)
            try replace HROW := Lib.hid (HROW.out.bl hb)
            try replace E3 := Lib.hid (E3.out.bl hb)
            try replace K3 := Lib.hid (K3.out.bl hb)
            try replace G3 := Lib.hid (G3.out.bl hb)
            try replace HRL := Lib.hid (HRL.out.bl hb)
            try replace HB := Lib.hid (HB.out.bl hb)
            try replace HS := Lib.hid (HS.out.bl hb)
            try replace K0 := Lib.hid (K0.out.bl hb)
            try replace E1 := Lib.hid (E1.out.bl hb)
            try replace HT := Lib.hid (HT.out.bl hb)
            try replace K2 := Lib.hid (K2.out.bl hb)
            try replace HRWr := Lib.hid (HRWr.out.bl hb)
            try replace HR := Lib.hid (HR.out.bl hb)
            try replace HE1 := Lib.hid (HE1.out.bl hb)
            try replace HNK := Lib.hid (HNK.out.bl hb)
            try replace HNG1 := Lib.hid (HNG1.out.bl hb)
            try replace HNG2 := Lib.hid (HNG2.out.bl hb)
            try replace HNG3 := Lib.hid (HNG3.out.bl hb)
            clear hb
            have hn' : endM t.row - (min (fr + k) (endM t.row) - fr) + 60 = endM t'.row := by omega
            go_wp2_with fail
            refine (tall_any _ (treeM row) _ HT.out HRL.out).mono ?_
            rintro e w7 ⟨uA, rfl, ho, hb⟩
            try replace HA := Lib.hid (HA.out.bl hb)
            try replace HRW := Lib.hid (HRW.out.bl hb)
            try replace HROW := Lib.hid (HROW.out.bl hb)
            try replace E3 := Lib.hid (E3.out.bl hb)
            try replace K3 := Lib.hid (K3.out.bl hb)
            try replace G3 := Lib.hid (G3.out.bl hb)
            try replace HRL := Lib.hid (HRL.out.bl hb)
            try replace HB := Lib.hid (HB.out.bl hb)
            try replace HS := Lib.hid (HS.out.bl hb)
            try replace K0 := Lib.hid (K0.out.bl hb)
            try replace E1 := Lib.hid (E1.out.bl hb)
            try replace HT := Lib.hid (HT.out.bl hb)
            try replace K2 := Lib.hid (K2.out.bl hb)
            try replace HRWr := Lib.hid (HRWr.out.bl hb)
            try replace HR := Lib.hid (HR.out.bl hb)
            try replace HE1 := Lib.hid (HE1.out.bl hb)
            try replace HNK := Lib.hid (HNK.out.bl hb)
            try replace HNG1 := Lib.hid (HNG1.out.bl hb)
            try replace HNG2 := Lib.hid (HNG2.out.bl hb)
            try replace HNG3 := Lib.hid (HNG3.out.bl hb)
            clear hb
            have HA := Lib.hid ho.is
            clear ho
            go_wp2_with fail
            refine (sameExt_any _ _ row row _ HA.out HR.out).mono ?_
            rintro e w8 ⟨rfl, hb⟩
            try replace HA := Lib.hid (HA.out.bl hb)
            try replace HRW := Lib.hid (HRW.out.bl hb)
            try replace HROW := Lib.hid (HROW.out.bl hb)
            try replace E3 := Lib.hid (E3.out.bl hb)
            try replace K3 := Lib.hid (K3.out.bl hb)
            try replace G3 := Lib.hid (G3.out.bl hb)
            try replace HRL := Lib.hid (HRL.out.bl hb)
            try replace HB := Lib.hid (HB.out.bl hb)
            try replace HS := Lib.hid (HS.out.bl hb)
            try replace K0 := Lib.hid (K0.out.bl hb)
            try replace E1 := Lib.hid (E1.out.bl hb)
            try replace HT := Lib.hid (HT.out.bl hb)
            try replace K2 := Lib.hid (K2.out.bl hb)
            try replace HRWr := Lib.hid (HRWr.out.bl hb)
            try replace HR := Lib.hid (HR.out.bl hb)
            try replace HE1 := Lib.hid (HE1.out.bl hb)
            try replace HNK := Lib.hid (HNK.out.bl hb)
            try replace HNG1 := Lib.hid (HNG1.out.bl hb)
            try replace HNG2 := Lib.hid (HNG2.out.bl hb)
            try replace HNG3 := Lib.hid (HNG3.out.bl hb)
            clear hb
            go_wp2_with fail
            go_roundg (6 - (k + 1))
            case measure => omega
            case rel => exact ⟨k + 1, S', t', by omega, rfl, by go_num, (congrArg (Value.int .i64) (by omega)), HNK, HNG1, HNG2, HNG3, by omega, by omega, HS, HR, HB⟩
          · have hq' : (0 : Int) < ny := by omega
            have hq3 : (ny : Int) ≤ 60 := by omega
            go_wp2_with fail
            refine (within_any _ _ _ (by omega)).mono ?_
            rintro e w3 ⟨rfl, rfl⟩
            have hfr := within_bd (ny * 7 + k) (endM t.row + 1) (by omega)
            generalize within (ny * 7 + k) (endM t.row + 1) = fr at hfr ⊢
            obtain ⟨f0, f1⟩ := hfr
            obtain ⟨t', E1, E2⟩ := splice_round (fr := fr) (tt := min (fr + k) 1000) HK.out HG1.out f0 (by omega) (by omega) (by omega) (piece_ok k ny hk hq' hq3) (by rw [(piece_end _ _ _ _ _)]; omega)
            have HE1 := Lib.hid E1
            have HNK := Lib.hid (HK.out.apply (r := recS 1 fr (min (fr + k) 1000) [⟨0, 9 + k, 64, 64 - ny, ny⟩]) (by rw [E1]))
            have HNG1 := Lib.hid (show getS (putL S 1 t') 1 = some t' by rw [put_get, if_pos rfl])
            have HNG2 := Lib.hid (show getS (putL S 1 t') 2 = some (treeM row) by rw [put_get, if_neg (by decide)]; exact HG2.out)
            have HNG3 := Lib.hid (show getS (putL S 1 t') 3 = none by rw [put_get, if_neg (by decide)]; exact HG3.out)
            rw [E1] at HNK
            rw [(piece_end _ _ _ _ _)] at E2
            generalize putL S 1 t' = S' at *
            clear E1
            go_wp2_with fail
            refine (sapply_any _ _ S (recS 1 fr (min (fr + k) 1000) [⟨0, 9 + k, 64, 64 - ny, ny⟩]) _ (HS.out.bl ((Bl.refl _).alloc _)) ⟨_, rfl, (piece_is wr _ _ _ _)⟩ HK.out.1).mono ?_
            rintro e w4 ⟨⟨hx, _⟩, hb0⟩
            obtain ⟨uT, rfl, hst⟩ := hx (by rw [HE1.out])
            rw [HE1.out] at hst
            obtain ⟨bT, _, _, rfl, _⟩ := id hst
            have hb := (Bl.bl ((Bl.refl wr).alloc _) hb0)
            clear hx hb0 HS HK HG1 HG2 HG3 HE1
            try replace HA := Lib.hid (HA.out.bl hb)
            try replace HRW := Lib.hid (HRW.out.bl hb)
            try replace HROW := Lib.hid (HROW.out.bl hb)
            try replace E3 := Lib.hid (E3.out.bl hb)
            try replace K3 := Lib.hid (K3.out.bl hb)
            try replace G3 := Lib.hid (G3.out.bl hb)
            try replace HRL := Lib.hid (HRL.out.bl hb)
            try replace HB := Lib.hid (HB.out.bl hb)
            try replace HS := Lib.hid (HS.out.bl hb)
            try replace K0 := Lib.hid (K0.out.bl hb)
            try replace E1 := Lib.hid (E1.out.bl hb)
            try replace HT := Lib.hid (HT.out.bl hb)
            try replace K2 := Lib.hid (K2.out.bl hb)
            try replace HRWr := Lib.hid (HRWr.out.bl hb)
            try replace HR := Lib.hid (HR.out.bl hb)
            try replace HE1 := Lib.hid (HE1.out.bl hb)
            try replace HNK := Lib.hid (HNK.out.bl hb)
            try replace HNG1 := Lib.hid (HNG1.out.bl hb)
            try replace HNG2 := Lib.hid (HNG2.out.bl hb)
            try replace HNG3 := Lib.hid (HNG3.out.bl hb)
            clear hb
            have HS := Lib.hid hst
            clear hst
            go_wp2_with fail
            refine (slength_any _ S' 1 _ HS.out HNK.out.1.2).mono ?_
            rintro e w5 ⟨⟨_, hx⟩, hb⟩
            obtain rfl := hx _ HNG1.out
            clear hx
            try replace HA := Lib.hid (HA.out.bl hb)
            try replace HRW := Lib.hid (HRW.out.bl hb)
            try replace HROW := Lib.hid (HROW.out.bl hb)
            try replace E3 := Lib.hid (E3.out.bl hb)
            try replace K3 := Lib.hid (K3.out.bl hb)
            try replace G3 := Lib.hid (G3.out.bl hb)
            try replace HRL := Lib.hid (HRL.out.bl hb)
            try replace HB := Lib.hid (HB.out.bl hb)
            try replace HS := Lib.hid (HS.out.bl hb)
            try replace K0 := Lib.hid (K0.out.bl hb)
            try replace E1 := Lib.hid (E1.out.bl hb)
            try replace HT := Lib.hid (HT.out.bl hb)
            try replace K2 := Lib.hid (K2.out.bl hb)
            try replace HRWr := Lib.hid (HRWr.out.bl hb)
            try replace HR := Lib.hid (HR.out.bl hb)
            try replace HE1 := Lib.hid (HE1.out.bl hb)
            try replace HNK := Lib.hid (HNK.out.bl hb)
            try replace HNG1 := Lib.hid (HNG1.out.bl hb)
            try replace HNG2 := Lib.hid (HNG2.out.bl hb)
            try replace HNG3 := Lib.hid (HNG3.out.bl hb)
            clear hb
            go_wp2_with fail
            refine (stree_any _ S' 2 _ HS.out).mono ?_
            rintro e w6 ⟨⟨_, hx⟩, hb⟩
            obtain ⟨uR, rfl, ht⟩ := hx _ HNG2.out
            obtain ⟨bR, _, _, rfl, _⟩ := id ht
            have HT := Lib.hid ht
            clear hx ht
            try replace HA := Lib.hid (HA.out.bl hb)
            try replace HRW := Lib.hid (HRW.out.bl hb)
            try replace HROW := Lib.hid (HROW.out.bl hb)
            try replace E3 := Lib.hid (E3.out.bl hb)
            try replace K3 := Lib.hid (K3.out.bl hb)
            try replace G3 := Lib.hid (G3.out.bl hb)
            try replace HRL := Lib.hid (HRL.out.bl hb)
            try replace HB := Lib.hid (HB.out.bl hb)
            try replace HS := Lib.hid (HS.out.bl hb)
            try replace K0 := Lib.hid (K0.out.bl hb)
            try replace E1 := Lib.hid (E1.out.bl hb)
            try replace HT := Lib.hid (HT.out.bl hb)
            try replace K2 := Lib.hid (K2.out.bl hb)
            try replace HRWr := Lib.hid (HRWr.out.bl hb)
            try replace HR := Lib.hid (HR.out.bl hb)
            try replace HE1 := Lib.hid (HE1.out.bl hb)
            try replace HNK := Lib.hid (HNK.out.bl hb)
            try replace HNG1 := Lib.hid (HNG1.out.bl hb)
            try replace HNG2 := Lib.hid (HNG2.out.bl hb)
            try replace HNG3 := Lib.hid (HNG3.out.bl hb)
            clear hb
            have hn' : endM t.row - (min (fr + k) (endM t.row) - fr) + (ny : Int) = endM t'.row := by omega
            go_wp2_with fail
            refine (tall_any _ (treeM row) _ HT.out HRL.out).mono ?_
            rintro e w7 ⟨uA, rfl, ho, hb⟩
            try replace HA := Lib.hid (HA.out.bl hb)
            try replace HRW := Lib.hid (HRW.out.bl hb)
            try replace HROW := Lib.hid (HROW.out.bl hb)
            try replace E3 := Lib.hid (E3.out.bl hb)
            try replace K3 := Lib.hid (K3.out.bl hb)
            try replace G3 := Lib.hid (G3.out.bl hb)
            try replace HRL := Lib.hid (HRL.out.bl hb)
            try replace HB := Lib.hid (HB.out.bl hb)
            try replace HS := Lib.hid (HS.out.bl hb)
            try replace K0 := Lib.hid (K0.out.bl hb)
            try replace E1 := Lib.hid (E1.out.bl hb)
            try replace HT := Lib.hid (HT.out.bl hb)
            try replace K2 := Lib.hid (K2.out.bl hb)
            try replace HRWr := Lib.hid (HRWr.out.bl hb)
            try replace HR := Lib.hid (HR.out.bl hb)
            try replace HE1 := Lib.hid (HE1.out.bl hb)
            try replace HNK := Lib.hid (HNK.out.bl hb)
            try replace HNG1 := Lib.hid (HNG1.out.bl hb)
            try replace HNG2 := Lib.hid (HNG2.out.bl hb)
            try replace HNG3 := Lib.hid (HNG3.out.bl hb)
            clear hb
            have HA := Lib.hid ho.is
            clear ho
            go_wp2_with fail
            refine (sameExt_any _ _ row row _ HA.out HR.out).mono ?_
            rintro e w8 ⟨rfl, hb⟩
            try replace HA := Lib.hid (HA.out.bl hb)
            try replace HRW := Lib.hid (HRW.out.bl hb)
            try replace HROW := Lib.hid (HROW.out.bl hb)
            try replace E3 := Lib.hid (E3.out.bl hb)
            try replace K3 := Lib.hid (K3.out.bl hb)
            try replace G3 := Lib.hid (G3.out.bl hb)
            try replace HRL := Lib.hid (HRL.out.bl hb)
            try replace HB := Lib.hid (HB.out.bl hb)
            try replace HS := Lib.hid (HS.out.bl hb)
            try replace K0 := Lib.hid (K0.out.bl hb)
            try replace E1 := Lib.hid (E1.out.bl hb)
            try replace HT := Lib.hid (HT.out.bl hb)
            try replace K2 := Lib.hid (K2.out.bl hb)
            try replace HRWr := Lib.hid (HRWr.out.bl hb)
            try replace HR := Lib.hid (HR.out.bl hb)
            try replace HE1 := Lib.hid (HE1.out.bl hb)
            try replace HNK := Lib.hid (HNK.out.bl hb)
            try replace HNG1 := Lib.hid (HNG1.out.bl hb)
            try replace HNG2 := Lib.hid (HNG2.out.bl hb)
            try replace HNG3 := Lib.hid (HNG3.out.bl hb)
            clear hb
            go_wp2_with fail
            go_roundg (6 - (k + 1))
            case measure => omega
            case rel => exact ⟨k + 1, S', t', by omega, rfl, by go_num, (congrArg (Value.int .i64) (by omega)), HNK, HNG1, HNG2, HNG3, by omega, by omega, HS, HR, HB⟩
          · go_wp2_with fail
            refine (within_any _ _ _ (by omega)).mono ?_
            rintro e w3 ⟨rfl, rfl⟩
            have hfr := within_bd ((k : Int)) (endM t.row + 1) (by omega)
            generalize within ((k : Int)) (endM t.row + 1) = fr at hfr ⊢
            obtain ⟨f0, f1⟩ := hfr
            obtain ⟨t', E1, E2⟩ := splice_round (fr := fr) (tt := min (fr + k) 1000) HK.out HG1.out f0 (by omega) (by omega) (by omega) rfl (by rw [(show endM [] = 0 from rfl)]; omega)
            have HE1 := Lib.hid E1
            have HNK := Lib.hid (HK.out.apply (r := recS 1 fr (min (fr + k) 1000) []) (by rw [E1]))
            have HNG1 := Lib.hid (show getS (putL S 1 t') 1 = some t' by rw [put_get, if_pos rfl])
            have HNG2 := Lib.hid (show getS (putL S 1 t') 2 = some (treeM row) by rw [put_get, if_neg (by decide)]; exact HG2.out)
            have HNG3 := Lib.hid (show getS (putL S 1 t') 3 = none by rw [put_get, if_neg (by decide)]; exact HG3.out)
            rw [E1] at HNK
            rw [(show endM [] = 0 from rfl)] at E2
            generalize putL S 1 t' = S' at *
            clear E1
            go_wp2_with fail
            refine (sapply_any _ _ S (recS 1 fr (min (fr + k) 1000) []) _ HS.out ⟨_, rfl, (Enc.Is.nil _)⟩ HK.out.1).mono ?_
            rintro e w4 ⟨⟨hx, _⟩, hb0⟩
            obtain ⟨uT, rfl, hst⟩ := hx (by rw [HE1.out])
            rw [HE1.out] at hst
            obtain ⟨bT, _, _, rfl, _⟩ := id hst
            have hb := hb0
            clear hx hb0 HS HK HG1 HG2 HG3 HE1
            try replace HA := Lib.hid (HA.out.bl hb)
            try replace HRW := Lib.hid (HRW.out.bl hb)
            try replace HROW := Lib.hid (HROW.out.bl hb)
            try replace E3 := Lib.hid (E3.out.bl hb)
            try replace K3 := Lib.hid (K3.out.bl hb)
            try replace G3 := Lib.hid (G3.out.bl hb)
            try replace HRL := Lib.hid (HRL.out.bl hb)
            try replace HB := Lib.hid (HB.out.bl hb)
            try replace HS := Lib.hid (HS.out.bl hb)
            try replace K0 := Lib.hid (K0.out.bl hb)
            try replace E1 := Lib.hid (E1.out.bl hb)
            try replace HT := Lib.hid (HT.out.bl hb)
            try replace K2 := Lib.hid (K2.out.bl hb)
            try replace HRWr := Lib.hid (HRWr.out.bl hb)
            try replace HR := Lib.hid (HR.out.bl hb)
            try replace HE1 := Lib.hid (HE1.out.bl hb)
            try replace HNK := Lib.hid (HNK.out.bl hb)
            try replace HNG1 := Lib.hid (HNG1.out.bl hb)
            try replace HNG2 := Lib.hid (HNG2.out.bl hb)
            try replace HNG3 := Lib.hid (HNG3.out.bl hb)
            clear hb
            have HS := Lib.hid hst
            clear hst
            go_wp2_with fail
            refine (slength_any _ S' 1 _ HS.out HNK.out.1.2).mono ?_
            rintro e w5 ⟨⟨_, hx⟩, hb⟩
            obtain rfl := hx _ HNG1.out
            clear hx
            try replace HA := Lib.hid (HA.out.bl hb)
            try replace HRW := Lib.hid (HRW.out.bl hb)
            try replace HROW := Lib.hid (HROW.out.bl hb)
            try replace E3 := Lib.hid (E3.out.bl hb)
            try replace K3 := Lib.hid (K3.out.bl hb)
            try replace G3 := Lib.hid (G3.out.bl hb)
            try replace HRL := Lib.hid (HRL.out.bl hb)
            try replace HB := Lib.hid (HB.out.bl hb)
            try replace HS := Lib.hid (HS.out.bl hb)
            try replace K0 := Lib.hid (K0.out.bl hb)
            try replace E1 := Lib.hid (E1.out.bl hb)
            try replace HT := Lib.hid (HT.out.bl hb)
            try replace K2 := Lib.hid (K2.out.bl hb)
            try replace HRWr := Lib.hid (HRWr.out.bl hb)
            try replace HR := Lib.hid (HR.out.bl hb)
            try replace HE1 := Lib.hid (HE1.out.bl hb)
            try replace HNK := Lib.hid (HNK.out.bl hb)
            try replace HNG1 := Lib.hid (HNG1.out.bl hb)
            try replace HNG2 := Lib.hid (HNG2.out.bl hb)
            try replace HNG3 := Lib.hid (HNG3.out.bl hb)
            clear hb
            go_wp2_with fail
            refine (stree_any _ S' 2 _ HS.out).mono ?_
            rintro e w6 ⟨⟨_, hx⟩, hb⟩
            obtain ⟨uR, rfl, ht⟩ := hx _ HNG2.out
            obtain ⟨bR, _, _, rfl, _⟩ := id ht
            have HT := Lib.hid ht
            clear hx ht
            try replace HA := Lib.hid (HA.out.bl hb)
            try replace HRW := Lib.hid (HRW.out.bl hb)
            try replace HROW := Lib.hid (HROW.out.bl hb)
            try replace E3 := Lib.hid (E3.out.bl hb)
            try replace K3 := Lib.hid (K3.out.bl hb)
            try replace G3 := Lib.hid (G3.out.bl hb)
            try replace HRL := Lib.hid (HRL.out.bl hb)
            try replace HB := Lib.hid (HB.out.bl hb)
            try replace HS := Lib.hid (HS.out.bl hb)
            try replace K0 := Lib.hid (K0.out.bl hb)
            try replace E1 := Lib.hid (E1.out.bl hb)
            try replace HT := Lib.hid (HT.out.bl hb)
            try replace K2 := Lib.hid (K2.out.bl hb)
            try replace HRWr := Lib.hid (HRWr.out.bl hb)
            try replace HR := Lib.hid (HR.out.bl hb)
            try replace HE1 := Lib.hid (HE1.out.bl hb)
            try replace HNK := Lib.hid (HNK.out.bl hb)
            try replace HNG1 := Lib.hid (HNG1.out.bl hb)
            try replace HNG2 := Lib.hid (HNG2.out.bl hb)
            try replace HNG3 := Lib.hid (HNG3.out.bl hb)
            clear hb
            have hn' : endM t.row - (min (fr + k) (endM t.row) - fr) + 0 = endM t'.row := by omega
            go_wp2_with fail
            refine (tall_any _ (treeM row) _ HT.out HRL.out).mono ?_
            rintro e w7 ⟨uA, rfl, ho, hb⟩
            try replace HA := Lib.hid (HA.out.bl hb)
            try replace HRW := Lib.hid (HRW.out.bl hb)
            try replace HROW := Lib.hid (HROW.out.bl hb)
            try replace E3 := Lib.hid (E3.out.bl hb)
            try replace K3 := Lib.hid (K3.out.bl hb)
            try replace G3 := Lib.hid (G3.out.bl hb)
            try replace HRL := Lib.hid (HRL.out.bl hb)
            try replace HB := Lib.hid (HB.out.bl hb)
            try replace HS := Lib.hid (HS.out.bl hb)
            try replace K0 := Lib.hid (K0.out.bl hb)
            try replace E1 := Lib.hid (E1.out.bl hb)
            try replace HT := Lib.hid (HT.out.bl hb)
            try replace K2 := Lib.hid (K2.out.bl hb)
            try replace HRWr := Lib.hid (HRWr.out.bl hb)
            try replace HR := Lib.hid (HR.out.bl hb)
            try replace HE1 := Lib.hid (HE1.out.bl hb)
            try replace HNK := Lib.hid (HNK.out.bl hb)
            try replace HNG1 := Lib.hid (HNG1.out.bl hb)
            try replace HNG2 := Lib.hid (HNG2.out.bl hb)
            try replace HNG3 := Lib.hid (HNG3.out.bl hb)
            clear hb
            have HA := Lib.hid ho.is
            clear ho
            go_wp2_with fail
            refine (sameExt_any _ _ row row _ HA.out HR.out).mono ?_
            rintro e w8 ⟨rfl, hb⟩
            try replace HA := Lib.hid (HA.out.bl hb)
            try replace HRW := Lib.hid (HRW.out.bl hb)
            try replace HROW := Lib.hid (HROW.out.bl hb)
            try replace E3 := Lib.hid (E3.out.bl hb)
            try replace K3 := Lib.hid (K3.out.bl hb)
            try replace G3 := Lib.hid (G3.out.bl hb)
            try replace HRL := Lib.hid (HRL.out.bl hb)
            try replace HB := Lib.hid (HB.out.bl hb)
            try replace HS := Lib.hid (HS.out.bl hb)
            try replace K0 := Lib.hid (K0.out.bl hb)
            try replace E1 := Lib.hid (E1.out.bl hb)
            try replace HT := Lib.hid (HT.out.bl hb)
            try replace K2 := Lib.hid (K2.out.bl hb)
            try replace HRWr := Lib.hid (HRWr.out.bl hb)
            try replace HR := Lib.hid (HR.out.bl hb)
            try replace HE1 := Lib.hid (HE1.out.bl hb)
            try replace HNK := Lib.hid (HNK.out.bl hb)
            try replace HNG1 := Lib.hid (HNG1.out.bl hb)
            try replace HNG2 := Lib.hid (HNG2.out.bl hb)
            try replace HNG3 := Lib.hid (HNG3.out.bl hb)
            clear hb
            go_wp2_with fail
            go_roundg (6 - (k + 1))
            case measure => omega
            case rel => exact ⟨k + 1, S', t', by omega, rfl, by go_num, (congrArg (Value.int .i64) (by omega)), HNK, HNG1, HNG2, HNG3, by omega, by omega, HS, HR, HB⟩
        · have E7 := Lib.hid (end_range HG1.out (endM t.row + 1) (by omega) (by omega) (by omega))
          have E5 := Lib.hid (end_none HG3.out)
          have E1 := Lib.hid (end_undo S)
          rcases (show (k < hs.length ∧ ¬ k < 6) ∨ ¬ k < hs.length from by by_cases q : k < hs.length; exact .inl ⟨q, fun p => hlt ⟨q, p⟩⟩; exact .inr q) with ⟨hkl2, hk7⟩ | hkl2
          all_goals
            clear hlt
            go_wp2_with fail
            refine (sapply_any _ _ S (recS 1 (endM t.row + 1) (endM t.row + 1) []) _ HS.out (rec_is _ 3 1 (endM t.row + 1) (endM t.row + 1)) HK.out.1).mono ?_
            rintro e w4 ⟨⟨_, hx⟩, hb⟩
            obtain rfl := hx (by rw [E7.out]; decide)
            rw [E7.out]
            clear hx
            try replace HA := Lib.hid (HA.out.bl hb)
            try replace HRW := Lib.hid (HRW.out.bl hb)
            try replace HROW := Lib.hid (HROW.out.bl hb)
            try replace E3 := Lib.hid (E3.out.bl hb)
            try replace K3 := Lib.hid (K3.out.bl hb)
            try replace G3 := Lib.hid (G3.out.bl hb)
            try replace HRL := Lib.hid (HRL.out.bl hb)
            try replace HB := Lib.hid (HB.out.bl hb)
            try replace HS := Lib.hid (HS.out.bl hb)
            try replace K0 := Lib.hid (K0.out.bl hb)
            try replace E1 := Lib.hid (E1.out.bl hb)
            try replace HT := Lib.hid (HT.out.bl hb)
            try replace K2 := Lib.hid (K2.out.bl hb)
            try replace HRWr := Lib.hid (HRWr.out.bl hb)
            try replace HR := Lib.hid (HR.out.bl hb)
            try replace HE1 := Lib.hid (HE1.out.bl hb)
            try replace HNK := Lib.hid (HNK.out.bl hb)
            try replace HNG1 := Lib.hid (HNG1.out.bl hb)
            try replace HNG2 := Lib.hid (HNG2.out.bl hb)
            try replace HNG3 := Lib.hid (HNG3.out.bl hb)
            try replace E7 := Lib.hid (E7.out.bl hb)
            try replace E5 := Lib.hid (E5.out.bl hb)
            clear hb
            go_wp2_with fail
            refine (sapply_any _ _ S (recS 3 0 0 []) _ HS.out (rec_is _ 3 3 0 0) HK.out.1).mono ?_
            rintro e w5 ⟨⟨_, hx⟩, hb⟩
            obtain rfl := hx (by rw [E5.out]; decide)
            rw [E5.out]
            clear hx
            try replace HA := Lib.hid (HA.out.bl hb)
            try replace HRW := Lib.hid (HRW.out.bl hb)
            try replace HROW := Lib.hid (HROW.out.bl hb)
            try replace E3 := Lib.hid (E3.out.bl hb)
            try replace K3 := Lib.hid (K3.out.bl hb)
            try replace G3 := Lib.hid (G3.out.bl hb)
            try replace HRL := Lib.hid (HRL.out.bl hb)
            try replace HB := Lib.hid (HB.out.bl hb)
            try replace HS := Lib.hid (HS.out.bl hb)
            try replace K0 := Lib.hid (K0.out.bl hb)
            try replace E1 := Lib.hid (E1.out.bl hb)
            try replace HT := Lib.hid (HT.out.bl hb)
            try replace K2 := Lib.hid (K2.out.bl hb)
            try replace HRWr := Lib.hid (HRWr.out.bl hb)
            try replace HR := Lib.hid (HR.out.bl hb)
            try replace HE1 := Lib.hid (HE1.out.bl hb)
            try replace HNK := Lib.hid (HNK.out.bl hb)
            try replace HNG1 := Lib.hid (HNG1.out.bl hb)
            try replace HNG2 := Lib.hid (HNG2.out.bl hb)
            try replace HNG3 := Lib.hid (HNG3.out.bl hb)
            try replace E7 := Lib.hid (E7.out.bl hb)
            try replace E5 := Lib.hid (E5.out.bl hb)
            clear hb
            go_wp2_with fail
            refine (sapply_any _ _ S ⟨4, 0, 0, 0, []⟩ _ HS.out (rec_is _ 4 0 0 0) HK.out.1).mono ?_
            rintro e w6 ⟨⟨_, hx⟩, hb⟩
            obtain rfl := hx (by rw [E1.out]; decide)
            rw [E1.out]
            clear hx
            try replace HA := Lib.hid (HA.out.bl hb)
            try replace HRW := Lib.hid (HRW.out.bl hb)
            try replace HROW := Lib.hid (HROW.out.bl hb)
            try replace E3 := Lib.hid (E3.out.bl hb)
            try replace K3 := Lib.hid (K3.out.bl hb)
            try replace G3 := Lib.hid (G3.out.bl hb)
            try replace HRL := Lib.hid (HRL.out.bl hb)
            try replace HB := Lib.hid (HB.out.bl hb)
            try replace HS := Lib.hid (HS.out.bl hb)
            try replace K0 := Lib.hid (K0.out.bl hb)
            try replace E1 := Lib.hid (E1.out.bl hb)
            try replace HT := Lib.hid (HT.out.bl hb)
            try replace K2 := Lib.hid (K2.out.bl hb)
            try replace HRWr := Lib.hid (HRWr.out.bl hb)
            try replace HR := Lib.hid (HR.out.bl hb)
            try replace HE1 := Lib.hid (HE1.out.bl hb)
            try replace HNK := Lib.hid (HNK.out.bl hb)
            try replace HNG1 := Lib.hid (HNG1.out.bl hb)
            try replace HNG2 := Lib.hid (HNG2.out.bl hb)
            try replace HNG3 := Lib.hid (HNG3.out.bl hb)
            try replace E7 := Lib.hid (E7.out.bl hb)
            try replace E5 := Lib.hid (E5.out.bl hb)
            clear hb
            go_wp2_with fail
            refine (wakes21_any _).mono ?_
            rintro e w7 ⟨rfl, hb⟩
            go_wp2_with fail
            go_ret
            exact ⟨rfl, hb01.bl (HB.out.bl hb)⟩
end Go.Proofs.Ytddcjekkimajpaa.ExtW
