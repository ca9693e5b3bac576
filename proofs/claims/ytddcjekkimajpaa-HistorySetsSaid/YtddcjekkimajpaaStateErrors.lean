/- The walk of overdublaw21.StateErrors. -/
import Derived.Test.YtddcjekkimajpaaStateTracks
namespace Go.Proofs.Ytddcjekkimajpaa.ExtW
open Go.RowKit Go.Ov Go.Proofs.Ytddcjekkimajpaa.Need

def longE (i : Nat) : Ext := ⟨i, 1, 1, 0, 1⟩
def longL (k : Nat) : List Ext := (List.range k).map longE
theorem longL_succ (k : Nat) : longL (k + 1) = longL k ++ [longE k] := by simp [longL, List.range_succ]
theorem longL_len (k : Nat) : (longL k).length = k := by simp [longL]
theorem longL_end : ∀ k : Nat, endM (longL k) = k
  | 0 => rfl
  | k + 1 => by rw [longL_succ, endM_append, longL_end k]; simp [endM, longE]
theorem longL_valid : ∀ k : Nat, k ≤ 1000 → validFrom 0 (longL k) = true
  | 0, _ => rfl
  | k + 1, h => by
    rw [longL_succ, valid_append, longL_valid k (by omega), longL_end]
    simp [validFrom, longE, oneB]; omega
theorem splice_none_long (L : List Ext) (hv : validFrom 0 L = true) (he : endM L = 1000) : spliceM [] 0 0 L = (shiftM 0 L, 0) := by
  have h1 : spliceBad [] 0 0 L = false := by simp [spliceBad, hv, endM]
  have h2 : spliceLong [] 0 0 L = false := by unfold spliceLong; rw [he]; simp [endM]
  unfold spliceM
  rw [h1, h2]
  simp [spliceL, cutM, shiftM]
theorem splice_over (l : List Ext) (by_ : Int) (hl : endM l = 1000) (h0 : 0 ≤ by_) (h1 : by_ ≤ 1000) : spliceM l by_ by_ (longL 1) = ([], 4) := by
  have e1 : spliceBad l by_ by_ (longL 1) = false := by
    simp only [spliceBad, longL_valid 1 (by decide), hl]; simp; omega
  have e2 : spliceLong l by_ by_ (longL 1) = true := by unfold spliceLong; rw [longL_end, hl]; simp; omega
  unfold spliceM
  rw [e1, e2]; rfl
theorem longL_take (n : Nat) (h : 1 ≤ n) : (longL n).take 1 = longL 1 := by
  unfold longL
  rw [← List.map_take, List.take_range, Nat.min_eq_left h]
def recS (id fr tt : Int) (l : List Ext) : Rec := ⟨3, id, fr, tt, l⟩
theorem apply_S (s : StM) (id fr tt : Int) (l : List Ext) (h0 : 0 ≤ id) (h1 : id ≤ 99) (h2 : 0 ≤ fr) (h3 : fr ≤ tt) (h4 : tt ≤ 1000) (hv : validFrom 0 l = true) :
    applyR s (recS id fr tt l) = match getS s id with | none => ([], 5) | some t => applyT s (recS id fr tt l) t := by
  have e : validRec (recS id fr tt l) = true := by
    simp [validRec, recS, spliceB, trackB, h0, h1, h2, h3, h4, hv]
  unfold applyR
  rw [if_neg (by rw [e]; simp [recS]), if_neg (by simp [recS])]; rfl
def oneS (id : Int) : StM := putL [] id (treeM [])
theorem one_get (id j : Int) : getS (oneS id) j = if j = id then some (treeM []) else none := by unfold oneS; rw [put_get]; rfl
theorem one_ok (id : Int) (h0 : 0 ≤ id) (h1 : id ≤ 99) : SOK (oneS id) := by
  have hz := (apply_C [] id h0 h1).2.2 rfl (by decide)
  have := SOK.nil.apply (r := recC id) (by rw [hz])
  rwa [hz] at this
theorem one_long (L : List Ext) (hv : validFrom 0 L = true) (he : endM L = 1000) (id : Int) (h0 : 0 ≤ id) (h1 : id ≤ 99) : applyR (oneS id) (recS id 0 0 L) = (putL (oneS id) id (treeM (shiftM 0 L)), 0) := by
  rw [apply_S _ _ _ _ _ h0 h1 (by decide) (by decide) (by decide) hv, one_get, if_pos rfl]
  have e : spliceOf (treeM []) (recS id 0 0 L) = (shiftM 0 L, 0) := splice_none_long L hv he
  simp only [applyT]
  rw [if_neg (by simp [recS]), if_neg (show ¬ endM (treeM []).row < (recS id 0 0 L).fr by simp [treeM, endM, recS]), e, if_pos rfl]
  unfold putR
  rw [if_neg (show ¬ ((recS id 0 0 L).track < 0 ∨ 99 < (recS id 0 0 L).track) by simp [recS]; omega), if_neg]
  · rfl
  · have : (oneS id).length = 1 := by unfold oneS; rw [put_len]; rfl
    omega
theorem one_over (L : List Ext) (he : endM L = 1000) (id by_ : Int) (h0 : 0 ≤ id) (h1 : id ≤ 99) (h2 : 0 ≤ by_) (h3 : by_ ≤ 1000) : applyR (putL (oneS id) id (treeM (shiftM 0 L))) (recS id by_ by_ (longL 1)) = ([], 4) := by
  have hl : endM (shiftM 0 L) = 1000 := by rw [endM_shift, he]
  rw [apply_S _ _ _ _ _ h0 h1 h2 (Int.le_refl _) h3 (longL_valid 1 (by decide)), put_get, if_pos rfl]
  have e : spliceOf (treeM (shiftM 0 L)) (recS id by_ by_ (longL 1)) = ([], 4) := by
    unfold spliceOf
    show spliceM (shiftM 0 L) by_ (min by_ (endM (shiftM 0 L))) (longL 1) = _
    rw [hl, Int.min_eq_left h3]
    exact splice_over _ _ hl h2 h3
  simp only [applyT]
  rw [if_neg (by simp [recS]), if_neg (show ¬ endM (treeM (shiftM 0 L)).row < (recS id by_ by_ (longL 1)).fr by show ¬ endM (shiftM 0 L) < by_; rw [hl]; omega), e, if_neg (by decide)]
theorem one_range (id by_ : Int) (h0 : 0 ≤ id) (h1 : id ≤ 99) (h2 : 0 < by_) (h3 : by_ ≤ 1000) : applyR (oneS id) (recS id by_ by_ []) = ([], 7) := by
  rw [apply_S _ _ _ _ _ h0 h1 (by omega) (Int.le_refl _) h3 rfl, one_get, if_pos rfl]
  simp only [applyT]
  rw [if_neg (by simp [recS]), if_pos (show endM (treeM []).row < (recS id by_ by_ []).fr by show (0 : Int) < by_; exact h2)]
theorem one_else (id : Int) (h0 : 0 ≤ id) (h1 : id ≤ 98) : applyR (oneS id) (recS (id + 1) 0 0 []) = ([], 5) := by
  rw [apply_S _ _ _ _ _ (by omega) (by omega) (by decide) (by decide) (by decide) rfl, one_get, if_neg (by omega)]
theorem any_bad (s : StM) : applyR s (recC 100) = ([], 1) ∧ applyR s ⟨5, 0, 0, 0, []⟩ = ([], 1) := by
  constructor
  · unfold applyR
    rw [if_pos (.inl (by simp [validRec, recC, trackB, noneB]))]
  · unfold applyR
    rw [if_pos (.inr (by decide))]
theorem one_again (id : Int) (h0 : 0 ≤ id) (h1 : id ≤ 99) : applyR (oneS id) (recC id) = ([], 6) := (apply_C _ id h0 h1).1 (by rw [one_get, if_pos rfl]; simp)
theorem long_ok (L : List Ext) (hv : validFrom 0 L = true) (he : endM L = 1000) (id : Int) (h0 : 0 ≤ id) (h1 : id ≤ 99) : SOK (putL (oneS id) id (treeM (shiftM 0 L))) := by
  have := (one_ok id h0 h1).apply (r := recS id 0 0 L) (by rw [one_long L hv he id h0 h1])
  rwa [one_long L hv he id h0 h1] at this

set_option maxRecDepth 100000 in
set_option maxHeartbeats 4000000 in
theorem errors_walk (a0 a1 : Int) (w : World) (_ : -9223372036854775808 ≤ a0 ∧ a0 ≤ 9223372036854775807) (_ : -9223372036854775808 ≤ a1 ∧ a1 ≤ 9223372036854775807) :
    Calls Try.prog 4 #[.int .i64 a0, .int .i64 a1] w fun e w' => e = .returned (.bool true) ∧ Bl w w' := by
  have hb0 := within_bd a0 90 (by decide)
  have hb1 := within_bd a1 40 (by decide)
  obtain ⟨nm, hnm⟩ : ∃ nm, nm = within a0 90 := ⟨_, rfl⟩
  obtain ⟨at_, hat⟩ : ∃ at_, at_ = within a1 40 := ⟨_, rfl⟩
  rw [← hnm] at hb0
  rw [← hat] at hb1
  obtain ⟨i0, i1⟩ := hb0
  obtain ⟨y0, y1⟩ := hb1
  have HNM := Lib.hid hnm
  have HAT := Lib.hid hat
  have E1 := Lib.hid (show applyR [] (recC nm) = (oneS nm, 0) from (apply_C [] nm i0 (by omega)).2.2 rfl (by decide))
  have lv := longL_valid 1000 (by decide)
  have le := longL_end 1000
  obtain ⟨L, hLL⟩ : ∃ L, L = longL 1000 := ⟨_, rfl⟩
  rw [← hLL] at lv le
  have le2 : endM L = 1000 := le
  have HLL := Lib.hid hLL
  have HLV := Lib.hid lv
  clear hLL le
  have E2 := Lib.hid (one_long L lv le2 nm i0 (by omega))
  have E3 := Lib.hid (one_over L le2 nm at_ i0 (by omega) y0 (by omega))
  have E4 := Lib.hid (one_range nm (1 + at_) i0 (by omega) (by omega) (by omega))
  have E5 := Lib.hid (one_else nm i0 (by omega))
  have E6 := Lib.hid (one_again nm i0 (by omega))
  have K1 := Lib.hid (one_ok nm i0 (by omega))
  have K2 := Lib.hid (long_ok L lv le2 nm i0 (by omega))
  have K0 := Lib.hid SOK.nil
  have G2 := Lib.hid (show getS (putL (oneS nm) nm (treeM (shiftM 0 L))) nm = some (treeM (shiftM 0 L)) by rw [put_get, if_pos rfl])
  have L2 := Lib.hid (show endM (treeM (shiftM 0 L)).row = 1000 by show endM (shiftM 0 L) = 1000; rw [endM_shift]; exact le2)
  generalize hU : putL (oneS nm) nm (treeM (shiftM 0 L)) = U at E2 E3 K2 G2
  clear hnm hat hU lv le2
  have HB := Lib.hid (Bl.refl w)
  have hu := Try.underlying33
  go_enter Try.func4, Try.ntmps4
  go_wp2_with fail
  refine (snew_any _).mono ?_
  rintro e w1 ⟨s0, rfl, hs, hb⟩
  try replace HNM := Lib.hid (HNM.out.bl hb)
  try replace HAT := Lib.hid (HAT.out.bl hb)
  try replace E1 := Lib.hid (E1.out.bl hb)
  try replace HLL := Lib.hid (HLL.out.bl hb)
  try replace HLV := Lib.hid (HLV.out.bl hb)
  try replace E2 := Lib.hid (E2.out.bl hb)
  try replace E3 := Lib.hid (E3.out.bl hb)
  try replace E4 := Lib.hid (E4.out.bl hb)
  try replace E5 := Lib.hid (E5.out.bl hb)
  try replace E6 := Lib.hid (E6.out.bl hb)
  try replace K1 := Lib.hid (K1.out.bl hb)
  try replace K2 := Lib.hid (K2.out.bl hb)
  try replace K0 := Lib.hid (K0.out.bl hb)
  try replace G2 := Lib.hid (G2.out.bl hb)
  try replace L2 := Lib.hid (L2.out.bl hb)
  try replace HB := Lib.hid (HB.out.bl hb)
  clear hb
  obtain ⟨b0, _, _, rfl, _⟩ := id hs
  have HS := Lib.hid hs
  clear hs
  go_wp2_with fail
  refine (within_any _ _ _ (by decide)).mono ?_
  rintro e w2 ⟨rfl, rfl⟩
  rw [← HNM.out]
  go_wp2_with fail
  refine (within_any _ _ _ (by decide)).mono ?_
  rintro e w2 ⟨rfl, rfl⟩
  rw [← HAT.out]
  go_wp2_with fail
  refine (sapply_any _ _ [] (recC nm) _ HS.out (rec_is _ 1 nm 0 0) K0.out.1).mono ?_
  rintro e w3 ⟨⟨hx, _⟩, hb⟩
  obtain ⟨T, rfl, hst⟩ := hx (by rw [E1.out])
  rw [E1.out] at hst
  obtain ⟨bT, _, _, rfl, _⟩ := id hst
  clear hx
  try replace HNM := Lib.hid (HNM.out.bl hb)
  try replace HAT := Lib.hid (HAT.out.bl hb)
  try replace E1 := Lib.hid (E1.out.bl hb)
  try replace HLL := Lib.hid (HLL.out.bl hb)
  try replace HLV := Lib.hid (HLV.out.bl hb)
  try replace E2 := Lib.hid (E2.out.bl hb)
  try replace E3 := Lib.hid (E3.out.bl hb)
  try replace E4 := Lib.hid (E4.out.bl hb)
  try replace E5 := Lib.hid (E5.out.bl hb)
  try replace E6 := Lib.hid (E6.out.bl hb)
  try replace K1 := Lib.hid (K1.out.bl hb)
  try replace K2 := Lib.hid (K2.out.bl hb)
  try replace K0 := Lib.hid (K0.out.bl hb)
  try replace G2 := Lib.hid (G2.out.bl hb)
  try replace L2 := Lib.hid (L2.out.bl hb)
  try replace HB := Lib.hid (HB.out.bl hb)
  try replace HS := Lib.hid (HS.out.bl hb)
  clear hb
  have HT := Lib.hid hst
  clear hst
  go_wp2_with fail
  obtain ⟨wo, hwo⟩ : ∃ wo : World, wo = w3 := ⟨_, rfl⟩
  have HK := Lib.hid (Blk.new w3 #[.int .i64 3, .int .i64 nm, .int .i64 0, .int .i64 0, .slice none 0 0] 33)
  clear hwo
  go_loopg [9] 1000 (fun g i wr => ∃ (k : Nat) (lv : Value), k ≤ 1000 ∧ g = 1000 - k ∧ i = .int .i64 k ∧ Hid (Blk wr w3.heap.size #[.int .i64 3, .int .i64 nm, .int .i64 0, .int .i64 0, lv] 33) ∧ Hid (extE.Own 38 wr (w3.heap.size + 1) lv (longL k)) ∧ Hid (Bl w3 wr))
  case atStart => exact ⟨0, .slice none 0 0, by omega, rfl, rfl, HK, Lib.hid (Enc.Own.nil _ _ _), Lib.hid ((Bl.refl _).alloc _)⟩
  case round =>
    clear HK
    obtain ⟨k, lv, hk, rfl, rfl, HK, HO, HD⟩ := hrel
    obtain ⟨A, c, rfl⟩ := HO.out.slice
    have d0 := HK.out.cell 0
    have d1 := HK.out.cell 1
    have d2 := HK.out.cell 2
    have d3 := HK.out.cell 3
    have d4 := HK.out.cell 4
    simp at d0 d1 d2 d3 d4
    have f4 := HK.out.frozen 4
    have flt := HK.out.lt
    by_cases hlt : k < 1000
    · have hls := Lib.hid (longL_succ k)
      have hll := Lib.hid (longL_len k)
      have hki : (k : Int) < 1000 := by omega
      generalize longL k = xs at *
      go_wp2_with (at_builtin; refine Enc.Own.append1 (E := extE) rfl (.tmp 54) (.tmp 57) 31 rfl (w3.heap.size + 1) 38 (.agg #[.int .i64 0, .int .i64 0, .int .i64 0, .int .i64 0, .int .i64 0]) 5 40 Try.underlying31 infoExt rfl rfl (by decide) (by decide) (.slice A xs.length c) xs rfl HO.out ⟨k, 1, 1, 0, 1⟩ _ rfl rfl rfl ?hlen ?hbase ?_; (case hlen => have := hll.out; omega); (case hbase => exact flt); intro v1 w4 ho hg; obtain ⟨A5, c5, rfl⟩ := ho.slice; have hne : (Value.slice A xs.length c).ownBlock ≠ some w3.heap.size := (fun he => by have := (Enc.Own.lt HO.out _ he).1; omega); have HK4 := Lib.hid ((HK.out.bl ((Bl.refl _).alloc _)).grown hg hne); have e4 := HK4.out.cell 4; simp at e4; have e5 := HK4.out.frozen 4; have e6 := HK4.out.lt; clear hne)
      have HD4 := Lib.hid (((HD.out.alloc _).grown hg (fun k hk => by have := (Enc.Own.lt HO.out k hk).1; omega)))
      have HO4 := Lib.hid ho
      clear ho hg e4 e5 e6
      go_roundg (1000 - (k + 1))
      case measure => omega
      case rel =>
        refine ⟨k + 1, _, by omega, rfl, by go_num, Lib.hid (HK4.out.set 4 _), Lib.hid ?_, Lib.hid (Bl.set HD4.out _ _ _ (Nat.le_refl _))⟩
        have h1 := Enc.Own.set HO4.out w3.heap.size 4 (.slice A5 (xs ++ [(⟨k, 1, 1, 0, 1⟩ : Ext)]).length c5) (Nat.lt_succ_self _)
        rw [hls.out]
        simpa [longE] using h1
    · have hke : k = 1000 := by omega
      have HO2 := Lib.hid (show extE.Own 38 wr (w3.heap.size + 1) (.slice A (longL k).length c) L from by rw [HLL.out, ← hke]; exact HO.out)
      have hll : (longL k).length = 1000 := by rw [longL_len]; exact hke
      have HLEN := Lib.hid hll
      have hLl : L.length = 1000 := by rw [HLL.out, longL_len]
      obtain ⟨g, rfl⟩ : ∃ g, A = some ⟨g, 0, none⟩ := by
        rcases HO2.out.parts with ⟨e0, h0⟩ | ⟨g, c', e', _⟩
        · omega
        · simp at e'; exact ⟨g, e'.1⟩
      rw [hll] at d4 HO2 HK
      have HL1 := Lib.hid (show extE.Is wr (.slice (some ⟨g, 0, none⟩) 1 c) (longL 1) from by
        have h := Enc.Is.take (c := c) (l := L) (A := some ⟨g, 0, none⟩) (by rw [hLl]; exact HO2.out.is) 1
        rw [hLl] at h
        rw [HLL.out, longL_take 1000 (by decide)] at h
        exact h)
      have hc1 : 1000 ≤ c := HO2.out.blk.2.2.1
      have hc2 : (1 : Int) ≤ c := by omega
      have hb := HD.out
      clear hll hLl hke HO flt f4
      try replace HNM := Lib.hid (HNM.out.bl hb)
      try replace HAT := Lib.hid (HAT.out.bl hb)
      try replace E1 := Lib.hid (E1.out.bl hb)
      try replace HLL := Lib.hid (HLL.out.bl hb)
      try replace HLV := Lib.hid (HLV.out.bl hb)
      try replace E2 := Lib.hid (E2.out.bl hb)
      try replace E3 := Lib.hid (E3.out.bl hb)
      try replace E4 := Lib.hid (E4.out.bl hb)
      try replace E5 := Lib.hid (E5.out.bl hb)
      try replace E6 := Lib.hid (E6.out.bl hb)
      try replace K1 := Lib.hid (K1.out.bl hb)
      try replace K2 := Lib.hid (K2.out.bl hb)
      try replace K0 := Lib.hid (K0.out.bl hb)
      try replace G2 := Lib.hid (G2.out.bl hb)
      try replace L2 := Lib.hid (L2.out.bl hb)
      try replace HB := Lib.hid (HB.out.bl hb)
      try replace HS := Lib.hid (HS.out.bl hb)
      try replace HT := Lib.hid (HT.out.bl hb)
      try replace HK := Lib.hid (HK.out.bl hb)
      try replace hls := Lib.hid (hls.out.bl hb)
      try replace hll := Lib.hid (hll.out.bl hb)
      try replace HK4 := Lib.hid (HK4.out.bl hb)
      try replace HD4 := Lib.hid (HD4.out.bl hb)
      try replace HO4 := Lib.hid (HO4.out.bl hb)
      try replace HO2 := Lib.hid (HO2.out.bl hb)
      try replace HLEN := Lib.hid (HLEN.out.bl hb)
      try replace HL1 := Lib.hid (HL1.out.bl hb)
      clear hb
      go_wp2_with fail
      refine (sapply_any _ _ (oneS nm) (recS nm 0 0 L) _ HT.out ⟨_, rfl, HO2.out.is⟩ K1.out.1).mono ?_
      rintro e w5 ⟨⟨hx, _⟩, hb⟩
      obtain ⟨V, rfl, hst⟩ := hx (by rw [E2.out])
      rw [E2.out] at hst
      obtain ⟨bV, _, _, rfl, _⟩ := id hst
      clear hx
      try replace HNM := Lib.hid (HNM.out.bl hb)
      try replace HAT := Lib.hid (HAT.out.bl hb)
      try replace E1 := Lib.hid (E1.out.bl hb)
      try replace HLL := Lib.hid (HLL.out.bl hb)
      try replace HLV := Lib.hid (HLV.out.bl hb)
      try replace E2 := Lib.hid (E2.out.bl hb)
      try replace E3 := Lib.hid (E3.out.bl hb)
      try replace E4 := Lib.hid (E4.out.bl hb)
      try replace E5 := Lib.hid (E5.out.bl hb)
      try replace E6 := Lib.hid (E6.out.bl hb)
      try replace K1 := Lib.hid (K1.out.bl hb)
      try replace K2 := Lib.hid (K2.out.bl hb)
      try replace K0 := Lib.hid (K0.out.bl hb)
      try replace G2 := Lib.hid (G2.out.bl hb)
      try replace L2 := Lib.hid (L2.out.bl hb)
      try replace HB := Lib.hid (HB.out.bl hb)
      try replace HS := Lib.hid (HS.out.bl hb)
      try replace HT := Lib.hid (HT.out.bl hb)
      try replace HK := Lib.hid (HK.out.bl hb)
      try replace hls := Lib.hid (hls.out.bl hb)
      try replace hll := Lib.hid (hll.out.bl hb)
      try replace HK4 := Lib.hid (HK4.out.bl hb)
      try replace HD4 := Lib.hid (HD4.out.bl hb)
      try replace HO4 := Lib.hid (HO4.out.bl hb)
      try replace HO2 := Lib.hid (HO2.out.bl hb)
      try replace HLEN := Lib.hid (HLEN.out.bl hb)
      try replace HL1 := Lib.hid (HL1.out.bl hb)
      clear hb
      have HV := Lib.hid hst
      clear hst
      have d4 := HK.out.cell 4
      simp at d4
      go_wp2_with fail
      refine (sapply_any _ _ U (recS nm at_ at_ (longL 1)) _ (HV.out.bl ((Bl.refl _).alloc _)) ⟨_, rfl, HL1.out.bl ((Bl.refl _).alloc _)⟩ K2.out.1).mono ?_
      rintro e w6 ⟨⟨_, hx⟩, hb0⟩
      obtain rfl := hx (by rw [E3.out]; decide)
      rw [E3.out]
      have hb := Bl.bl ((Bl.refl w5).alloc (.cells #[.int .i64 3, .int .i64 nm, .int .i64 at_, .int .i64 at_, .slice (some ⟨g, 0, none⟩) 1 c] 33)) hb0
      clear hx hb0 d4
      try replace HNM := Lib.hid (HNM.out.bl hb)
      try replace HAT := Lib.hid (HAT.out.bl hb)
      try replace E1 := Lib.hid (E1.out.bl hb)
      try replace HLL := Lib.hid (HLL.out.bl hb)
      try replace HLV := Lib.hid (HLV.out.bl hb)
      try replace E2 := Lib.hid (E2.out.bl hb)
      try replace E3 := Lib.hid (E3.out.bl hb)
      try replace E4 := Lib.hid (E4.out.bl hb)
      try replace E5 := Lib.hid (E5.out.bl hb)
      try replace E6 := Lib.hid (E6.out.bl hb)
      try replace K1 := Lib.hid (K1.out.bl hb)
      try replace K2 := Lib.hid (K2.out.bl hb)
      try replace K0 := Lib.hid (K0.out.bl hb)
      try replace G2 := Lib.hid (G2.out.bl hb)
      try replace L2 := Lib.hid (L2.out.bl hb)
      try replace HB := Lib.hid (HB.out.bl hb)
      try replace HS := Lib.hid (HS.out.bl hb)
      try replace HT := Lib.hid (HT.out.bl hb)
      try replace HK := Lib.hid (HK.out.bl hb)
      try replace hls := Lib.hid (hls.out.bl hb)
      try replace hll := Lib.hid (hll.out.bl hb)
      try replace HK4 := Lib.hid (HK4.out.bl hb)
      try replace HD4 := Lib.hid (HD4.out.bl hb)
      try replace HO4 := Lib.hid (HO4.out.bl hb)
      try replace HO2 := Lib.hid (HO2.out.bl hb)
      try replace HLEN := Lib.hid (HLEN.out.bl hb)
      try replace HL1 := Lib.hid (HL1.out.bl hb)
      try replace HV := Lib.hid (HV.out.bl hb)
      clear hb
      go_wp2_with fail
      refine (sapply_any _ _ (oneS nm) (recS nm (1 + at_) (1 + at_) []) _ HT.out (rec_is _ 3 nm (1 + at_) (1 + at_)) K1.out.1).mono ?_
      rintro e w7 ⟨⟨_, hx⟩, hb⟩
      obtain rfl := hx (by rw [E4.out]; decide)
      rw [E4.out]
      clear hx
      try replace HNM := Lib.hid (HNM.out.bl hb)
      try replace HAT := Lib.hid (HAT.out.bl hb)
      try replace E1 := Lib.hid (E1.out.bl hb)
      try replace HLL := Lib.hid (HLL.out.bl hb)
      try replace HLV := Lib.hid (HLV.out.bl hb)
      try replace E2 := Lib.hid (E2.out.bl hb)
      try replace E3 := Lib.hid (E3.out.bl hb)
      try replace E4 := Lib.hid (E4.out.bl hb)
      try replace E5 := Lib.hid (E5.out.bl hb)
      try replace E6 := Lib.hid (E6.out.bl hb)
      try replace K1 := Lib.hid (K1.out.bl hb)
      try replace K2 := Lib.hid (K2.out.bl hb)
      try replace K0 := Lib.hid (K0.out.bl hb)
      try replace G2 := Lib.hid (G2.out.bl hb)
      try replace L2 := Lib.hid (L2.out.bl hb)
      try replace HB := Lib.hid (HB.out.bl hb)
      try replace HS := Lib.hid (HS.out.bl hb)
      try replace HT := Lib.hid (HT.out.bl hb)
      try replace HK := Lib.hid (HK.out.bl hb)
      try replace hls := Lib.hid (hls.out.bl hb)
      try replace hll := Lib.hid (hll.out.bl hb)
      try replace HK4 := Lib.hid (HK4.out.bl hb)
      try replace HD4 := Lib.hid (HD4.out.bl hb)
      try replace HO4 := Lib.hid (HO4.out.bl hb)
      try replace HO2 := Lib.hid (HO2.out.bl hb)
      try replace HLEN := Lib.hid (HLEN.out.bl hb)
      try replace HL1 := Lib.hid (HL1.out.bl hb)
      try replace HV := Lib.hid (HV.out.bl hb)
      clear hb
      go_wp2_with fail
      refine (sapply_any _ _ (oneS nm) (recS (nm + 1) 0 0 []) _ HT.out (rec_is _ 3 (nm + 1) 0 0) K1.out.1).mono ?_
      rintro e w8 ⟨⟨_, hx⟩, hb⟩
      obtain rfl := hx (by rw [E5.out]; decide)
      rw [E5.out]
      clear hx
      try replace HNM := Lib.hid (HNM.out.bl hb)
      try replace HAT := Lib.hid (HAT.out.bl hb)
      try replace E1 := Lib.hid (E1.out.bl hb)
      try replace HLL := Lib.hid (HLL.out.bl hb)
      try replace HLV := Lib.hid (HLV.out.bl hb)
      try replace E2 := Lib.hid (E2.out.bl hb)
      try replace E3 := Lib.hid (E3.out.bl hb)
      try replace E4 := Lib.hid (E4.out.bl hb)
      try replace E5 := Lib.hid (E5.out.bl hb)
      try replace E6 := Lib.hid (E6.out.bl hb)
      try replace K1 := Lib.hid (K1.out.bl hb)
      try replace K2 := Lib.hid (K2.out.bl hb)
      try replace K0 := Lib.hid (K0.out.bl hb)
      try replace G2 := Lib.hid (G2.out.bl hb)
      try replace L2 := Lib.hid (L2.out.bl hb)
      try replace HB := Lib.hid (HB.out.bl hb)
      try replace HS := Lib.hid (HS.out.bl hb)
      try replace HT := Lib.hid (HT.out.bl hb)
      try replace HK := Lib.hid (HK.out.bl hb)
      try replace hls := Lib.hid (hls.out.bl hb)
      try replace hll := Lib.hid (hll.out.bl hb)
      try replace HK4 := Lib.hid (HK4.out.bl hb)
      try replace HD4 := Lib.hid (HD4.out.bl hb)
      try replace HO4 := Lib.hid (HO4.out.bl hb)
      try replace HO2 := Lib.hid (HO2.out.bl hb)
      try replace HLEN := Lib.hid (HLEN.out.bl hb)
      try replace HL1 := Lib.hid (HL1.out.bl hb)
      try replace HV := Lib.hid (HV.out.bl hb)
      clear hb
      go_wp2_with fail
      refine (sapply_any _ _ (oneS nm) (recC nm) _ HT.out (rec_is _ 1 nm 0 0) K1.out.1).mono ?_
      rintro e w9 ⟨⟨_, hx⟩, hb⟩
      obtain rfl := hx (by rw [E6.out]; decide)
      rw [E6.out]
      clear hx
      try replace HNM := Lib.hid (HNM.out.bl hb)
      try replace HAT := Lib.hid (HAT.out.bl hb)
      try replace E1 := Lib.hid (E1.out.bl hb)
      try replace HLL := Lib.hid (HLL.out.bl hb)
      try replace HLV := Lib.hid (HLV.out.bl hb)
      try replace E2 := Lib.hid (E2.out.bl hb)
      try replace E3 := Lib.hid (E3.out.bl hb)
      try replace E4 := Lib.hid (E4.out.bl hb)
      try replace E5 := Lib.hid (E5.out.bl hb)
      try replace E6 := Lib.hid (E6.out.bl hb)
      try replace K1 := Lib.hid (K1.out.bl hb)
      try replace K2 := Lib.hid (K2.out.bl hb)
      try replace K0 := Lib.hid (K0.out.bl hb)
      try replace G2 := Lib.hid (G2.out.bl hb)
      try replace L2 := Lib.hid (L2.out.bl hb)
      try replace HB := Lib.hid (HB.out.bl hb)
      try replace HS := Lib.hid (HS.out.bl hb)
      try replace HT := Lib.hid (HT.out.bl hb)
      try replace HK := Lib.hid (HK.out.bl hb)
      try replace hls := Lib.hid (hls.out.bl hb)
      try replace hll := Lib.hid (hll.out.bl hb)
      try replace HK4 := Lib.hid (HK4.out.bl hb)
      try replace HD4 := Lib.hid (HD4.out.bl hb)
      try replace HO4 := Lib.hid (HO4.out.bl hb)
      try replace HO2 := Lib.hid (HO2.out.bl hb)
      try replace HLEN := Lib.hid (HLEN.out.bl hb)
      try replace HL1 := Lib.hid (HL1.out.bl hb)
      try replace HV := Lib.hid (HV.out.bl hb)
      clear hb
      go_wp2_with fail
      refine (sapply_any _ _ (oneS nm) (recC 100) _ HT.out (rec_is _ 1 100 0 0) K1.out.1).mono ?_
      rintro e w10 ⟨⟨_, hx⟩, hb⟩
      obtain rfl := hx (by rw [(any_bad (oneS nm)).1]; decide)
      rw [(any_bad (oneS nm)).1]
      clear hx
      try replace HNM := Lib.hid (HNM.out.bl hb)
      try replace HAT := Lib.hid (HAT.out.bl hb)
      try replace E1 := Lib.hid (E1.out.bl hb)
      try replace HLL := Lib.hid (HLL.out.bl hb)
      try replace HLV := Lib.hid (HLV.out.bl hb)
      try replace E2 := Lib.hid (E2.out.bl hb)
      try replace E3 := Lib.hid (E3.out.bl hb)
      try replace E4 := Lib.hid (E4.out.bl hb)
      try replace E5 := Lib.hid (E5.out.bl hb)
      try replace E6 := Lib.hid (E6.out.bl hb)
      try replace K1 := Lib.hid (K1.out.bl hb)
      try replace K2 := Lib.hid (K2.out.bl hb)
      try replace K0 := Lib.hid (K0.out.bl hb)
      try replace G2 := Lib.hid (G2.out.bl hb)
      try replace L2 := Lib.hid (L2.out.bl hb)
      try replace HB := Lib.hid (HB.out.bl hb)
      try replace HS := Lib.hid (HS.out.bl hb)
      try replace HT := Lib.hid (HT.out.bl hb)
      try replace HK := Lib.hid (HK.out.bl hb)
      try replace hls := Lib.hid (hls.out.bl hb)
      try replace hll := Lib.hid (hll.out.bl hb)
      try replace HK4 := Lib.hid (HK4.out.bl hb)
      try replace HD4 := Lib.hid (HD4.out.bl hb)
      try replace HO4 := Lib.hid (HO4.out.bl hb)
      try replace HO2 := Lib.hid (HO2.out.bl hb)
      try replace HLEN := Lib.hid (HLEN.out.bl hb)
      try replace HL1 := Lib.hid (HL1.out.bl hb)
      try replace HV := Lib.hid (HV.out.bl hb)
      clear hb
      go_wp2_with fail
      refine (sapply_any _ _ (oneS nm) ⟨5, 0, 0, 0, []⟩ _ HT.out (rec_is _ 5 0 0 0) K1.out.1).mono ?_
      rintro e w11 ⟨⟨_, hx⟩, hb⟩
      obtain rfl := hx (by rw [(any_bad (oneS nm)).2]; decide)
      rw [(any_bad (oneS nm)).2]
      clear hx
      try replace HNM := Lib.hid (HNM.out.bl hb)
      try replace HAT := Lib.hid (HAT.out.bl hb)
      try replace E1 := Lib.hid (E1.out.bl hb)
      try replace HLL := Lib.hid (HLL.out.bl hb)
      try replace HLV := Lib.hid (HLV.out.bl hb)
      try replace E2 := Lib.hid (E2.out.bl hb)
      try replace E3 := Lib.hid (E3.out.bl hb)
      try replace E4 := Lib.hid (E4.out.bl hb)
      try replace E5 := Lib.hid (E5.out.bl hb)
      try replace E6 := Lib.hid (E6.out.bl hb)
      try replace K1 := Lib.hid (K1.out.bl hb)
      try replace K2 := Lib.hid (K2.out.bl hb)
      try replace K0 := Lib.hid (K0.out.bl hb)
      try replace G2 := Lib.hid (G2.out.bl hb)
      try replace L2 := Lib.hid (L2.out.bl hb)
      try replace HB := Lib.hid (HB.out.bl hb)
      try replace HS := Lib.hid (HS.out.bl hb)
      try replace HT := Lib.hid (HT.out.bl hb)
      try replace HK := Lib.hid (HK.out.bl hb)
      try replace hls := Lib.hid (hls.out.bl hb)
      try replace hll := Lib.hid (hll.out.bl hb)
      try replace HK4 := Lib.hid (HK4.out.bl hb)
      try replace HD4 := Lib.hid (HD4.out.bl hb)
      try replace HO4 := Lib.hid (HO4.out.bl hb)
      try replace HO2 := Lib.hid (HO2.out.bl hb)
      try replace HLEN := Lib.hid (HLEN.out.bl hb)
      try replace HL1 := Lib.hid (HL1.out.bl hb)
      try replace HV := Lib.hid (HV.out.bl hb)
      clear hb
      go_wp2_with fail
      refine (slength_any _ U nm _ HV.out K2.out.1.2).mono ?_
      rintro e w12 ⟨⟨_, hx⟩, hb⟩
      obtain rfl := hx _ G2.out
      rw [L2.out]
      clear hx
      try replace HNM := Lib.hid (HNM.out.bl hb)
      try replace HAT := Lib.hid (HAT.out.bl hb)
      try replace E1 := Lib.hid (E1.out.bl hb)
      try replace HLL := Lib.hid (HLL.out.bl hb)
      try replace HLV := Lib.hid (HLV.out.bl hb)
      try replace E2 := Lib.hid (E2.out.bl hb)
      try replace E3 := Lib.hid (E3.out.bl hb)
      try replace E4 := Lib.hid (E4.out.bl hb)
      try replace E5 := Lib.hid (E5.out.bl hb)
      try replace E6 := Lib.hid (E6.out.bl hb)
      try replace K1 := Lib.hid (K1.out.bl hb)
      try replace K2 := Lib.hid (K2.out.bl hb)
      try replace K0 := Lib.hid (K0.out.bl hb)
      try replace G2 := Lib.hid (G2.out.bl hb)
      try replace L2 := Lib.hid (L2.out.bl hb)
      try replace HB := Lib.hid (HB.out.bl hb)
      try replace HS := Lib.hid (HS.out.bl hb)
      try replace HT := Lib.hid (HT.out.bl hb)
      try replace HK := Lib.hid (HK.out.bl hb)
      try replace hls := Lib.hid (hls.out.bl hb)
      try replace hll := Lib.hid (hll.out.bl hb)
      try replace HK4 := Lib.hid (HK4.out.bl hb)
      try replace HD4 := Lib.hid (HD4.out.bl hb)
      try replace HO4 := Lib.hid (HO4.out.bl hb)
      try replace HO2 := Lib.hid (HO2.out.bl hb)
      try replace HLEN := Lib.hid (HLEN.out.bl hb)
      try replace HL1 := Lib.hid (HL1.out.bl hb)
      try replace HV := Lib.hid (HV.out.bl hb)
      clear hb
      go_wp2_with fail
      refine (wakes21_any _).mono ?_
      rintro e w13 ⟨rfl, hb⟩
      go_wp2_with fail
      go_ret
      exact ⟨rfl, HB.out.bl hb⟩
end Go.Proofs.Ytddcjekkimajpaa.ExtW
