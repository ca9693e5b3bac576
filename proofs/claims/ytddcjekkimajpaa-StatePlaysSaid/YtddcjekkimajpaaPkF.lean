/- Several texts joined (see each one's head). -/
import Derived.Test.YtddcjekkimajpaaPkC
import Derived.Test.YtddcjekkimajpaaPkE
import Derived.Test.YtddcjekkimajpaaPkA
import Derived.Test.YtddcjekkimajpaaShelf
import Derived.Lib.SlicesCompact
/- Contract of overdubkeep.Same at int. -/
namespace Go.Proofs.Ytddcjekkimajpaa.ExtW
open Go.RowKit Go.Ov Go.Proofs.Ytddcjekkimajpaa.Need

set_option maxRecDepth 100000 in
set_option maxHeartbeats 1000000 in
theorem sameInt_any (v u : Value) (a b : List Int) (w : World) (h : intE.Is w v a) (h' : intE.Is w u b) :
    Calls Try.prog 43 #[v, u] w fun e w' => e = .returned (.bool (decide (a = b))) ∧ Bl w w' := by
  obtain ⟨A, c, rfl, h1, h2, h3, h4⟩ := h
  obtain ⟨A', c', rfl, h1', h2', h3', h4'⟩ := h'
  have HA := Lib.hid h4
  have HA' := Lib.hid h4'
  have hl : a.length ≤ 9223372036854775807 := by unfold maxLen at h2; omega
  have hl' : b.length ≤ 9223372036854775807 := by unfold maxLen at h2'; omega
  clear h1 h2 h3 h4 h1' h2' h3' h4'
  by_cases hlen : a.length = b.length
  · go_enter Try.func43, Try.ntmps43
    go_wp2
    have HL := Lib.hid hlen
    clear hlen
    go_loopg [5] b.length (fun g i wr => ∃ k : Nat, k ≤ b.length ∧ g = b.length - k ∧ i = .int .i64 k ∧ Hid (a.take k = b.take k) ∧ Bl w wr)
    case atStart => exact ⟨0, by omega, rfl, rfl, Lib.hid rfl, Bl.refl _⟩
    case round =>
      obtain ⟨k, hk, rfl, rfl, heq, hbl⟩ := hrel
      have HB := Lib.hid hbl
      clear hbl
      by_cases hlt : k < b.length
      · have hlta : k < a.length := by have := HL.out; omega
        have hlti : (k : Int) < a.length := by omega
        obtain ⟨ad, rfl, c0⟩ := int_at (HA.out.bl HB.out) k hlta
        obtain ⟨ad', rfl, d0⟩ := int_at (HA'.out.bl HB.out) k hlt
        have ta := Lib.hid (List.take_succ_eq_append_getElem hlta)
        have tb := Lib.hid (List.take_succ_eq_append_getElem hlt)
        have hne := Lib.hid (fun h : a = b => show a[k]'hlta = b[k]'hlt by simp [h])
        generalize a[k] = x at *
        generalize b[k] = y at *
        go_wp2_with fail
        go_quiet (fail)
        by_cases hq : x = y
        rotate_left
        · have hb : (x != y) = true := by simp [hq]
          have HQ := Lib.hid hq
          clear hq
          go_wp2
          go_ret
          refine ⟨ret_bool ?_, HB.out.drewN _⟩
          symm; rw [decide_eq_false_iff_not]
          intro h; exact HQ.out (hne.out h)
        · have hb : (x != y) = false := by simp [hq]
          have HQ := Lib.hid hq
          clear hq
          go_wp2
          go_roundg (b.length - (k + 1))
          case measure => omega
          case rel =>
            refine ⟨k + 1, by omega, rfl, by go_num, Lib.hid ?_, HB.out.drewN _⟩
            rw [ta.out, tb.out, heq.out, HQ.out]
      · have hna : ¬ k < a.length := by have := HL.out; omega
        go_wp2
        go_ret
        refine ⟨ret_bool ?_, HB.out⟩
        symm; rw [decide_eq_true_eq]
        have h := heq.out
        have := HL.out
        rwa [List.take_of_length_le (by omega), List.take_of_length_le (by omega)] at h
  · have hd : decide (a = b) = false := decide_eq_false (fun h => hlen (by rw [h]))
    have HD := Lib.hid hd
    clear hd
    go_enter Try.func43, Try.ntmps43
    go_wp2
    go_ret
    exact ⟨ret_bool HD.out.symm, Bl.refl _⟩

end Go.Proofs.Ytddcjekkimajpaa.ExtW

/- The walk of overdublaw21.StateTracks. -/
namespace Go.Proofs.Ytddcjekkimajpaa.ExtW
open Go.RowKit Go.Ov Go.Proofs.Ytddcjekkimajpaa.Need

theorem rec_is (w : World) (k t f o : Int) : RecIs w (.agg #[.int .i64 k, .int .i64 t, .int .i64 f, .int .i64 o, .slice none 0 0]) ⟨k, t, f, o, []⟩ := ⟨_, rfl, Enc.Is.nil _⟩

set_option maxRecDepth 100000 in
set_option maxHeartbeats 2000000 in
theorem wakes21_any (w : World) : Calls Try.prog 16 #[] w fun e w' => e = .returned (.bool true) ∧ Bl w w' := by
  have hap := (apply_C [] 3 (by decide) (by decide)).2.2 rfl (by decide)
  have HAP := Lib.hid hap
  clear hap
  go_enter Try.func16, Try.ntmps16
  go_wp2_with fail
  refine (snew_any _).mono ?_
  rintro e w1 ⟨s0, rfl, hs, hb⟩
  have HS := Lib.hid hs
  obtain ⟨b0, _, _, rfl, _⟩ := hs
  have HB := Lib.hid hb
  clear hb
  go_wp2_with fail
  refine (sapply_any _ _ [] (recC 3) _ HS.out (rec_is _ 1 3 0 0) SOK.nil.1).mono ?_
  rintro e w2 ⟨⟨h1, _⟩, hb⟩
  obtain ⟨t, rfl, ht⟩ := h1 (by rw [HAP.out])
  rw [HAP.out] at ht
  have HT := Lib.hid ht
  obtain ⟨b1, _, _, rfl, _⟩ := ht
  have HB2 := Lib.hid (HB.out.bl hb)
  have HS2 := Lib.hid (HS.out.bl hb)
  clear hb h1
  go_wp2_with fail
  refine (sids_any _ _ _ HT.out (by decide)).mono ?_
  rintro e w3 ⟨u, rfl, ho, hb⟩
  have HU := Lib.hid ho.is
  obtain ⟨A, c, rfl⟩ := ho.slice
  have HB3 := Lib.hid (HB2.out.bl hb)
  have HS3 := Lib.hid (HS2.out.bl hb)
  clear ho hb
  go_wp2_with fail
  refine (sameInt_any _ _ [3] [3] _ (HU.out.bl ((Bl.refl _).alloc _)) ((Enc.Own.lit (E := intE) w3 0 [3] #[.int .i64 3] rfl 1 rfl (Nat.zero_le _) (by decide) rfl).is)).mono ?_
  rintro e w4 ⟨rfl, hb⟩
  have HB4 := Lib.hid ((HB3.out.alloc _).bl hb)
  have HS4 := Lib.hid ((HS3.out.bl ((Bl.refl _).alloc _)).bl hb)
  rw [decide_eq_true (show ([3] : List Int) = [3] from rfl)]
  clear hb
  go_wp2_with fail
  refine (sids_any _ _ _ HS4.out (by decide)).mono ?_
  rintro e w5 ⟨u2, rfl, ho, hb⟩
  obtain ⟨A2, c2, rfl⟩ := ho.slice
  have HB5 := Lib.hid (HB4.out.bl hb)
  clear ho hb
  go_wp2_with fail
  go_ret
  exact ⟨rfl, HB5.out⟩

set_option maxRecDepth 100000 in
set_option maxHeartbeats 4000000 in
theorem tracks_walk (v : Value) (l : List Int) (w : World) (h : ArgInts w v l) :
    Calls Try.prog 3 #[v] w fun e w' => e = .returned (.bool true) ∧ Bl w w' := by
  obtain ⟨⟨A, c, rfl, _, q1, _, hA⟩, _, _⟩ := h
  have HA := Lib.hid hA
  unfold maxLen at q1
  have hl : l.length ≤ 9223372036854775807 := by omega
  clear hA q1
  go_enter Try.func3, Try.ntmps3
  go_wp2_with fail
  refine (snew_any _).mono ?_
  rintro e w1 ⟨s0, rfl, hs, hb⟩
  have HS := Lib.hid hs
  have HB := Lib.hid hb
  obtain ⟨b0, _, _, rfl, _⟩ := hs
  clear hb
  go_wp2_with fail
  go_loopg [3, 4, 5] l.length (fun g vs n i wr => ∃ (k : Nat) (S : StM), k ≤ l.length ∧ k ≤ 12 ∧ g = l.length - k ∧ i = .int .i64 k ∧ n = .int .i64 S.length ∧ Hid (StateIs wr vs S) ∧ Hid (SOK S) ∧ Hid (Bl w wr))
  case atStart => exact ⟨0, [], by omega, by omega, rfl, rfl, rfl, HS, Lib.hid SOK.nil, HB⟩
  case round =>
    clear HS HB
    obtain ⟨k, S, hk, hk12, rfl, rfl, rfl, HS, HK, HB⟩ := hrel
    have hS6 := HK.out.1.1
    by_cases hlt : k < l.length ∧ k < 12
    · obtain ⟨hlt, hlt12⟩ := hlt
      obtain ⟨ad, rfl, d0⟩ := int_at (HA.out.bl HB.out) k hlt
      generalize l[k] = x at d0
      have hx := within_bd x 10 (by decide)
      have hkl : (k : Int) < l.length := by omega
      obtain ⟨id, hid⟩ : ∃ id, id = within x 10 := ⟨_, rfl⟩
      rw [← hid] at hx
      have HID := Lib.hid hid
      obtain ⟨hx0, hx1⟩ := hx
      have hC := apply_C S id hx0 (by omega)
      have hD := apply_D S id hx0 (by omega)
      clear hid
      obtain ⟨bS, _, _, e0, _⟩ := HS.out
      subst e0
      cases hg : getS S id with
      | some t =>
        have HG := Lib.hid hg
        have HC := Lib.hid (hC.1 (by rw [hg]; simp))
        have HD := Lib.hid (hD.2 (by rw [hg]; simp))
        have hwl := without_len_some HK.out.2 hg
        clear hC hD hg
        go_wp2_with fail
        refine (within_any _ _ _ (by decide)).mono ?_
        rintro e w2 ⟨rfl, rfl⟩
        rw [← HID.out]
        go_wp2_with fail
        refine (slength_any _ S id _ HS.out HK.out.1.2).mono ?_
        rintro e w2 ⟨⟨_, h1⟩, hb⟩
        obtain rfl := h1 t HG.out
        have HS2 := Lib.hid (HS.out.bl hb)
        have HB2 := Lib.hid (HB.out.bl hb)
        clear hb h1
        go_wp2_with fail
        refine (sapply_any _ _ S (recC id) _ HS2.out (rec_is _ 1 id 0 0) HK.out.1).mono ?_
        rintro e w3 ⟨⟨_, h1⟩, hb⟩
        obtain rfl := h1 (by rw [HC.out]; decide)
        rw [HC.out]
        have HS3 := Lib.hid (HS2.out.bl hb)
        have HB3 := Lib.hid (HB2.out.bl hb)
        clear hb h1
        go_wp2_with fail
        refine (sapply_any _ _ S (recD id) _ HS3.out (rec_is _ 2 id 0 0) HK.out.1).mono ?_
        rintro e w4 ⟨⟨h1, _⟩, hb⟩
        obtain ⟨u, rfl, hu⟩ := h1 (by rw [HD.out])
        rw [HD.out] at hu
        have HU := Lib.hid hu
        obtain ⟨bU, _, _, rfl, _⟩ := hu
        have HB4 := Lib.hid (HB3.out.bl hb)
        have HK4 := Lib.hid (HK.out.without id)
        clear hb h1
        go_wp2_with fail
        refine (slength_any _ (withoutS S id) id _ HU.out HK4.out.1.2).mono ?_
        rintro e w5 ⟨⟨h1, _⟩, hb⟩
        obtain rfl := h1 (without_none S id)
        have HU5 := Lib.hid (HU.out.bl hb)
        have HB5 := Lib.hid (HB4.out.bl hb)
        clear hb h1
        go_wp2_with fail
        go_roundg (l.length - (k + 1))
        case measure => omega
        case rel => exact ⟨k + 1, withoutS S id, by omega, by omega, rfl, by go_num, by rw [show (S.length : Int) - 1 = ((withoutS S id).length : Int) by omega], HU5, HK4, HB5⟩
      | none =>
        have HG := Lib.hid hg
        have HD := Lib.hid (hD.1 hg)
        by_cases h6 : 6 ≤ S.length
        · have HC := Lib.hid (hC.2.1 hg h6)
          have hSe : S.length = 6 := by omega
          have hSe2 : ((S.length : Int) == 6) = true := by rw [hSe]; rfl
          have hSe3 : (S.length == 6) = true := by rw [hSe]; rfl
          have hSe4 : ¬ ((S.length : Int) < 6) := by omega
          clear hC hD hg hSe
          go_wp2_with fail
          refine (within_any _ _ _ (by decide)).mono ?_
          rintro e w2 ⟨rfl, rfl⟩
          rw [← HID.out]
          go_wp2_with fail
          refine (slength_any _ S id _ HS.out HK.out.1.2).mono ?_
          rintro e w2 ⟨⟨h1, _⟩, hb⟩
          obtain rfl := h1 HG.out
          have HS2 := Lib.hid (HS.out.bl hb)
          have HB2 := Lib.hid (HB.out.bl hb)
          clear hb h1
          go_wp2_with fail
          refine (sapply_any _ _ S (recC id) _ HS2.out (rec_is _ 1 id 0 0) HK.out.1).mono ?_
          rintro e w3 ⟨⟨_, h1⟩, hb⟩
          obtain rfl := h1 (by rw [HC.out]; decide)
          rw [HC.out]
          have HS3 := Lib.hid (HS2.out.bl hb)
          have HB3 := Lib.hid (HB2.out.bl hb)
          clear hb h1
          go_wp2_with fail
          refine (sapply_any _ _ S (recD id) _ HS3.out (rec_is _ 2 id 0 0) HK.out.1).mono ?_
          rintro e w4 ⟨⟨_, h1⟩, hb⟩
          obtain rfl := h1 (by rw [HD.out]; decide)
          rw [HD.out]
          have HS4 := Lib.hid (HS3.out.bl hb)
          have HB4 := Lib.hid (HB3.out.bl hb)
          clear hb h1
          go_wp2_with fail
          go_roundg (l.length - (k + 1))
          case measure => omega
          case rel => exact ⟨k + 1, S, by omega, by omega, rfl, by go_num, rfl, HS4, HK, HB4⟩
        · have hz := hC.2.2 hg (by omega)
          have HC := Lib.hid hz
          have HK4 := Lib.hid (show SOK (putL S id (treeM [])) by have := HK.out.apply (r := recC id) (by rw [hz]); rwa [hz] at this)
          have hpl := put_len S id (treeM [])
          rw [without_len_none hg] at hpl
          have HG4 := Lib.hid (show getS (putL S id (treeM [])) id = some (treeM []) by rw [put_get, if_pos rfl])
          have hSe2 : ((S.length : Int) == 6) = false := by rw [beq_eq_false_iff_ne]; omega
          have hSe3 : (S.length == 6) = false := by rw [beq_eq_false_iff_ne]; omega
          have hSe4 : (S.length : Int) < 6 := by omega
          clear hC hD hg hz
          go_wp2_with fail
          refine (within_any _ _ _ (by decide)).mono ?_
          rintro e w2 ⟨rfl, rfl⟩
          rw [← HID.out]
          go_wp2_with fail
          refine (slength_any _ S id _ HS.out HK.out.1.2).mono ?_
          rintro e w2 ⟨⟨h1, _⟩, hb⟩
          obtain rfl := h1 HG.out
          have HS2 := Lib.hid (HS.out.bl hb)
          have HB2 := Lib.hid (HB.out.bl hb)
          clear hb h1
          go_wp2_with fail
          refine (sapply_any _ _ S (recC id) _ HS2.out (rec_is _ 1 id 0 0) HK.out.1).mono ?_
          rintro e w3 ⟨⟨h1, _⟩, hb⟩
          obtain ⟨u, rfl, hu⟩ := h1 (by rw [HC.out])
          rw [HC.out] at hu
          have HU := Lib.hid hu
          obtain ⟨bU, _, _, rfl, _⟩ := hu
          have HS3 := Lib.hid (HS2.out.bl hb)
          have HB3 := Lib.hid (HB2.out.bl hb)
          clear hb h1
          go_wp2_with fail
          refine (sapply_any _ _ S (recD id) _ HS3.out (rec_is _ 2 id 0 0) HK.out.1).mono ?_
          rintro e w4 ⟨⟨_, h1⟩, hb⟩
          obtain rfl := h1 (by rw [HD.out]; decide)
          rw [HD.out]
          have HU4 := Lib.hid (HU.out.bl hb)
          have HB4 := Lib.hid (HB3.out.bl hb)
          clear hb h1
          go_wp2_with fail
          refine (slength_any _ _ id _ HU4.out HK4.out.1.2).mono ?_
          rintro e w5 ⟨⟨_, h1⟩, hb⟩
          obtain rfl := h1 _ HG4.out
          rw [show endM (treeM []).row = 0 from rfl]
          have HU5 := Lib.hid (HU4.out.bl hb)
          have HB5 := Lib.hid (HB4.out.bl hb)
          clear hb h1
          go_wp2_with fail
          go_roundg (l.length - (k + 1))
          case measure => omega
          case rel => exact ⟨k + 1, _, by omega, by omega, rfl, by go_num, by rw [hpl]; go_num, HU5, HK4, HB5⟩
    · rcases (show (k < l.length ∧ ¬ k < 12) ∨ ¬ k < l.length from by by_cases q : k < l.length; exact .inl ⟨q, fun p => hlt ⟨q, p⟩⟩; exact .inr q) with ⟨hkl2, hk7⟩ | hkl2
      all_goals
        clear hlt
        go_wp2_with fail
        refine (sids_any _ S _ HS.out (by omega)).mono ?_
        rintro e w2 ⟨u, rfl, ho, hb⟩
        obtain ⟨A2, c2, rfl⟩ := ho.slice
        have HB2 := Lib.hid (HB.out.bl hb)
        rw [List.length_map]
        clear ho hb
        go_wp2_with fail
        refine (wakes21_any _).mono ?_
        rintro e w3 ⟨rfl, hb⟩
        go_wp2_with fail
        go_ret
        exact ⟨rfl, HB2.out.bl hb⟩
end Go.Proofs.Ytddcjekkimajpaa.ExtW

/- The walk of overdublaw21.StateErrors. -/
namespace Go.Proofs.Ytddcjekkimajpaa.ExtW
open Go.RowKit Go.Ov Go.Proofs.Ytddcjekkimajpaa.Need

def longE (i : Nat) : Ext := ⟨i, 1, 1, 0, 1⟩
def longL (k : Nat) : List Ext := (List.range k).map longE
theorem longL_succ (k : Nat) : longL (k + 1) = longL k ++ [longE k] := by simp [longL, List.range_succ]
theorem longL_len (k : Nat) : (longL k).length = k := by simp [longL]
theorem longL_end : ∀ k : Nat, endM (longL k) = k
  | 0 => rfl
  | k + 1 => by rw [longL_succ, endM_append, longL_end k]; simp [endM, longE]
theorem longL_valid : ∀ k : Nat, k ≤ 1000 → validFrom 0 (longL k) = true
  | 0, _ => rfl
  | k + 1, h => by
    rw [longL_succ, valid_append, longL_valid k (by omega), longL_end]
    simp [validFrom, longE, oneB]; omega
theorem splice_none_long (L : List Ext) (hv : validFrom 0 L = true) (he : endM L = 1000) : spliceM [] 0 0 L = (shiftM 0 L, 0) := by
  have h1 : spliceBad [] 0 0 L = false := by simp [spliceBad, hv, endM]
  have h2 : spliceLong [] 0 0 L = false := by unfold spliceLong; rw [he]; simp [endM]
  unfold spliceM
  rw [h1, h2]
  simp [spliceL, cutM, shiftM]
theorem splice_over (l : List Ext) (by_ : Int) (hl : endM l = 1000) (h0 : 0 ≤ by_) (h1 : by_ ≤ 1000) : spliceM l by_ by_ (longL 1) = ([], 4) := by
  have e1 : spliceBad l by_ by_ (longL 1) = false := by
    simp only [spliceBad, longL_valid 1 (by decide), hl]; simp; omega
  have e2 : spliceLong l by_ by_ (longL 1) = true := by unfold spliceLong; rw [longL_end, hl]; simp; omega
  unfold spliceM
  rw [e1, e2]; rfl
theorem longL_take (n : Nat) (h : 1 ≤ n) : (longL n).take 1 = longL 1 := by
  unfold longL
  rw [← List.map_take, List.take_range, Nat.min_eq_left h]
def recS (id fr tt : Int) (l : List Ext) : Rec := ⟨3, id, fr, tt, l⟩
theorem apply_S (s : StM) (id fr tt : Int) (l : List Ext) (h0 : 0 ≤ id) (h1 : id ≤ 99) (h2 : 0 ≤ fr) (h3 : fr ≤ tt) (h4 : tt ≤ 1000) (hv : validFrom 0 l = true) :
    applyR s (recS id fr tt l) = match getS s id with | none => ([], 5) | some t => applyT s (recS id fr tt l) t := by
  have e : validRec (recS id fr tt l) = true := by
    simp [validRec, recS, spliceB, trackB, h0, h1, h2, h3, h4, hv]
  unfold applyR
  rw [if_neg (by rw [e]; simp [recS]), if_neg (by simp [recS])]; rfl
def oneS (id : Int) : StM := putL [] id (treeM [])
theorem one_get (id j : Int) : getS (oneS id) j = if j = id then some (treeM []) else none := by unfold oneS; rw [put_get]; rfl
theorem one_ok (id : Int) (h0 : 0 ≤ id) (h1 : id ≤ 99) : SOK (oneS id) := by
  have hz := (apply_C [] id h0 h1).2.2 rfl (by decide)
  have := SOK.nil.apply (r := recC id) (by rw [hz])
  rwa [hz] at this
theorem one_long (L : List Ext) (hv : validFrom 0 L = true) (he : endM L = 1000) (id : Int) (h0 : 0 ≤ id) (h1 : id ≤ 99) : applyR (oneS id) (recS id 0 0 L) = (putL (oneS id) id (treeM (shiftM 0 L)), 0) := by
  rw [apply_S _ _ _ _ _ h0 h1 (by decide) (by decide) (by decide) hv, one_get, if_pos rfl]
  have e : spliceOf (treeM []) (recS id 0 0 L) = (shiftM 0 L, 0) := splice_none_long L hv he
  simp only [applyT]
  rw [if_neg (by simp [recS]), if_neg (show ¬ endM (treeM []).row < (recS id 0 0 L).fr by simp [treeM, endM, recS]), e, if_pos rfl]
  unfold putR
  rw [if_neg (show ¬ ((recS id 0 0 L).track < 0 ∨ 99 < (recS id 0 0 L).track) by simp [recS]; omega), if_neg]
  · rfl
  · have : (oneS id).length = 1 := by unfold oneS; rw [put_len]; rfl
    omega
theorem one_over (L : List Ext) (he : endM L = 1000) (id by_ : Int) (h0 : 0 ≤ id) (h1 : id ≤ 99) (h2 : 0 ≤ by_) (h3 : by_ ≤ 1000) : applyR (putL (oneS id) id (treeM (shiftM 0 L))) (recS id by_ by_ (longL 1)) = ([], 4) := by
  have hl : endM (shiftM 0 L) = 1000 := by rw [endM_shift, he]
  rw [apply_S _ _ _ _ _ h0 h1 h2 (Int.le_refl _) h3 (longL_valid 1 (by decide)), put_get, if_pos rfl]
  have e : spliceOf (treeM (shiftM 0 L)) (recS id by_ by_ (longL 1)) = ([], 4) := by
    unfold spliceOf
    show spliceM (shiftM 0 L) by_ (min by_ (endM (shiftM 0 L))) (longL 1) = _
    rw [hl, Int.min_eq_left h3]
    exact splice_over _ _ hl h2 h3
  simp only [applyT]
  rw [if_neg (by simp [recS]), if_neg (show ¬ endM (treeM (shiftM 0 L)).row < (recS id by_ by_ (longL 1)).fr by show ¬ endM (shiftM 0 L) < by_; rw [hl]; omega), e, if_neg (by decide)]
theorem one_range (id by_ : Int) (h0 : 0 ≤ id) (h1 : id ≤ 99) (h2 : 0 < by_) (h3 : by_ ≤ 1000) : applyR (oneS id) (recS id by_ by_ []) = ([], 7) := by
  rw [apply_S _ _ _ _ _ h0 h1 (by omega) (Int.le_refl _) h3 rfl, one_get, if_pos rfl]
  simp only [applyT]
  rw [if_neg (by simp [recS]), if_pos (show endM (treeM []).row < (recS id by_ by_ []).fr by show (0 : Int) < by_; exact h2)]
theorem one_else (id : Int) (h0 : 0 ≤ id) (h1 : id ≤ 98) : applyR (oneS id) (recS (id + 1) 0 0 []) = ([], 5) := by
  rw [apply_S _ _ _ _ _ (by omega) (by omega) (by decide) (by decide) (by decide) rfl, one_get, if_neg (by omega)]
theorem any_bad (s : StM) : applyR s (recC 100) = ([], 1) ∧ applyR s ⟨5, 0, 0, 0, []⟩ = ([], 1) := by
  constructor
  · unfold applyR
    rw [if_pos (.inl (by simp [validRec, recC, trackB, noneB]))]
  · unfold applyR
    rw [if_pos (.inr (by decide))]
theorem one_again (id : Int) (h0 : 0 ≤ id) (h1 : id ≤ 99) : applyR (oneS id) (recC id) = ([], 6) := (apply_C _ id h0 h1).1 (by rw [one_get, if_pos rfl]; simp)
theorem long_ok (L : List Ext) (hv : validFrom 0 L = true) (he : endM L = 1000) (id : Int) (h0 : 0 ≤ id) (h1 : id ≤ 99) : SOK (putL (oneS id) id (treeM (shiftM 0 L))) := by
  have := (one_ok id h0 h1).apply (r := recS id 0 0 L) (by rw [one_long L hv he id h0 h1])
  rwa [one_long L hv he id h0 h1] at this

set_option maxRecDepth 100000 in
set_option maxHeartbeats 4000000 in
theorem errors_walk (a0 a1 : Int) (w : World) (_ : -9223372036854775808 ≤ a0 ∧ a0 ≤ 9223372036854775807) (_ : -9223372036854775808 ≤ a1 ∧ a1 ≤ 9223372036854775807) :
    Calls Try.prog 4 #[.int .i64 a0, .int .i64 a1] w fun e w' => e = .returned (.bool true) ∧ Bl w w' := by
  have hb0 := within_bd a0 90 (by decide)
  have hb1 := within_bd a1 40 (by decide)
  obtain ⟨nm, hnm⟩ : ∃ nm, nm = within a0 90 := ⟨_, rfl⟩
  obtain ⟨at_, hat⟩ : ∃ at_, at_ = within a1 40 := ⟨_, rfl⟩
  rw [← hnm] at hb0
  rw [← hat] at hb1
  obtain ⟨i0, i1⟩ := hb0
  obtain ⟨y0, y1⟩ := hb1
  have HNM := Lib.hid hnm
  have HAT := Lib.hid hat
  have E1 := Lib.hid (show applyR [] (recC nm) = (oneS nm, 0) from (apply_C [] nm i0 (by omega)).2.2 rfl (by decide))
  have lv := longL_valid 1000 (by decide)
  have le := longL_end 1000
  obtain ⟨L, hLL⟩ : ∃ L, L = longL 1000 := ⟨_, rfl⟩
  rw [← hLL] at lv le
  have le2 : endM L = 1000 := le
  have HLL := Lib.hid hLL
  have HLV := Lib.hid lv
  clear hLL le
  have E2 := Lib.hid (one_long L lv le2 nm i0 (by omega))
  have E3 := Lib.hid (one_over L le2 nm at_ i0 (by omega) y0 (by omega))
  have E4 := Lib.hid (one_range nm (1 + at_) i0 (by omega) (by omega) (by omega))
  have E5 := Lib.hid (one_else nm i0 (by omega))
  have E6 := Lib.hid (one_again nm i0 (by omega))
  have K1 := Lib.hid (one_ok nm i0 (by omega))
  have K2 := Lib.hid (long_ok L lv le2 nm i0 (by omega))
  have K0 := Lib.hid SOK.nil
  have G2 := Lib.hid (show getS (putL (oneS nm) nm (treeM (shiftM 0 L))) nm = some (treeM (shiftM 0 L)) by rw [put_get, if_pos rfl])
  have L2 := Lib.hid (show endM (treeM (shiftM 0 L)).row = 1000 by show endM (shiftM 0 L) = 1000; rw [endM_shift]; exact le2)
  generalize hU : putL (oneS nm) nm (treeM (shiftM 0 L)) = U at E2 E3 K2 G2
  clear hnm hat hU lv le2
  have HB := Lib.hid (Bl.refl w)
  have hu := Try.underlying33
  go_enter Try.func4, Try.ntmps4
  go_wp2_with fail
  refine (snew_any _).mono ?_
  rintro e w1 ⟨s0, rfl, hs, hb⟩
  try replace HNM := Lib.hid (HNM.out.bl hb)
  try replace HAT := Lib.hid (HAT.out.bl hb)
  try replace E1 := Lib.hid (E1.out.bl hb)
  try replace HLL := Lib.hid (HLL.out.bl hb)
  try replace HLV := Lib.hid (HLV.out.bl hb)
  try replace E2 := Lib.hid (E2.out.bl hb)
  try replace E3 := Lib.hid (E3.out.bl hb)
  try replace E4 := Lib.hid (E4.out.bl hb)
  try replace E5 := Lib.hid (E5.out.bl hb)
  try replace E6 := Lib.hid (E6.out.bl hb)
  try replace K1 := Lib.hid (K1.out.bl hb)
  try replace K2 := Lib.hid (K2.out.bl hb)
  try replace K0 := Lib.hid (K0.out.bl hb)
  try replace G2 := Lib.hid (G2.out.bl hb)
  try replace L2 := Lib.hid (L2.out.bl hb)
  try replace HB := Lib.hid (HB.out.bl hb)
  clear hb
  obtain ⟨b0, _, _, rfl, _⟩ := id hs
  have HS := Lib.hid hs
  clear hs
  go_wp2_with fail
  refine (within_any _ _ _ (by decide)).mono ?_
  rintro e w2 ⟨rfl, rfl⟩
  rw [← HNM.out]
  go_wp2_with fail
  refine (within_any _ _ _ (by decide)).mono ?_
  rintro e w2 ⟨rfl, rfl⟩
  rw [← HAT.out]
  go_wp2_with fail
  refine (sapply_any _ _ [] (recC nm) _ HS.out (rec_is _ 1 nm 0 0) K0.out.1).mono ?_
  rintro e w3 ⟨⟨hx, _⟩, hb⟩
  obtain ⟨T, rfl, hst⟩ := hx (by rw [E1.out])
  rw [E1.out] at hst
  obtain ⟨bT, _, _, rfl, _⟩ := id hst
  clear hx
  try replace HNM := Lib.hid (HNM.out.bl hb)
  try replace HAT := Lib.hid (HAT.out.bl hb)
  try replace E1 := Lib.hid (E1.out.bl hb)
  try replace HLL := Lib.hid (HLL.out.bl hb)
  try replace HLV := Lib.hid (HLV.out.bl hb)
  try replace E2 := Lib.hid (E2.out.bl hb)
  try replace E3 := Lib.hid (E3.out.bl hb)
  try replace E4 := Lib.hid (E4.out.bl hb)
  try replace E5 := Lib.hid (E5.out.bl hb)
  try replace E6 := Lib.hid (E6.out.bl hb)
  try replace K1 := Lib.hid (K1.out.bl hb)
  try replace K2 := Lib.hid (K2.out.bl hb)
  try replace K0 := Lib.hid (K0.out.bl hb)
  try replace G2 := Lib.hid (G2.out.bl hb)
  try replace L2 := Lib.hid (L2.out.bl hb)
  try replace HB := Lib.hid (HB.out.bl hb)
  try replace HS := Lib.hid (HS.out.bl hb)
  clear hb
  have HT := Lib.hid hst
  clear hst
  go_wp2_with fail
  obtain ⟨wo, hwo⟩ : ∃ wo : World, wo = w3 := ⟨_, rfl⟩
  have HK := Lib.hid (Blk.new w3 #[.int .i64 3, .int .i64 nm, .int .i64 0, .int .i64 0, .slice none 0 0] 33)
  clear hwo
  go_loopg [9] 1000 (fun g i wr => ∃ (k : Nat) (lv : Value), k ≤ 1000 ∧ g = 1000 - k ∧ i = .int .i64 k ∧ Hid (Blk wr w3.heap.size #[.int .i64 3, .int .i64 nm, .int .i64 0, .int .i64 0, lv] 33) ∧ Hid (extE.Own 38 wr (w3.heap.size + 1) lv (longL k)) ∧ Hid (Bl w3 wr))
  case atStart => exact ⟨0, .slice none 0 0, by omega, rfl, rfl, HK, Lib.hid (Enc.Own.nil _ _ _), Lib.hid ((Bl.refl _).alloc _)⟩
  case round =>
    clear HK
    obtain ⟨k, lv, hk, rfl, rfl, HK, HO, HD⟩ := hrel
    obtain ⟨A, c, rfl⟩ := HO.out.slice
    have d0 := HK.out.cell 0
    have d1 := HK.out.cell 1
    have d2 := HK.out.cell 2
    have d3 := HK.out.cell 3
    have d4 := HK.out.cell 4
    simp at d0 d1 d2 d3 d4
    have f4 := HK.out.frozen 4
    have flt := HK.out.lt
    by_cases hlt : k < 1000
    · have hls := Lib.hid (longL_succ k)
      have hll := Lib.hid (longL_len k)
      have hki : (k : Int) < 1000 := by omega
      generalize longL k = xs at *
      go_wp2_with (at_builtin; refine Enc.Own.append1 (E := extE) rfl (.tmp 54) (.tmp 57) 31 rfl (w3.heap.size + 1) 38 (.agg #[.int .i64 0, .int .i64 0, .int .i64 0, .int .i64 0, .int .i64 0]) 5 40 Try.underlying31 infoExt rfl rfl (by decide) (by decide) (.slice A xs.length c) xs rfl HO.out ⟨k, 1, 1, 0, 1⟩ _ rfl rfl rfl ?hlen ?hbase ?_; (case hlen => have := hll.out; omega); (case hbase => exact flt); intro v1 w4 ho hg; obtain ⟨A5, c5, rfl⟩ := ho.slice; have hne : (Value.slice A xs.length c).ownBlock ≠ some w3.heap.size := (fun he => by have := (Enc.Own.lt HO.out _ he).1; omega); have HK4 := Lib.hid ((HK.out.bl ((Bl.refl _).alloc _)).grown hg hne); have e4 := HK4.out.cell 4; simp at e4; have e5 := HK4.out.frozen 4; have e6 := HK4.out.lt; clear hne)
      have HD4 := Lib.hid (((HD.out.alloc _).grown hg (fun k hk => by have := (Enc.Own.lt HO.out k hk).1; omega)))
      have HO4 := Lib.hid ho
      clear ho hg e4 e5 e6
      go_roundg (1000 - (k + 1))
      case measure => omega
      case rel =>
        refine ⟨k + 1, _, by omega, rfl, by go_num, Lib.hid (HK4.out.set 4 _), Lib.hid ?_, Lib.hid (Bl.set HD4.out _ _ _ (Nat.le_refl _))⟩
        have h1 := Enc.Own.set HO4.out w3.heap.size 4 (.slice A5 (xs ++ [(⟨k, 1, 1, 0, 1⟩ : Ext)]).length c5) (Nat.lt_succ_self _)
        rw [hls.out]
        simpa [longE] using h1
    · have hke : k = 1000 := by omega
      have HO2 := Lib.hid (show extE.Own 38 wr (w3.heap.size + 1) (.slice A (longL k).length c) L from by rw [HLL.out, ← hke]; exact HO.out)
      have hll : (longL k).length = 1000 := by rw [longL_len]; exact hke
      have HLEN := Lib.hid hll
      have hLl : L.length = 1000 := by rw [HLL.out, longL_len]
      obtain ⟨g, rfl⟩ : ∃ g, A = some ⟨g, 0, none⟩ := by
        rcases HO2.out.parts with ⟨e0, h0⟩ | ⟨g, c', e', _⟩
        · omega
        · simp at e'; exact ⟨g, e'.1⟩
      rw [hll] at d4 HO2 HK
      have HL1 := Lib.hid (show extE.Is wr (.slice (some ⟨g, 0, none⟩) 1 c) (longL 1) from by
        have h := Enc.Is.take (c := c) (l := L) (A := some ⟨g, 0, none⟩) (by rw [hLl]; exact HO2.out.is) 1
        rw [hLl] at h
        rw [HLL.out, longL_take 1000 (by decide)] at h
        exact h)
      have hc1 : 1000 ≤ c := HO2.out.blk.2.2.1
      have hc2 : (1 : Int) ≤ c := by omega
      have hb := HD.out
      clear hll hLl hke HO flt f4
      try replace HNM := Lib.hid (HNM.out.bl hb)
      try replace HAT := Lib.hid (HAT.out.bl hb)
      try replace E1 := Lib.hid (E1.out.bl hb)
      try replace HLL := Lib.hid (HLL.out.bl hb)
      try replace HLV := Lib.hid (HLV.out.bl hb)
      try replace E2 := Lib.hid (E2.out.bl hb)
      try replace E3 := Lib.hid (E3.out.bl hb)
      try replace E4 := Lib.hid (E4.out.bl hb)
      try replace E5 := Lib.hid (E5.out.bl hb)
      try replace E6 := Lib.hid (E6.out.bl hb)
      try replace K1 := Lib.hid (K1.out.bl hb)
      try replace K2 := Lib.hid (K2.out.bl hb)
      try replace K0 := Lib.hid (K0.out.bl hb)
      try replace G2 := Lib.hid (G2.out.bl hb)
      try replace L2 := Lib.hid (L2.out.bl hb)
      try replace HB := Lib.hid (HB.out.bl hb)
      try replace HS := Lib.hid (HS.out.bl hb)
      try replace HT := Lib.hid (HT.out.bl hb)
      try replace HK := Lib.hid (HK.out.bl hb)
      try replace hls := Lib.hid (hls.out.bl hb)
      try replace hll := Lib.hid (hll.out.bl hb)
      try replace HK4 := Lib.hid (HK4.out.bl hb)
      try replace HD4 := Lib.hid (HD4.out.bl hb)
      try replace HO4 := Lib.hid (HO4.out.bl hb)
      try replace HO2 := Lib.hid (HO2.out.bl hb)
      try replace HLEN := Lib.hid (HLEN.out.bl hb)
      try replace HL1 := Lib.hid (HL1.out.bl hb)
      clear hb
      go_wp2_with fail
      refine (sapply_any _ _ (oneS nm) (recS nm 0 0 L) _ HT.out ⟨_, rfl, HO2.out.is⟩ K1.out.1).mono ?_
      rintro e w5 ⟨⟨hx, _⟩, hb⟩
      obtain ⟨V, rfl, hst⟩ := hx (by rw [E2.out])
      rw [E2.out] at hst
      obtain ⟨bV, _, _, rfl, _⟩ := id hst
      clear hx
      try replace HNM := Lib.hid (HNM.out.bl hb)
      try replace HAT := Lib.hid (HAT.out.bl hb)
      try replace E1 := Lib.hid (E1.out.bl hb)
      try replace HLL := Lib.hid (HLL.out.bl hb)
      try replace HLV := Lib.hid (HLV.out.bl hb)
      try replace E2 := Lib.hid (E2.out.bl hb)
      try replace E3 := Lib.hid (E3.out.bl hb)
      try replace E4 := Lib.hid (E4.out.bl hb)
      try replace E5 := Lib.hid (E5.out.bl hb)
      try replace E6 := Lib.hid (E6.out.bl hb)
      try replace K1 := Lib.hid (K1.out.bl hb)
      try replace K2 := Lib.hid (K2.out.bl hb)
      try replace K0 := Lib.hid (K0.out.bl hb)
      try replace G2 := Lib.hid (G2.out.bl hb)
      try replace L2 := Lib.hid (L2.out.bl hb)
      try replace HB := Lib.hid (HB.out.bl hb)
      try replace HS := Lib.hid (HS.out.bl hb)
      try replace HT := Lib.hid (HT.out.bl hb)
      try replace HK := Lib.hid (HK.out.bl hb)
      try replace hls := Lib.hid (hls.out.bl hb)
      try replace hll := Lib.hid (hll.out.bl hb)
      try replace HK4 := Lib.hid (HK4.out.bl hb)
      try replace HD4 := Lib.hid (HD4.out.bl hb)
      try replace HO4 := Lib.hid (HO4.out.bl hb)
      try replace HO2 := Lib.hid (HO2.out.bl hb)
      try replace HLEN := Lib.hid (HLEN.out.bl hb)
      try replace HL1 := Lib.hid (HL1.out.bl hb)
      clear hb
      have HV := Lib.hid hst
      clear hst
      have d4 := HK.out.cell 4
      simp at d4
      go_wp2_with fail
      refine (sapply_any _ _ U (recS nm at_ at_ (longL 1)) _ (HV.out.bl ((Bl.refl _).alloc _)) ⟨_, rfl, HL1.out.bl ((Bl.refl _).alloc _)⟩ K2.out.1).mono ?_
      rintro e w6 ⟨⟨_, hx⟩, hb0⟩
      obtain rfl := hx (by rw [E3.out]; decide)
      rw [E3.out]
      have hb := Bl.bl ((Bl.refl w5).alloc (.cells #[.int .i64 3, .int .i64 nm, .int .i64 at_, .int .i64 at_, .slice (some ⟨g, 0, none⟩) 1 c] 33)) hb0
      clear hx hb0 d4
      try replace HNM := Lib.hid (HNM.out.bl hb)
      try replace HAT := Lib.hid (HAT.out.bl hb)
      try replace E1 := Lib.hid (E1.out.bl hb)
      try replace HLL := Lib.hid (HLL.out.bl hb)
      try replace HLV := Lib.hid (HLV.out.bl hb)
      try replace E2 := Lib.hid (E2.out.bl hb)
      try replace E3 := Lib.hid (E3.out.bl hb)
      try replace E4 := Lib.hid (E4.out.bl hb)
      try replace E5 := Lib.hid (E5.out.bl hb)
      try replace E6 := Lib.hid (E6.out.bl hb)
      try replace K1 := Lib.hid (K1.out.bl hb)
      try replace K2 := Lib.hid (K2.out.bl hb)
      try replace K0 := Lib.hid (K0.out.bl hb)
      try replace G2 := Lib.hid (G2.out.bl hb)
      try replace L2 := Lib.hid (L2.out.bl hb)
      try replace HB := Lib.hid (HB.out.bl hb)
      try replace HS := Lib.hid (HS.out.bl hb)
      try replace HT := Lib.hid (HT.out.bl hb)
      try replace HK := Lib.hid (HK.out.bl hb)
      try replace hls := Lib.hid (hls.out.bl hb)
      try replace hll := Lib.hid (hll.out.bl hb)
      try replace HK4 := Lib.hid (HK4.out.bl hb)
      try replace HD4 := Lib.hid (HD4.out.bl hb)
      try replace HO4 := Lib.hid (HO4.out.bl hb)
      try replace HO2 := Lib.hid (HO2.out.bl hb)
      try replace HLEN := Lib.hid (HLEN.out.bl hb)
      try replace HL1 := Lib.hid (HL1.out.bl hb)
      try replace HV := Lib.hid (HV.out.bl hb)
      clear hb
      go_wp2_with fail
      refine (sapply_any _ _ (oneS nm) (recS nm (1 + at_) (1 + at_) []) _ HT.out (rec_is _ 3 nm (1 + at_) (1 + at_)) K1.out.1).mono ?_
      rintro e w7 ⟨⟨_, hx⟩, hb⟩
      obtain rfl := hx (by rw [E4.out]; decide)
      rw [E4.out]
      clear hx
      try replace HNM := Lib.hid (HNM.out.bl hb)
      try replace HAT := Lib.hid (HAT.out.bl hb)
      try replace E1 := Lib.hid (E1.out.bl hb)
      try replace HLL := Lib.hid (HLL.out.bl hb)
      try replace HLV := Lib.hid (HLV.out.bl hb)
      try replace E2 := Lib.hid (E2.out.bl hb)
      try replace E3 := Lib.hid (E3.out.bl hb)
      try replace E4 := Lib.hid (E4.out.bl hb)
      try replace E5 := Lib.hid (E5.out.bl hb)
      try replace E6 := Lib.hid (E6.out.bl hb)
      try replace K1 := Lib.hid (K1.out.bl hb)
      try replace K2 := Lib.hid (K2.out.bl hb)
      try replace K0 := Lib.hid (K0.out.bl hb)
      try replace G2 := Lib.hid (G2.out.bl hb)
      try replace L2 := Lib.hid (L2.out.bl hb)
      try replace HB := Lib.hid (HB.out.bl hb)
      try replace HS := Lib.hid (HS.out.bl hb)
      try replace HT := Lib.hid (HT.out.bl hb)
      try replace HK := Lib.hid (HK.out.bl hb)
      try replace hls := Lib.hid (hls.out.bl hb)
      try replace hll := Lib.hid (hll.out.bl hb)
      try replace HK4 := Lib.hid (HK4.out.bl hb)
      try replace HD4 := Lib.hid (HD4.out.bl hb)
      try replace HO4 := Lib.hid (HO4.out.bl hb)
      try replace HO2 := Lib.hid (HO2.out.bl hb)
      try replace HLEN := Lib.hid (HLEN.out.bl hb)
      try replace HL1 := Lib.hid (HL1.out.bl hb)
      try replace HV := Lib.hid (HV.out.bl hb)
      clear hb
      go_wp2_with fail
      refine (sapply_any _ _ (oneS nm) (recS (nm + 1) 0 0 []) _ HT.out (rec_is _ 3 (nm + 1) 0 0) K1.out.1).mono ?_
      rintro e w8 ⟨⟨_, hx⟩, hb⟩
      obtain rfl := hx (by rw [E5.out]; decide)
      rw [E5.out]
      clear hx
      try replace HNM := Lib.hid (HNM.out.bl hb)
      try replace HAT := Lib.hid (HAT.out.bl hb)
      try replace E1 := Lib.hid (E1.out.bl hb)
      try replace HLL := Lib.hid (HLL.out.bl hb)
      try replace HLV := Lib.hid (HLV.out.bl hb)
      try replace E2 := Lib.hid (E2.out.bl hb)
      try replace E3 := Lib.hid (E3.out.bl hb)
      try replace E4 := Lib.hid (E4.out.bl hb)
      try replace E5 := Lib.hid (E5.out.bl hb)
      try replace E6 := Lib.hid (E6.out.bl hb)
      try replace K1 := Lib.hid (K1.out.bl hb)
      try replace K2 := Lib.hid (K2.out.bl hb)
      try replace K0 := Lib.hid (K0.out.bl hb)
      try replace G2 := Lib.hid (G2.out.bl hb)
      try replace L2 := Lib.hid (L2.out.bl hb)
      try replace HB := Lib.hid (HB.out.bl hb)
      try replace HS := Lib.hid (HS.out.bl hb)
      try replace HT := Lib.hid (HT.out.bl hb)
      try replace HK := Lib.hid (HK.out.bl hb)
      try replace hls := Lib.hid (hls.out.bl hb)
      try replace hll := Lib.hid (hll.out.bl hb)
      try replace HK4 := Lib.hid (HK4.out.bl hb)
      try replace HD4 := Lib.hid (HD4.out.bl hb)
      try replace HO4 := Lib.hid (HO4.out.bl hb)
      try replace HO2 := Lib.hid (HO2.out.bl hb)
      try replace HLEN := Lib.hid (HLEN.out.bl hb)
      try replace HL1 := Lib.hid (HL1.out.bl hb)
      try replace HV := Lib.hid (HV.out.bl hb)
      clear hb
      go_wp2_with fail
      refine (sapply_any _ _ (oneS nm) (recC nm) _ HT.out (rec_is _ 1 nm 0 0) K1.out.1).mono ?_
      rintro e w9 ⟨⟨_, hx⟩, hb⟩
      obtain rfl := hx (by rw [E6.out]; decide)
      rw [E6.out]
      clear hx
      try replace HNM := Lib.hid (HNM.out.bl hb)
      try replace HAT := Lib.hid (HAT.out.bl hb)
      try replace E1 := Lib.hid (E1.out.bl hb)
      try replace HLL := Lib.hid (HLL.out.bl hb)
      try replace HLV := Lib.hid (HLV.out.bl hb)
      try replace E2 := Lib.hid (E2.out.bl hb)
      try replace E3 := Lib.hid (E3.out.bl hb)
      try replace E4 := Lib.hid (E4.out.bl hb)
      try replace E5 := Lib.hid (E5.out.bl hb)
      try replace E6 := Lib.hid (E6.out.bl hb)
      try replace K1 := Lib.hid (K1.out.bl hb)
      try replace K2 := Lib.hid (K2.out.bl hb)
      try replace K0 := Lib.hid (K0.out.bl hb)
      try replace G2 := Lib.hid (G2.out.bl hb)
      try replace L2 := Lib.hid (L2.out.bl hb)
      try replace HB := Lib.hid (HB.out.bl hb)
      try replace HS := Lib.hid (HS.out.bl hb)
      try replace HT := Lib.hid (HT.out.bl hb)
      try replace HK := Lib.hid (HK.out.bl hb)
      try replace hls := Lib.hid (hls.out.bl hb)
      try replace hll := Lib.hid (hll.out.bl hb)
      try replace HK4 := Lib.hid (HK4.out.bl hb)
      try replace HD4 := Lib.hid (HD4.out.bl hb)
      try replace HO4 := Lib.hid (HO4.out.bl hb)
      try replace HO2 := Lib.hid (HO2.out.bl hb)
      try replace HLEN := Lib.hid (HLEN.out.bl hb)
      try replace HL1 := Lib.hid (HL1.out.bl hb)
      try replace HV := Lib.hid (HV.out.bl hb)
      clear hb
      go_wp2_with fail
      refine (sapply_any _ _ (oneS nm) (recC 100) _ HT.out (rec_is _ 1 100 0 0) K1.out.1).mono ?_
      rintro e w10 ⟨⟨_, hx⟩, hb⟩
      obtain rfl := hx (by rw [(any_bad (oneS nm)).1]; decide)
      rw [(any_bad (oneS nm)).1]
      clear hx
      try replace HNM := Lib.hid (HNM.out.bl hb)
      try replace HAT := Lib.hid (HAT.out.bl hb)
      try replace E1 := Lib.hid (E1.out.bl hb)
      try replace HLL := Lib.hid (HLL.out.bl hb)
      try replace HLV := Lib.hid (HLV.out.bl hb)
      try replace E2 := Lib.hid (E2.out.bl hb)
      try replace E3 := Lib.hid (E3.out.bl hb)
      try replace E4 := Lib.hid (E4.out.bl hb)
      try replace E5 := Lib.hid (E5.out.bl hb)
      try replace E6 := Lib.hid (E6.out.bl hb)
      try replace K1 := Lib.hid (K1.out.bl hb)
      try replace K2 := Lib.hid (K2.out.bl hb)
      try replace K0 := Lib.hid (K0.out.bl hb)
      try replace G2 := Lib.hid (G2.out.bl hb)
      try replace L2 := Lib.hid (L2.out.bl hb)
      try replace HB := Lib.hid (HB.out.bl hb)
      try replace HS := Lib.hid (HS.out.bl hb)
      try replace HT := Lib.hid (HT.out.bl hb)
      try replace HK := Lib.hid (HK.out.bl hb)
      try replace hls := Lib.hid (hls.out.bl hb)
      try replace hll := Lib.hid (hll.out.bl hb)
      try replace HK4 := Lib.hid (HK4.out.bl hb)
      try replace HD4 := Lib.hid (HD4.out.bl hb)
      try replace HO4 := Lib.hid (HO4.out.bl hb)
      try replace HO2 := Lib.hid (HO2.out.bl hb)
      try replace HLEN := Lib.hid (HLEN.out.bl hb)
      try replace HL1 := Lib.hid (HL1.out.bl hb)
      try replace HV := Lib.hid (HV.out.bl hb)
      clear hb
      go_wp2_with fail
      refine (sapply_any _ _ (oneS nm) ⟨5, 0, 0, 0, []⟩ _ HT.out (rec_is _ 5 0 0 0) K1.out.1).mono ?_
      rintro e w11 ⟨⟨_, hx⟩, hb⟩
      obtain rfl := hx (by rw [(any_bad (oneS nm)).2]; decide)
      rw [(any_bad (oneS nm)).2]
      clear hx
      try replace HNM := Lib.hid (HNM.out.bl hb)
      try replace HAT := Lib.hid (HAT.out.bl hb)
      try replace E1 := Lib.hid (E1.out.bl hb)
      try replace HLL := Lib.hid (HLL.out.bl hb)
      try replace HLV := Lib.hid (HLV.out.bl hb)
      try replace E2 := Lib.hid (E2.out.bl hb)
      try replace E3 := Lib.hid (E3.out.bl hb)
      try replace E4 := Lib.hid (E4.out.bl hb)
      try replace E5 := Lib.hid (E5.out.bl hb)
      try replace E6 := Lib.hid (E6.out.bl hb)
      try replace K1 := Lib.hid (K1.out.bl hb)
      try replace K2 := Lib.hid (K2.out.bl hb)
      try replace K0 := Lib.hid (K0.out.bl hb)
      try replace G2 := Lib.hid (G2.out.bl hb)
      try replace L2 := Lib.hid (L2.out.bl hb)
      try replace HB := Lib.hid (HB.out.bl hb)
      try replace HS := Lib.hid (HS.out.bl hb)
      try replace HT := Lib.hid (HT.out.bl hb)
      try replace HK := Lib.hid (HK.out.bl hb)
      try replace hls := Lib.hid (hls.out.bl hb)
      try replace hll := Lib.hid (hll.out.bl hb)
      try replace HK4 := Lib.hid (HK4.out.bl hb)
      try replace HD4 := Lib.hid (HD4.out.bl hb)
      try replace HO4 := Lib.hid (HO4.out.bl hb)
      try replace HO2 := Lib.hid (HO2.out.bl hb)
      try replace HLEN := Lib.hid (HLEN.out.bl hb)
      try replace HL1 := Lib.hid (HL1.out.bl hb)
      try replace HV := Lib.hid (HV.out.bl hb)
      clear hb
      go_wp2_with fail
      refine (slength_any _ U nm _ HV.out K2.out.1.2).mono ?_
      rintro e w12 ⟨⟨_, hx⟩, hb⟩
      obtain rfl := hx _ G2.out
      rw [L2.out]
      clear hx
      try replace HNM := Lib.hid (HNM.out.bl hb)
      try replace HAT := Lib.hid (HAT.out.bl hb)
      try replace E1 := Lib.hid (E1.out.bl hb)
      try replace HLL := Lib.hid (HLL.out.bl hb)
      try replace HLV := Lib.hid (HLV.out.bl hb)
      try replace E2 := Lib.hid (E2.out.bl hb)
      try replace E3 := Lib.hid (E3.out.bl hb)
      try replace E4 := Lib.hid (E4.out.bl hb)
      try replace E5 := Lib.hid (E5.out.bl hb)
      try replace E6 := Lib.hid (E6.out.bl hb)
      try replace K1 := Lib.hid (K1.out.bl hb)
      try replace K2 := Lib.hid (K2.out.bl hb)
      try replace K0 := Lib.hid (K0.out.bl hb)
      try replace G2 := Lib.hid (G2.out.bl hb)
      try replace L2 := Lib.hid (L2.out.bl hb)
      try replace HB := Lib.hid (HB.out.bl hb)
      try replace HS := Lib.hid (HS.out.bl hb)
      try replace HT := Lib.hid (HT.out.bl hb)
      try replace HK := Lib.hid (HK.out.bl hb)
      try replace hls := Lib.hid (hls.out.bl hb)
      try replace hll := Lib.hid (hll.out.bl hb)
      try replace HK4 := Lib.hid (HK4.out.bl hb)
      try replace HD4 := Lib.hid (HD4.out.bl hb)
      try replace HO4 := Lib.hid (HO4.out.bl hb)
      try replace HO2 := Lib.hid (HO2.out.bl hb)
      try replace HLEN := Lib.hid (HLEN.out.bl hb)
      try replace HL1 := Lib.hid (HL1.out.bl hb)
      try replace HV := Lib.hid (HV.out.bl hb)
      clear hb
      go_wp2_with fail
      refine (wakes21_any _).mono ?_
      rintro e w13 ⟨rfl, hb⟩
      go_wp2_with fail
      go_ret
      exact ⟨rfl, HB.out.bl hb⟩
end Go.Proofs.Ytddcjekkimajpaa.ExtW

/- The walk of overdublaw21.StateSplices. -/
namespace Go.Proofs.Ytddcjekkimajpaa.ExtW
open Go.RowKit Go.Ov Go.Proofs.Ytddcjekkimajpaa.Need

set_option maxHeartbeats 1000000 in
theorem tall_any (v : Value) (t : TreeM) (w : World) (h : TreeIs w v t) (hn : t.row.length * 40 ≤ 140737488355328) :
    Calls Try.prog 20 #[v] w fun e w' => ∃ u, e = .returned u ∧ extE.Own 38 w' w.heap.size u t.row ∧ Bl w w' := by
  obtain ⟨b, uh, n, rfl, c0, _, _, _, hl, _⟩ := h
  have HL := Lib.hid hl
  simp only [Head.v] at c0
  clear hl
  have hu := Try.underlying91
  go_enter Try.func20, Try.ntmps20
  go_wp2_with fail
  refine (tfresh_any _ _ _ HL.out hn).mono ?_
  rintro e w1 ⟨u, rfl, ho, hb⟩
  obtain ⟨A, c, rfl⟩ := ho.slice
  go_wp2_with fail
  go_ret
  exact ⟨_, rfl, ho, hb⟩

theorem shift0 : ∀ (l : List Ext) (a : Int), 0 ≤ a → a ≤ 1000 → validFrom a l = true → shiftM 0 l = l
  | [], _, _, _, _ => rfl
  | x :: l, a, h0, h1, hv => by
    obtain ⟨e0, e1, e2, e3, e4, e5, e6, e7, e8, e9⟩ := valid_cons hv
    show shiftE 0 x :: shiftM 0 l = x :: l
    rw [shift0 l (a + x.take) (by omega) e8 e9]
    obtain ⟨x0, x1, x2, x3, x4⟩ := x
    simp only at e0
    simp only [shiftE, Int.add_zero]
    rw [wrap_id (by omega) (by omega)]
theorem get_some {s : StM} {id : Int} {t : TreeM} (h : getS s id = some t) : 0 ≤ findS s id ∧ ∃ x ∈ s, x.2 = t := by
  rcases findS_get s id with ⟨_, h2⟩ | ⟨i, hi, h1, _, h3⟩
  · rw [h] at h2; cases h2
  · rw [h] at h3
    exact ⟨by rw [h1]; omega, s[i], List.getElem_mem hi, (Option.some.inj h3).symm⟩
theorem splice_round {S : StM} {t : TreeM} {fr tt : Int} {x : List Ext} (hS : SOK S) (h1 : getS S 1 = some t) (f0 : 0 ≤ fr) (f1 : fr ≤ endM t.row) (f2 : fr ≤ tt) (f3 : tt ≤ 1000)
    (hx : validFrom 0 x = true) (hn : endM t.row + endM x ≤ 1000) :
    ∃ t', applyR S (recS 1 fr tt x) = (putL S 1 t', 0) ∧ endM t'.row = endM t.row - (min tt (endM t.row) - fr) + endM x := by
  obtain ⟨hf, y, hy, rfl⟩ := get_some h1
  have hv := hS.1.2 y hy
  generalize y.2 = t at *
  have b1 := valid_bd t.row 0 (by decide) hv
  have b2 := valid_bd x 0 (by decide) hx
  have eb : spliceBad t.row fr (min tt (endM t.row)) x = false := by simp [spliceBad, hx]; omega
  have el : spliceLong t.row fr (min tt (endM t.row)) x = false := by unfold spliceLong; simp; omega
  have e : spliceOf t (recS 1 fr tt x) = (spliceL t.row fr (min tt (endM t.row)) x, 0) := by
    show spliceM t.row fr (min tt (endM t.row)) x = _
    unfold spliceM
    rw [eb, el]; rfl
  refine ⟨treeM (spliceL t.row fr (min tt (endM t.row)) x), ?_, ?_⟩
  · rw [apply_S _ _ _ _ _ (by decide) (by decide) f0 f2 f3 hx, h1]
    simp only [applyT]
    rw [if_neg (by simp [recS]), if_neg (show ¬ endM t.row < (recS 1 fr tt x).fr by simp [recS]; omega), e, if_pos rfl]
    unfold putR
    rw [if_neg (show ¬ ((recS 1 fr tt x).track < 0 ∨ 99 < (recS 1 fr tt x).track) by simp [recS]), if_neg (fun h => by have := h.1; simp only [recS] at this; omega)]
    rfl
  · show endM (spliceL t.row fr (min tt (endM t.row)) x) = _
    rw [splice_end _ _ _ _ hv f0 (by omega) f1]
    omega
def twoS : StM := putL (oneS 1) 2 (treeM [])
def thrS (row : List Ext) : StM := putL twoS 2 (treeM row)
theorem two_step : applyR (oneS 1) (recC 2) = (twoS, 0) := (apply_C _ 2 (by decide) (by decide)).2.2 (by rw [one_get, if_neg (by decide)]) (by rw [show (oneS 1).length = 1 by unfold oneS; rw [put_len]; rfl]; decide)
theorem two_get (j : Int) : getS twoS j = if j = 2 then some (treeM []) else if j = 1 then some (treeM []) else none := by unfold twoS; rw [put_get, one_get]
theorem two_ok : SOK twoS := by
  have := (one_ok 1 (by decide) (by decide)).apply (r := recC 2) (by rw [two_step])
  rwa [two_step] at this
theorem thr_step (row : List Ext) (hv : validFrom 0 row = true) : applyR twoS (recS 2 0 0 row) = (thrS row, 0) := by
  have b1 := valid_bd row 0 (by decide) hv
  have h1 : getS twoS 2 = some (treeM []) := by rw [two_get, if_pos rfl]
  have e : spliceOf (treeM []) (recS 2 0 0 row) = (row, 0) := by
    show spliceM [] 0 0 row = _
    have h1 : spliceBad [] 0 0 row = false := by simp [spliceBad, hv, endM]
    have h2 : spliceLong [] 0 0 row = false := by unfold spliceLong; simp [endM]; simp [endM] at b1; omega
    unfold spliceM
    rw [h1, h2]
    simp [spliceL, cutM, shift0 row 0 (by decide) (by decide) hv]
    simp [shiftM]
  have hf := (get_some h1).1
  rw [apply_S _ _ _ _ _ (by decide) (by decide) (by decide) (by decide) (by decide) hv, h1]
  simp only [applyT]
  rw [if_neg (by simp [recS]), if_neg (show ¬ endM (treeM []).row < (recS 2 0 0 row).fr by simp [treeM, endM, recS]), e, if_pos rfl]
  unfold putR
  rw [if_neg (show ¬ ((recS 2 0 0 row).track < 0 ∨ 99 < (recS 2 0 0 row).track) by simp [recS]), if_neg (fun h => by have := h.1; simp only [recS] at this; omega)]
  rfl
theorem thr_ok (row : List Ext) (hv : validFrom 0 row = true) : SOK (thrS row) := by
  have := two_ok.apply (r := recS 2 0 0 row) (by rw [thr_step row hv])
  rwa [thr_step row hv] at this
theorem thr_get (row : List Ext) (j : Int) : getS (thrS row) j = if j = 2 then some (treeM row) else if j = 1 then some (treeM []) else none := by
  unfold thrS; rw [put_get, two_get]; split
  · rfl
  · rfl
theorem end_range {S : StM} {t : TreeM} (h1 : getS S 1 = some t) (fr : Int) (h0 : 0 ≤ fr) (h2 : endM t.row < fr) (h3 : fr ≤ 1000) : applyR S (recS 1 fr fr []) = ([], 7) := by
  rw [apply_S _ _ _ _ _ (by decide) (by decide) h0 (Int.le_refl _) h3 rfl, h1]
  simp only [applyT]
  rw [if_neg (by simp [recS]), if_pos (show endM t.row < (recS 1 fr fr []).fr from h2)]
theorem end_none {S : StM} (h1 : getS S 3 = none) : applyR S (recS 3 0 0 []) = ([], 5) := by
  rw [apply_S _ _ _ _ _ (by decide) (by decide) (by decide) (by decide) (by decide) rfl, h1]
theorem end_undo (S : StM) : applyR S ⟨4, 0, 0, 0, []⟩ = ([], 1) := by
  unfold applyR; rw [if_pos (.inr (by decide))]
theorem piece_ok (i : Nat) (q : Int) (hi : i < 6) (h0 : 0 < q) (h1 : q ≤ 60) : validFrom 0 [(⟨0, 9 + i, 64, 64 - q, q⟩ : Ext)] = true := by
  simp [validFrom, oneB]; omega
theorem piece_end (a b c d e : Int) : endM [(⟨a, b, c, d, e⟩ : Ext)] = e := by simp [endM]

theorem piece_is (w : World) (b c d q : Int) : extE.Is (w.alloc (.cells #[.int .i64 0, .int .i64 b, .int .i64 c, .int .i64 d, .int .i64 q] 38)) (.slice (some ⟨w.heap.size, 0, none⟩) 1 1) [(⟨0, b, c, d, q⟩ : Ext)] :=
  (Enc.Own.lit (E := extE) (e := 38) w 0 [⟨0, b, c, d, q⟩] #[.int .i64 0, .int .i64 b, .int .i64 c, .int .i64 d, .int .i64 q] rfl 1 rfl (Nat.zero_le _) (by decide) rfl).is

set_option maxRecDepth 100000 in
set_option maxHeartbeats 2000000 in
theorem statesplices_walk (vl : Value) (ls : List (List Int)) (vr : Value) (rows : List Ext) (w : World) (hl : ArgIntss w vl ls) (hr : ArgExts w vr rows) :
    Calls Try.prog 5 #[vl, vr] w fun e w' => e = .returned (.bool true) ∧ Bl w w' := by
  obtain ⟨A, c, hs, rfl, h1, h2, hA, hR⟩ := hl
  have HA := Lib.hid hA
  have hl : hs.length ≤ 9223372036854775807 := by unfold maxLen at h2; omega
  have HRW := Lib.hid hr.1
  obtain ⟨⟨A', c', rfl, _⟩, _⟩ := hr
  clear hA hR h1 h2
  have hv := rowM_valid rows 5
  have hn := rowM_len rows 5
  obtain ⟨row, hrow⟩ : ∃ row, row = rowM rows 5 := ⟨_, rfl⟩
  rw [← hrow] at hv hn
  have HROW := Lib.hid hrow
  have E3 := Lib.hid (thr_step row hv)
  have K3 := Lib.hid (thr_ok row hv)
  have G3 := Lib.hid (thr_get row)
  have HRL := Lib.hid (show (treeM row).row.length * 40 ≤ 140737488355328 by show row.length * 40 ≤ _; omega)
  clear hrow hv hn
  have HB := Lib.hid (Bl.refl w)
  have hu := Try.underlying33
  go_enter Try.func5, Try.ntmps5
  go_wp2_with fail
  refine (snew_any _).mono ?_
  rintro e w1 ⟨s0, rfl, hs0, hb⟩
  try replace HA := Lib.hid (HA.out.bl hb)
  try replace HRW := Lib.hid (HRW.out.bl hb)
  try replace HROW := Lib.hid (HROW.out.bl hb)
  try replace E3 := Lib.hid (E3.out.bl hb)
  try replace K3 := Lib.hid (K3.out.bl hb)
  try replace G3 := Lib.hid (G3.out.bl hb)
  try replace HRL := Lib.hid (HRL.out.bl hb)
  try replace HB := Lib.hid (HB.out.bl hb)
  clear hb
  obtain ⟨b0, _, _, rfl, _⟩ := id hs0
  have HS := Lib.hid hs0
  have hb01 := HB.out
  clear hs0 HB
  have HB := Lib.hid (Bl.refl w1)
  go_wp2_with fail
  go_loopg [5, 6] 3 (fun g vs i wr => ((i = .int .i64 1 ∧ g = 3 ∧ Hid (StateIs wr vs [])) ∨ (i = .int .i64 2 ∧ g = 2 ∧ Hid (StateIs wr vs (oneS 1))) ∨ (i = .int .i64 3 ∧ g = 1 ∧ Hid (StateIs wr vs twoS))) ∧ Hid (Bl w1 wr))
  case atStart => exact ⟨.inl ⟨rfl, rfl, HS⟩, HB⟩
  case round =>
    clear HS HB
    obtain ⟨hh, HB⟩ := hrel
    rcases hh with ⟨rfl, rfl, HS⟩ | ⟨rfl, rfl, HS⟩ | ⟨rfl, rfl, HS⟩
    · have K0 := Lib.hid SOK.nil
      have E1 := Lib.hid (show applyR [] (recC 1) = (oneS 1, 0) from (apply_C [] 1 (by decide) (by decide)).2.2 rfl (by decide))
      obtain ⟨bS, _, _, e0, _⟩ := id HS.out
      subst e0
      go_wp2_with fail
      refine (sapply_any _ _ [] (recC 1) _ HS.out (rec_is _ 1 1 0 0) K0.out.1).mono ?_
      rintro e w3 ⟨⟨hx, _⟩, hb⟩
      obtain ⟨T, rfl, hst⟩ := hx (by rw [E1.out])
      rw [E1.out] at hst
      obtain ⟨bT, _, _, rfl, _⟩ := id hst
      clear hx
      try replace HA := Lib.hid (HA.out.bl hb)
      try replace HRW := Lib.hid (HRW.out.bl hb)
      try replace HROW := Lib.hid (HROW.out.bl hb)
      try replace E3 := Lib.hid (E3.out.bl hb)
      try replace K3 := Lib.hid (K3.out.bl hb)
      try replace G3 := Lib.hid (G3.out.bl hb)
      try replace HRL := Lib.hid (HRL.out.bl hb)
      try replace HB := Lib.hid (HB.out.bl hb)
      try replace HS := Lib.hid (HS.out.bl hb)
      try replace K0 := Lib.hid (K0.out.bl hb)
      try replace E1 := Lib.hid (E1.out.bl hb)
      clear hb
      have HT := Lib.hid hst
      clear hst
      go_wp2_with fail
      go_roundg 2
      case measure => omega
      case rel => exact ⟨.inr (.inl ⟨rfl, rfl, HT⟩), HB⟩
    · have K0 := Lib.hid (one_ok 1 (by decide) (by decide))
      have E1 := Lib.hid two_step
      obtain ⟨bS, _, _, e0, _⟩ := id HS.out
      subst e0
      go_wp2_with fail
      refine (sapply_any _ _ (oneS 1) (recC 2) _ HS.out (rec_is _ 1 2 0 0) K0.out.1).mono ?_
      rintro e w3 ⟨⟨hx, _⟩, hb⟩
      obtain ⟨T, rfl, hst⟩ := hx (by rw [E1.out])
      rw [E1.out] at hst
      obtain ⟨bT, _, _, rfl, _⟩ := id hst
      clear hx
      try replace HA := Lib.hid (HA.out.bl hb)
      try replace HRW := Lib.hid (HRW.out.bl hb)
      try replace HROW := Lib.hid (HROW.out.bl hb)
      try replace E3 := Lib.hid (E3.out.bl hb)
      try replace K3 := Lib.hid (K3.out.bl hb)
      try replace G3 := Lib.hid (G3.out.bl hb)
      try replace HRL := Lib.hid (HRL.out.bl hb)
      try replace HB := Lib.hid (HB.out.bl hb)
      try replace HS := Lib.hid (HS.out.bl hb)
      try replace K0 := Lib.hid (K0.out.bl hb)
      try replace E1 := Lib.hid (E1.out.bl hb)
      try replace HT := Lib.hid (HT.out.bl hb)
      clear hb
      have HT := Lib.hid hst
      clear hst
      go_wp2_with fail
      go_roundg 1
      case measure => omega
      case rel => exact ⟨.inr (.inr ⟨rfl, rfl, HT⟩), HB⟩
    · have K2 := Lib.hid two_ok
      obtain ⟨bS, _, _, e0, _⟩ := id HS.out
      subst e0
      go_wp2_with fail
      have HRWr := Lib.hid (HRW.out.bl HB.out)
      refine (row16_any _ _ 5 _ HRWr.out (by decide)).mono ?_
      rintro e w2 ⟨u, rfl, ho, hb⟩
      rw [← HROW.out] at ho
      obtain ⟨A2, c2, rfl⟩ := ho.slice
      clear HRWr
      try replace HA := Lib.hid (HA.out.bl hb)
      try replace HRW := Lib.hid (HRW.out.bl hb)
      try replace HROW := Lib.hid (HROW.out.bl hb)
      try replace E3 := Lib.hid (E3.out.bl hb)
      try replace K3 := Lib.hid (K3.out.bl hb)
      try replace G3 := Lib.hid (G3.out.bl hb)
      try replace HRL := Lib.hid (HRL.out.bl hb)
      try replace HB := Lib.hid (HB.out.bl hb)
      try replace HS := Lib.hid (HS.out.bl hb)
      try replace K0 := Lib.hid (K0.out.bl hb)
      try replace E1 := Lib.hid (E1.out.bl hb)
      try replace HT := Lib.hid (HT.out.bl hb)
      try replace K2 := Lib.hid (K2.out.bl hb)
      try replace HRWr := Lib.hid (HRWr.out.bl hb)
      clear hb
      have HR := Lib.hid ho.is
      clear ho
      go_wp2_with fail
      refine (sapply_any _ _ twoS (recS 2 0 0 row) _ HS.out ⟨_, rfl, HR.out⟩ K2.out.1).mono ?_
      rintro e w3 ⟨⟨hx, _⟩, hb⟩
      obtain ⟨T, rfl, hst⟩ := hx (by rw [E3.out])
      rw [E3.out] at hst
      obtain ⟨bT, _, _, rfl, _⟩ := id hst
      clear hx
      try replace HA := Lib.hid (HA.out.bl hb)
      try replace HRW := Lib.hid (HRW.out.bl hb)
      try replace HROW := Lib.hid (HROW.out.bl hb)
      try replace E3 := Lib.hid (E3.out.bl hb)
      try replace K3 := Lib.hid (K3.out.bl hb)
      try replace G3 := Lib.hid (G3.out.bl hb)
      try replace HRL := Lib.hid (HRL.out.bl hb)
      try replace HB := Lib.hid (HB.out.bl hb)
      try replace HS := Lib.hid (HS.out.bl hb)
      try replace K0 := Lib.hid (K0.out.bl hb)
      try replace E1 := Lib.hid (E1.out.bl hb)
      try replace HT := Lib.hid (HT.out.bl hb)
      try replace K2 := Lib.hid (K2.out.bl hb)
      try replace HRWr := Lib.hid (HRWr.out.bl hb)
      try replace HR := Lib.hid (HR.out.bl hb)
      clear hb
      have HT := Lib.hid hst
      clear hst
      clear HS
      go_wp2_with fail
      go_loopg [5, 12, 13] 6 (fun g vs n i wr => ∃ (k : Nat) (S : StM) (t : TreeM), k ≤ 6 ∧ g = 6 - k ∧ i = .int .i64 k ∧ n = .int .i64 (endM t.row) ∧ Hid (SOK S) ∧ Hid (getS S 1 = some t) ∧ Hid (getS S 2 = some (treeM row)) ∧ Hid (getS S 3 = none) ∧ 0 ≤ endM t.row ∧ endM t.row ≤ 60 * k ∧ Hid (StateIs wr vs S) ∧ Hid (extE.Is wr (.slice A2 row.length c2) row) ∧ Hid (Bl w1 wr))
      case atStart => exact ⟨0, thrS row, treeM [], by omega, rfl, rfl, rfl, K3, Lib.hid (by rw [G3.out]; rfl), Lib.hid (by rw [G3.out]; rfl), Lib.hid (by rw [G3.out]; rfl), Int.le_refl _, by decide, HT, HR, HB⟩
      case round =>
        clear HT HB HR E3 K3 G3
        obtain ⟨k, S, t, hk6, rfl, rfl, rfl, HK, HG1, HG2, HG3, n0, n1, HS, HR, HB⟩ := hrel
        obtain ⟨bS, _, _, e0, _⟩ := id HS.out
        subst e0
        by_cases hlt : k < hs.length ∧ k < 6
        · obtain ⟨hkl, hk⟩ := hlt
          have hkl' : (k : Int) < hs.length := by omega
          have hk' : (k : Int) < 6 := by omega
          obtain ⟨ad, rfl, d0⟩ := head_at HA.out k hkl
          replace d0 := HB.out.cell d0
          generalize hs[k] = y at d0
          obtain ⟨Ay, ny, cy⟩ := y
          unfold Head.v at d0
          simp only at d0
          rcases (show 60 < ny ∨ (0 < ny ∧ ny ≤ 60) ∨ ny = 0 by omega) with hq | ⟨hq, hq2⟩ | rfl
          · have hq' : (60 : Int) < ny := by omega
            go_wp2_with fail
            refine (within_any _ _ _ (by omega)).mono ?_
            rintro e w3 ⟨rfl, rfl⟩
            have hfr := within_bd (420 + k) (endM t.row + 1) (by omega)
            generalize within (420 + k) (endM t.row + 1) = fr at hfr ⊢
            obtain ⟨f0, f1⟩ := hfr
            obtain ⟨t', E1, E2⟩ := splice_round (fr := fr) (tt := min (fr + k) 1000) HK.out HG1.out f0 (by omega) (by omega) (by omega) (show validFrom 0 [(⟨0, 9 + (k : Int), 64, 4, 60⟩ : Ext)] = true from piece_ok k 60 hk (by decide) (by decide)) (by rw [(piece_end _ _ _ _ _)]; omega)
            have HE1 := Lib.hid E1
            have HNK := Lib.hid (HK.out.apply (r := recS 1 fr (min (fr + k) 1000) [⟨0, 9 + k, 64, 4, 60⟩]) (by rw [E1]))
            have HNG1 := Lib.hid (show getS (putL S 1 t') 1 = some t' by rw [put_get, if_pos rfl])
            have HNG2 := Lib.hid (show getS (putL S 1 t') 2 = some (treeM row) by rw [put_get, if_neg (by decide)]; exact HG2.out)
            have HNG3 := Lib.hid (show getS (putL S 1 t') 3 = none by rw [put_get, if_neg (by decide)]; exact HG3.out)
            rw [E1] at HNK
            rw [(piece_end _ _ _ _ _)] at E2
            generalize putL S 1 t' = S' at *
            clear E1
            go_wp2_with fail
            refine (sapply_any _ _ S (recS 1 fr (min (fr + k) 1000) [⟨0, 9 + k, 64, 4, 60⟩]) _ (HS.out.bl ((Bl.refl _).alloc _)) ⟨_, rfl, (piece_is wr _ _ _ _)⟩ HK.out.1).mono ?_
            rintro e w4 ⟨⟨hx, _⟩, hb0⟩
            obtain ⟨uT, rfl, hst⟩ := hx (by rw [HE1.out])
            rw [HE1.out] at hst
            obtain ⟨bT, _, _, rfl, _⟩ := id hst
            have hb := (Bl.bl ((Bl.refl wr).alloc _) hb0)
            clear hx hb0 HS HK HG1 HG2 HG3 HE1
            try replace HA := Lib.hid (HA.out.bl hb)
            try replace HRW := Lib.hid (HRW.out.bl hb)
            try replace HROW := Lib.hid (HROW.out.bl hb)
            try replace E3 := Lib.hid (E3.out.bl hb)
            try replace K3 := Lib.hid (K3.out.bl hb)
            try replace G3 := Lib.hid (G3.out.bl hb)
            try replace HRL := Lib.hid (HRL.out.bl hb)
            try replace HB := Lib.hid (HB.out.bl hb)
            try replace HS := Lib.hid (HS.out.bl hb)
            try replace K0 := Lib.hid (K0.out.bl hb)
            try replace E1 := Lib.hid (E1.out.bl hb)
            try replace HT := Lib.hid (HT.out.bl hb)
            try replace K2 := Lib.hid (K2.out.bl hb)
            try replace HRWr := Lib.hid (HRWr.out.bl hb)
            try replace HR := Lib.hid (HR.out.bl hb)
            try replace HE1 := Lib.hid (HE1.out.bl hb)
            try replace HNK := Lib.hid (HNK.out.bl hb)
            try replace HNG1 := Lib.hid (HNG1.out.bl hb)
            try replace HNG2 := Lib.hid (HNG2.out.bl hb)
            try replace HNG3 := Lib.hid (HNG3.out.bl hb)
            clear hb
            have HS := Lib.hid hst
            clear hst
            go_wp2_with fail
            refine (slength_any _ S' 1 _ HS.out HNK.out.1.2).mono ?_
            rintro e w5 ⟨⟨_, hx⟩, hb⟩
            obtain rfl := hx _ HNG1.out
            clear hx
            try replace HA := Lib.hid (HA.out.bl hb)
            try replace HRW := Lib.hid (HRW.out.bl hb)
            try replace HROW := Lib.hid (HROW.out.bl hb)
            try replace E3 := Lib.hid (E3.out.bl hb)
            try replace K3 := Lib.hid (K3.out.bl hb)
            try replace G3 := Lib.hid (G3.out.bl hb)
            try replace HRL := Lib.hid (HRL.out.bl hb)
            try replace HB := Lib.hid (HB.out.bl hb)
            try replace HS := Lib.hid (HS.out.bl hb)
            try replace K0 := Lib.hid (K0.out.bl hb)
            try replace E1 := Lib.hid (E1.out.bl hb)
            try replace HT := Lib.hid (HT.out.bl hb)
            try replace K2 := Lib.hid (K2.out.bl hb)
            try replace HRWr := Lib.hid (HRWr.out.bl hb)
            try replace HR := Lib.hid (HR.out.bl hb)
            try replace HE1 := Lib.hid (HE1.out.bl hb)
            try replace HNK := Lib.hid (HNK.out.bl hb)
            try replace HNG1 := Lib.hid (HNG1.out.bl hb)
            try replace HNG2 := Lib.hid (HNG2.out.bl hb)
            try replace HNG3 := Lib.hid (HNG3.out.bl hb)
            clear hb
            go_wp2_with fail
            refine (stree_any _ S' 2 _ HS.out).mono ?_
            rintro e w6 ⟨⟨_, hx⟩, hb⟩
            obtain ⟨uR, rfl, ht⟩ := hx _ HNG2.out
            obtain ⟨bR, _, _, rfl, _⟩ := id ht
            have HT := Lib.hid ht
            clear hx ht
            try replace HA := Lib.hid (HA.out.bl hb)
            try replace HRW := Lib.hid (HRW.out.bl hb)
            try replace HROW := Lib.hid (HROW.out.bl hb)
            try replace E3 := Lib.hid (E3.out.bl hb)
            try replace K3 := Lib.hid (K3.out.bl hb)
            try replace G3 := Lib.hid (G3.out.bl hb)
            try replace HRL := Lib.hid (HRL.out.bl hb)
            try replace HB := Lib.hid (HB.out.bl hb)
            try replace HS := Lib.hid (HS.out.bl hb)
            try replace K0 := Lib.hid (K0.out.bl hb)
            try replace E1 := Lib.hid (E1.out.bl hb)
            try replace HT := Lib.hid (HT.out.bl hb)
            try replace K2 := Lib.hid (K2.out.bl hb)
            try replace HRWr := Lib.hid (HRWr.out.bl hb)
            try replace HR := Lib.hid (HR.out.bl hb)
            try replace HE1 := Lib.hid (HE1.out.bl hb)
            try replace HNK := Lib.hid (HNK.out.bl hb)
            try replace HNG1 := Lib.hid (HNG1.out.bl hb)
            try replace HNG2 := Lib.hid (HNG2.out.bl hb)
            try replace HNG3 := Lib.hid (HNG3.out.bl hb)
            clear hb
            have hn' : endM t.row - (min (fr + k) (endM t.row) - fr) + 60 = endM t'.row := by omega
            go_wp2_with fail
            refine (tall_any _ (treeM row) _ HT.out HRL.out).mono ?_
            rintro e w7 ⟨uA, rfl, ho, hb⟩
            try replace HA := Lib.hid (HA.out.bl hb)
            try replace HRW := Lib.hid (HRW.out.bl hb)
            try replace HROW := Lib.hid (HROW.out.bl hb)
            try replace E3 := Lib.hid (E3.out.bl hb)
            try replace K3 := Lib.hid (K3.out.bl hb)
            try replace G3 := Lib.hid (G3.out.bl hb)
            try replace HRL := Lib.hid (HRL.out.bl hb)
            try replace HB := Lib.hid (HB.out.bl hb)
            try replace HS := Lib.hid (HS.out.bl hb)
            try replace K0 := Lib.hid (K0.out.bl hb)
            try replace E1 := Lib.hid (E1.out.bl hb)
            try replace HT := Lib.hid (HT.out.bl hb)
            try replace K2 := Lib.hid (K2.out.bl hb)
            try replace HRWr := Lib.hid (HRWr.out.bl hb)
            try replace HR := Lib.hid (HR.out.bl hb)
            try replace HE1 := Lib.hid (HE1.out.bl hb)
            try replace HNK := Lib.hid (HNK.out.bl hb)
            try replace HNG1 := Lib.hid (HNG1.out.bl hb)
            try replace HNG2 := Lib.hid (HNG2.out.bl hb)
            try replace HNG3 := Lib.hid (HNG3.out.bl hb)
            clear hb
            have HA := Lib.hid ho.is
            clear ho
            go_wp2_with fail
            refine (sameExt_any _ _ row row _ HA.out HR.out).mono ?_
            rintro e w8 ⟨rfl, hb⟩
            try replace HA := Lib.hid (HA.out.bl hb)
            try replace HRW := Lib.hid (HRW.out.bl hb)
            try replace HROW := Lib.hid (HROW.out.bl hb)
            try replace E3 := Lib.hid (E3.out.bl hb)
            try replace K3 := Lib.hid (K3.out.bl hb)
            try replace G3 := Lib.hid (G3.out.bl hb)
            try replace HRL := Lib.hid (HRL.out.bl hb)
            try replace HB := Lib.hid (HB.out.bl hb)
            try replace HS := Lib.hid (HS.out.bl hb)
            try replace K0 := Lib.hid (K0.out.bl hb)
            try replace E1 := Lib.hid (E1.out.bl hb)
            try replace HT := Lib.hid (HT.out.bl hb)
            try replace K2 := Lib.hid (K2.out.bl hb)
            try replace HRWr := Lib.hid (HRWr.out.bl hb)
            try replace HR := Lib.hid (HR.out.bl hb)
            try replace HE1 := Lib.hid (HE1.out.bl hb)
            try replace HNK := Lib.hid (HNK.out.bl hb)
            try replace HNG1 := Lib.hid (HNG1.out.bl hb)
            try replace HNG2 := Lib.hid (HNG2.out.bl hb)
            try replace HNG3 := Lib.hid (HNG3.out.bl hb)
            clear hb
            go_wp2_with fail
            go_roundg (6 - (k + 1))
            case measure => omega
            case rel => exact ⟨k + 1, S', t', by omega, rfl, by go_num, (congrArg (Value.int .i64) (by omega)), HNK, HNG1, HNG2, HNG3, by omega, by omega, HS, HR, HB⟩
          · have hq' : (0 : Int) < ny := by omega
            have hq3 : (ny : Int) ≤ 60 := by omega
            go_wp2_with fail
            refine (within_any _ _ _ (by omega)).mono ?_
            rintro e w3 ⟨rfl, rfl⟩
            have hfr := within_bd (ny * 7 + k) (endM t.row + 1) (by omega)
            generalize within (ny * 7 + k) (endM t.row + 1) = fr at hfr ⊢
            obtain ⟨f0, f1⟩ := hfr
            obtain ⟨t', E1, E2⟩ := splice_round (fr := fr) (tt := min (fr + k) 1000) HK.out HG1.out f0 (by omega) (by omega) (by omega) (piece_ok k ny hk hq' hq3) (by rw [(piece_end _ _ _ _ _)]; omega)
            have HE1 := Lib.hid E1
            have HNK := Lib.hid (HK.out.apply (r := recS 1 fr (min (fr + k) 1000) [⟨0, 9 + k, 64, 64 - ny, ny⟩]) (by rw [E1]))
            have HNG1 := Lib.hid (show getS (putL S 1 t') 1 = some t' by rw [put_get, if_pos rfl])
            have HNG2 := Lib.hid (show getS (putL S 1 t') 2 = some (treeM row) by rw [put_get, if_neg (by decide)]; exact HG2.out)
            have HNG3 := Lib.hid (show getS (putL S 1 t') 3 = none by rw [put_get, if_neg (by decide)]; exact HG3.out)
            rw [E1] at HNK
            rw [(piece_end _ _ _ _ _)] at E2
            generalize putL S 1 t' = S' at *
            clear E1
            go_wp2_with fail
            refine (sapply_any _ _ S (recS 1 fr (min (fr + k) 1000) [⟨0, 9 + k, 64, 64 - ny, ny⟩]) _ (HS.out.bl ((Bl.refl _).alloc _)) ⟨_, rfl, (piece_is wr _ _ _ _)⟩ HK.out.1).mono ?_
            rintro e w4 ⟨⟨hx, _⟩, hb0⟩
            obtain ⟨uT, rfl, hst⟩ := hx (by rw [HE1.out])
            rw [HE1.out] at hst
            obtain ⟨bT, _, _, rfl, _⟩ := id hst
            have hb := (Bl.bl ((Bl.refl wr).alloc _) hb0)
            clear hx hb0 HS HK HG1 HG2 HG3 HE1
            try replace HA := Lib.hid (HA.out.bl hb)
            try replace HRW := Lib.hid (HRW.out.bl hb)
            try replace HROW := Lib.hid (HROW.out.bl hb)
            try replace E3 := Lib.hid (E3.out.bl hb)
            try replace K3 := Lib.hid (K3.out.bl hb)
            try replace G3 := Lib.hid (G3.out.bl hb)
            try replace HRL := Lib.hid (HRL.out.bl hb)
            try replace HB := Lib.hid (HB.out.bl hb)
            try replace HS := Lib.hid (HS.out.bl hb)
            try replace K0 := Lib.hid (K0.out.bl hb)
            try replace E1 := Lib.hid (E1.out.bl hb)
            try replace HT := Lib.hid (HT.out.bl hb)
            try replace K2 := Lib.hid (K2.out.bl hb)
            try replace HRWr := Lib.hid (HRWr.out.bl hb)
            try replace HR := Lib.hid (HR.out.bl hb)
            try replace HE1 := Lib.hid (HE1.out.bl hb)
            try replace HNK := Lib.hid (HNK.out.bl hb)
            try replace HNG1 := Lib.hid (HNG1.out.bl hb)
            try replace HNG2 := Lib.hid (HNG2.out.bl hb)
            try replace HNG3 := Lib.hid (HNG3.out.bl hb)
            clear hb
            have HS := Lib.hid hst
            clear hst
            go_wp2_with fail
            refine (slength_any _ S' 1 _ HS.out HNK.out.1.2).mono ?_
            rintro e w5 ⟨⟨_, hx⟩, hb⟩
            obtain rfl := hx _ HNG1.out
            clear hx
            try replace HA := Lib.hid (HA.out.bl hb)
            try replace HRW := Lib.hid (HRW.out.bl hb)
            try replace HROW := Lib.hid (HROW.out.bl hb)
            try replace E3 := Lib.hid (E3.out.bl hb)
            try replace K3 := Lib.hid (K3.out.bl hb)
            try replace G3 := Lib.hid (G3.out.bl hb)
            try replace HRL := Lib.hid (HRL.out.bl hb)
            try replace HB := Lib.hid (HB.out.bl hb)
            try replace HS := Lib.hid (HS.out.bl hb)
            try replace K0 := Lib.hid (K0.out.bl hb)
            try replace E1 := Lib.hid (E1.out.bl hb)
            try replace HT := Lib.hid (HT.out.bl hb)
            try replace K2 := Lib.hid (K2.out.bl hb)
            try replace HRWr := Lib.hid (HRWr.out.bl hb)
            try replace HR := Lib.hid (HR.out.bl hb)
            try replace HE1 := Lib.hid (HE1.out.bl hb)
            try replace HNK := Lib.hid (HNK.out.bl hb)
            try replace HNG1 := Lib.hid (HNG1.out.bl hb)
            try replace HNG2 := Lib.hid (HNG2.out.bl hb)
            try replace HNG3 := Lib.hid (HNG3.out.bl hb)
            clear hb
            go_wp2_with fail
            refine (stree_any _ S' 2 _ HS.out).mono ?_
            rintro e w6 ⟨⟨_, hx⟩, hb⟩
            obtain ⟨uR, rfl, ht⟩ := hx _ HNG2.out
            obtain ⟨bR, _, _, rfl, _⟩ := id ht
            have HT := Lib.hid ht
            clear hx ht
            try replace HA := Lib.hid (HA.out.bl hb)
            try replace HRW := Lib.hid (HRW.out.bl hb)
            try replace HROW := Lib.hid (HROW.out.bl hb)
            try replace E3 := Lib.hid (E3.out.bl hb)
            try replace K3 := Lib.hid (K3.out.bl hb)
            try replace G3 := Lib.hid (G3.out.bl hb)
            try replace HRL := Lib.hid (HRL.out.bl hb)
            try replace HB := Lib.hid (HB.out.bl hb)
            try replace HS := Lib.hid (HS.out.bl hb)
            try replace K0 := Lib.hid (K0.out.bl hb)
            try replace E1 := Lib.hid (E1.out.bl hb)
            try replace HT := Lib.hid (HT.out.bl hb)
            try replace K2 := Lib.hid (K2.out.bl hb)
            try replace HRWr := Lib.hid (HRWr.out.bl hb)
            try replace HR := Lib.hid (HR.out.bl hb)
            try replace HE1 := Lib.hid (HE1.out.bl hb)
            try replace HNK := Lib.hid (HNK.out.bl hb)
            try replace HNG1 := Lib.hid (HNG1.out.bl hb)
            try replace HNG2 := Lib.hid (HNG2.out.bl hb)
            try replace HNG3 := Lib.hid (HNG3.out.bl hb)
            clear hb
            have hn' : endM t.row - (min (fr + k) (endM t.row) - fr) + (ny : Int) = endM t'.row := by omega
            go_wp2_with fail
            refine (tall_any _ (treeM row) _ HT.out HRL.out).mono ?_
            rintro e w7 ⟨uA, rfl, ho, hb⟩
            try replace HA := Lib.hid (HA.out.bl hb)
            try replace HRW := Lib.hid (HRW.out.bl hb)
            try replace HROW := Lib.hid (HROW.out.bl hb)
            try replace E3 := Lib.hid (E3.out.bl hb)
            try replace K3 := Lib.hid (K3.out.bl hb)
            try replace G3 := Lib.hid (G3.out.bl hb)
            try replace HRL := Lib.hid (HRL.out.bl hb)
            try replace HB := Lib.hid (HB.out.bl hb)
            try replace HS := Lib.hid (HS.out.bl hb)
            try replace K0 := Lib.hid (K0.out.bl hb)
            try replace E1 := Lib.hid (E1.out.bl hb)
            try replace HT := Lib.hid (HT.out.bl hb)
            try replace K2 := Lib.hid (K2.out.bl hb)
            try replace HRWr := Lib.hid (HRWr.out.bl hb)
            try replace HR := Lib.hid (HR.out.bl hb)
            try replace HE1 := Lib.hid (HE1.out.bl hb)
            try replace HNK := Lib.hid (HNK.out.bl hb)
            try replace HNG1 := Lib.hid (HNG1.out.bl hb)
            try replace HNG2 := Lib.hid (HNG2.out.bl hb)
            try replace HNG3 := Lib.hid (HNG3.out.bl hb)
            clear hb
            have HA := Lib.hid ho.is
            clear ho
            go_wp2_with fail
            refine (sameExt_any _ _ row row _ HA.out HR.out).mono ?_
            rintro e w8 ⟨rfl, hb⟩
            try replace HA := Lib.hid (HA.out.bl hb)
            try replace HRW := Lib.hid (HRW.out.bl hb)
            try replace HROW := Lib.hid (HROW.out.bl hb)
            try replace E3 := Lib.hid (E3.out.bl hb)
            try replace K3 := Lib.hid (K3.out.bl hb)
            try replace G3 := Lib.hid (G3.out.bl hb)
            try replace HRL := Lib.hid (HRL.out.bl hb)
            try replace HB := Lib.hid (HB.out.bl hb)
            try replace HS := Lib.hid (HS.out.bl hb)
            try replace K0 := Lib.hid (K0.out.bl hb)
            try replace E1 := Lib.hid (E1.out.bl hb)
            try replace HT := Lib.hid (HT.out.bl hb)
            try replace K2 := Lib.hid (K2.out.bl hb)
            try replace HRWr := Lib.hid (HRWr.out.bl hb)
            try replace HR := Lib.hid (HR.out.bl hb)
            try replace HE1 := Lib.hid (HE1.out.bl hb)
            try replace HNK := Lib.hid (HNK.out.bl hb)
            try replace HNG1 := Lib.hid (HNG1.out.bl hb)
            try replace HNG2 := Lib.hid (HNG2.out.bl hb)
            try replace HNG3 := Lib.hid (HNG3.out.bl hb)
            clear hb
            go_wp2_with fail
            go_roundg (6 - (k + 1))
            case measure => omega
            case rel => exact ⟨k + 1, S', t', by omega, rfl, by go_num, (congrArg (Value.int .i64) (by omega)), HNK, HNG1, HNG2, HNG3, by omega, by omega, HS, HR, HB⟩
          · go_wp2_with fail
            refine (within_any _ _ _ (by omega)).mono ?_
            rintro e w3 ⟨rfl, rfl⟩
            have hfr := within_bd ((k : Int)) (endM t.row + 1) (by omega)
            generalize within ((k : Int)) (endM t.row + 1) = fr at hfr ⊢
            obtain ⟨f0, f1⟩ := hfr
            obtain ⟨t', E1, E2⟩ := splice_round (fr := fr) (tt := min (fr + k) 1000) HK.out HG1.out f0 (by omega) (by omega) (by omega) rfl (by rw [(show endM [] = 0 from rfl)]; omega)
            have HE1 := Lib.hid E1
            have HNK := Lib.hid (HK.out.apply (r := recS 1 fr (min (fr + k) 1000) []) (by rw [E1]))
            have HNG1 := Lib.hid (show getS (putL S 1 t') 1 = some t' by rw [put_get, if_pos rfl])
            have HNG2 := Lib.hid (show getS (putL S 1 t') 2 = some (treeM row) by rw [put_get, if_neg (by decide)]; exact HG2.out)
            have HNG3 := Lib.hid (show getS (putL S 1 t') 3 = none by rw [put_get, if_neg (by decide)]; exact HG3.out)
            rw [E1] at HNK
            rw [(show endM [] = 0 from rfl)] at E2
            generalize putL S 1 t' = S' at *
            clear E1
            go_wp2_with fail
            refine (sapply_any _ _ S (recS 1 fr (min (fr + k) 1000) []) _ HS.out ⟨_, rfl, (Enc.Is.nil _)⟩ HK.out.1).mono ?_
            rintro e w4 ⟨⟨hx, _⟩, hb0⟩
            obtain ⟨uT, rfl, hst⟩ := hx (by rw [HE1.out])
            rw [HE1.out] at hst
            obtain ⟨bT, _, _, rfl, _⟩ := id hst
            have hb := hb0
            clear hx hb0 HS HK HG1 HG2 HG3 HE1
            try replace HA := Lib.hid (HA.out.bl hb)
            try replace HRW := Lib.hid (HRW.out.bl hb)
            try replace HROW := Lib.hid (HROW.out.bl hb)
            try replace E3 := Lib.hid (E3.out.bl hb)
            try replace K3 := Lib.hid (K3.out.bl hb)
            try replace G3 := Lib.hid (G3.out.bl hb)
            try replace HRL := Lib.hid (HRL.out.bl hb)
            try replace HB := Lib.hid (HB.out.bl hb)
            try replace HS := Lib.hid (HS.out.bl hb)
            try replace K0 := Lib.hid (K0.out.bl hb)
            try replace E1 := Lib.hid (E1.out.bl hb)
            try replace HT := Lib.hid (HT.out.bl hb)
            try replace K2 := Lib.hid (K2.out.bl hb)
            try replace HRWr := Lib.hid (HRWr.out.bl hb)
            try replace HR := Lib.hid (HR.out.bl hb)
            try replace HE1 := Lib.hid (HE1.out.bl hb)
            try replace HNK := Lib.hid (HNK.out.bl hb)
            try replace HNG1 := Lib.hid (HNG1.out.bl hb)
            try replace HNG2 := Lib.hid (HNG2.out.bl hb)
            try replace HNG3 := Lib.hid (HNG3.out.bl hb)
            clear hb
            have HS := Lib.hid hst
            clear hst
            go_wp2_with fail
            refine (slength_any _ S' 1 _ HS.out HNK.out.1.2).mono ?_
            rintro e w5 ⟨⟨_, hx⟩, hb⟩
            obtain rfl := hx _ HNG1.out
            clear hx
            try replace HA := Lib.hid (HA.out.bl hb)
            try replace HRW := Lib.hid (HRW.out.bl hb)
            try replace HROW := Lib.hid (HROW.out.bl hb)
            try replace E3 := Lib.hid (E3.out.bl hb)
            try replace K3 := Lib.hid (K3.out.bl hb)
            try replace G3 := Lib.hid (G3.out.bl hb)
            try replace HRL := Lib.hid (HRL.out.bl hb)
            try replace HB := Lib.hid (HB.out.bl hb)
            try replace HS := Lib.hid (HS.out.bl hb)
            try replace K0 := Lib.hid (K0.out.bl hb)
            try replace E1 := Lib.hid (E1.out.bl hb)
            try replace HT := Lib.hid (HT.out.bl hb)
            try replace K2 := Lib.hid (K2.out.bl hb)
            try replace HRWr := Lib.hid (HRWr.out.bl hb)
            try replace HR := Lib.hid (HR.out.bl hb)
            try replace HE1 := Lib.hid (HE1.out.bl hb)
            try replace HNK := Lib.hid (HNK.out.bl hb)
            try replace HNG1 := Lib.hid (HNG1.out.bl hb)
            try replace HNG2 := Lib.hid (HNG2.out.bl hb)
            try replace HNG3 := Lib.hid (HNG3.out.bl hb)
            clear hb
            go_wp2_with fail
            refine (stree_any _ S' 2 _ HS.out).mono ?_
            rintro e w6 ⟨⟨_, hx⟩, hb⟩
            obtain ⟨uR, rfl, ht⟩ := hx _ HNG2.out
            obtain ⟨bR, _, _, rfl, _⟩ := id ht
            have HT := Lib.hid ht
            clear hx ht
            try replace HA := Lib.hid (HA.out.bl hb)
            try replace HRW := Lib.hid (HRW.out.bl hb)
            try replace HROW := Lib.hid (HROW.out.bl hb)
            try replace E3 := Lib.hid (E3.out.bl hb)
            try replace K3 := Lib.hid (K3.out.bl hb)
            try replace G3 := Lib.hid (G3.out.bl hb)
            try replace HRL := Lib.hid (HRL.out.bl hb)
            try replace HB := Lib.hid (HB.out.bl hb)
            try replace HS := Lib.hid (HS.out.bl hb)
            try replace K0 := Lib.hid (K0.out.bl hb)
            try replace E1 := Lib.hid (E1.out.bl hb)
            try replace HT := Lib.hid (HT.out.bl hb)
            try replace K2 := Lib.hid (K2.out.bl hb)
            try replace HRWr := Lib.hid (HRWr.out.bl hb)
            try replace HR := Lib.hid (HR.out.bl hb)
            try replace HE1 := Lib.hid (HE1.out.bl hb)
            try replace HNK := Lib.hid (HNK.out.bl hb)
            try replace HNG1 := Lib.hid (HNG1.out.bl hb)
            try replace HNG2 := Lib.hid (HNG2.out.bl hb)
            try replace HNG3 := Lib.hid (HNG3.out.bl hb)
            clear hb
            have hn' : endM t.row - (min (fr + k) (endM t.row) - fr) + 0 = endM t'.row := by omega
            go_wp2_with fail
            refine (tall_any _ (treeM row) _ HT.out HRL.out).mono ?_
            rintro e w7 ⟨uA, rfl, ho, hb⟩
            try replace HA := Lib.hid (HA.out.bl hb)
            try replace HRW := Lib.hid (HRW.out.bl hb)
            try replace HROW := Lib.hid (HROW.out.bl hb)
            try replace E3 := Lib.hid (E3.out.bl hb)
            try replace K3 := Lib.hid (K3.out.bl hb)
            try replace G3 := Lib.hid (G3.out.bl hb)
            try replace HRL := Lib.hid (HRL.out.bl hb)
            try replace HB := Lib.hid (HB.out.bl hb)
            try replace HS := Lib.hid (HS.out.bl hb)
            try replace K0 := Lib.hid (K0.out.bl hb)
            try replace E1 := Lib.hid (E1.out.bl hb)
            try replace HT := Lib.hid (HT.out.bl hb)
            try replace K2 := Lib.hid (K2.out.bl hb)
            try replace HRWr := Lib.hid (HRWr.out.bl hb)
            try replace HR := Lib.hid (HR.out.bl hb)
            try replace HE1 := Lib.hid (HE1.out.bl hb)
            try replace HNK := Lib.hid (HNK.out.bl hb)
            try replace HNG1 := Lib.hid (HNG1.out.bl hb)
            try replace HNG2 := Lib.hid (HNG2.out.bl hb)
            try replace HNG3 := Lib.hid (HNG3.out.bl hb)
            clear hb
            have HA := Lib.hid ho.is
            clear ho
            go_wp2_with fail
            refine (sameExt_any _ _ row row _ HA.out HR.out).mono ?_
            rintro e w8 ⟨rfl, hb⟩
            try replace HA := Lib.hid (HA.out.bl hb)
            try replace HRW := Lib.hid (HRW.out.bl hb)
            try replace HROW := Lib.hid (HROW.out.bl hb)
            try replace E3 := Lib.hid (E3.out.bl hb)
            try replace K3 := Lib.hid (K3.out.bl hb)
            try replace G3 := Lib.hid (G3.out.bl hb)
            try replace HRL := Lib.hid (HRL.out.bl hb)
            try replace HB := Lib.hid (HB.out.bl hb)
            try replace HS := Lib.hid (HS.out.bl hb)
            try replace K0 := Lib.hid (K0.out.bl hb)
            try replace E1 := Lib.hid (E1.out.bl hb)
            try replace HT := Lib.hid (HT.out.bl hb)
            try replace K2 := Lib.hid (K2.out.bl hb)
            try replace HRWr := Lib.hid (HRWr.out.bl hb)
            try replace HR := Lib.hid (HR.out.bl hb)
            try replace HE1 := Lib.hid (HE1.out.bl hb)
            try replace HNK := Lib.hid (HNK.out.bl hb)
            try replace HNG1 := Lib.hid (HNG1.out.bl hb)
            try replace HNG2 := Lib.hid (HNG2.out.bl hb)
            try replace HNG3 := Lib.hid (HNG3.out.bl hb)
            clear hb
            go_wp2_with fail
            go_roundg (6 - (k + 1))
            case measure => omega
            case rel => exact ⟨k + 1, S', t', by omega, rfl, by go_num, (congrArg (Value.int .i64) (by omega)), HNK, HNG1, HNG2, HNG3, by omega, by omega, HS, HR, HB⟩
        · have E7 := Lib.hid (end_range HG1.out (endM t.row + 1) (by omega) (by omega) (by omega))
          have E5 := Lib.hid (end_none HG3.out)
          have E1 := Lib.hid (end_undo S)
          rcases (show (k < hs.length ∧ ¬ k < 6) ∨ ¬ k < hs.length from by by_cases q : k < hs.length; exact .inl ⟨q, fun p => hlt ⟨q, p⟩⟩; exact .inr q) with ⟨hkl2, hk7⟩ | hkl2
          all_goals
            clear hlt
            go_wp2_with fail
            refine (sapply_any _ _ S (recS 1 (endM t.row + 1) (endM t.row + 1) []) _ HS.out (rec_is _ 3 1 (endM t.row + 1) (endM t.row + 1)) HK.out.1).mono ?_
            rintro e w4 ⟨⟨_, hx⟩, hb⟩
            obtain rfl := hx (by rw [E7.out]; decide)
            rw [E7.out]
            clear hx
            try replace HA := Lib.hid (HA.out.bl hb)
            try replace HRW := Lib.hid (HRW.out.bl hb)
            try replace HROW := Lib.hid (HROW.out.bl hb)
            try replace E3 := Lib.hid (E3.out.bl hb)
            try replace K3 := Lib.hid (K3.out.bl hb)
            try replace G3 := Lib.hid (G3.out.bl hb)
            try replace HRL := Lib.hid (HRL.out.bl hb)
            try replace HB := Lib.hid (HB.out.bl hb)
            try replace HS := Lib.hid (HS.out.bl hb)
            try replace K0 := Lib.hid (K0.out.bl hb)
            try replace E1 := Lib.hid (E1.out.bl hb)
            try replace HT := Lib.hid (HT.out.bl hb)
            try replace K2 := Lib.hid (K2.out.bl hb)
            try replace HRWr := Lib.hid (HRWr.out.bl hb)
            try replace HR := Lib.hid (HR.out.bl hb)
            try replace HE1 := Lib.hid (HE1.out.bl hb)
            try replace HNK := Lib.hid (HNK.out.bl hb)
            try replace HNG1 := Lib.hid (HNG1.out.bl hb)
            try replace HNG2 := Lib.hid (HNG2.out.bl hb)
            try replace HNG3 := Lib.hid (HNG3.out.bl hb)
            try replace E7 := Lib.hid (E7.out.bl hb)
            try replace E5 := Lib.hid (E5.out.bl hb)
            clear hb
            go_wp2_with fail
            refine (sapply_any _ _ S (recS 3 0 0 []) _ HS.out (rec_is _ 3 3 0 0) HK.out.1).mono ?_
            rintro e w5 ⟨⟨_, hx⟩, hb⟩
            obtain rfl := hx (by rw [E5.out]; decide)
            rw [E5.out]
            clear hx
            try replace HA := Lib.hid (HA.out.bl hb)
            try replace HRW := Lib.hid (HRW.out.bl hb)
            try replace HROW := Lib.hid (HROW.out.bl hb)
            try replace E3 := Lib.hid (E3.out.bl hb)
            try replace K3 := Lib.hid (K3.out.bl hb)
            try replace G3 := Lib.hid (G3.out.bl hb)
            try replace HRL := Lib.hid (HRL.out.bl hb)
            try replace HB := Lib.hid (HB.out.bl hb)
            try replace HS := Lib.hid (HS.out.bl hb)
            try replace K0 := Lib.hid (K0.out.bl hb)
            try replace E1 := Lib.hid (E1.out.bl hb)
            try replace HT := Lib.hid (HT.out.bl hb)
            try replace K2 := Lib.hid (K2.out.bl hb)
            try replace HRWr := Lib.hid (HRWr.out.bl hb)
            try replace HR := Lib.hid (HR.out.bl hb)
            try replace HE1 := Lib.hid (HE1.out.bl hb)
            try replace HNK := Lib.hid (HNK.out.bl hb)
            try replace HNG1 := Lib.hid (HNG1.out.bl hb)
            try replace HNG2 := Lib.hid (HNG2.out.bl hb)
            try replace HNG3 := Lib.hid (HNG3.out.bl hb)
            try replace E7 := Lib.hid (E7.out.bl hb)
            try replace E5 := Lib.hid (E5.out.bl hb)
            clear hb
            go_wp2_with fail
            refine (sapply_any _ _ S ⟨4, 0, 0, 0, []⟩ _ HS.out (rec_is _ 4 0 0 0) HK.out.1).mono ?_
            rintro e w6 ⟨⟨_, hx⟩, hb⟩
            obtain rfl := hx (by rw [E1.out]; decide)
            rw [E1.out]
            clear hx
            try replace HA := Lib.hid (HA.out.bl hb)
            try replace HRW := Lib.hid (HRW.out.bl hb)
            try replace HROW := Lib.hid (HROW.out.bl hb)
            try replace E3 := Lib.hid (E3.out.bl hb)
            try replace K3 := Lib.hid (K3.out.bl hb)
            try replace G3 := Lib.hid (G3.out.bl hb)
            try replace HRL := Lib.hid (HRL.out.bl hb)
            try replace HB := Lib.hid (HB.out.bl hb)
            try replace HS := Lib.hid (HS.out.bl hb)
            try replace K0 := Lib.hid (K0.out.bl hb)
            try replace E1 := Lib.hid (E1.out.bl hb)
            try replace HT := Lib.hid (HT.out.bl hb)
            try replace K2 := Lib.hid (K2.out.bl hb)
            try replace HRWr := Lib.hid (HRWr.out.bl hb)
            try replace HR := Lib.hid (HR.out.bl hb)
            try replace HE1 := Lib.hid (HE1.out.bl hb)
            try replace HNK := Lib.hid (HNK.out.bl hb)
            try replace HNG1 := Lib.hid (HNG1.out.bl hb)
            try replace HNG2 := Lib.hid (HNG2.out.bl hb)
            try replace HNG3 := Lib.hid (HNG3.out.bl hb)
            try replace E7 := Lib.hid (E7.out.bl hb)
            try replace E5 := Lib.hid (E5.out.bl hb)
            clear hb
            go_wp2_with fail
            refine (wakes21_any _).mono ?_
            rintro e w7 ⟨rfl, hb⟩
            go_wp2_with fail
            go_ret
            exact ⟨rfl, hb01.bl (HB.out.bl hb)⟩
end Go.Proofs.Ytddcjekkimajpaa.ExtW

/- Contracts: slices.Equal at extents, slices.EqualFunc at tracks, state.Same. -/
namespace Go.Proofs.Ytddcjekkimajpaa.ExtW
open Go.RowKit Go.Ov Go.Proofs.Ytddcjekkimajpaa.Need

set_option maxRecDepth 100000 in
set_option maxHeartbeats 1000000 in
theorem equalExt_any (v u : Value) (a b : List Ext) (w : World) (h : extE.Is w v a) (h' : extE.Is w u b) :
    Calls Try.prog 47 #[v, u] w fun e w' => e = .returned (.bool (decide (a = b))) ∧ Bl w w' := by
  obtain ⟨A, c, rfl, h1, h2, h3, h4⟩ := h
  obtain ⟨A', c', rfl, h1', h2', h3', h4'⟩ := h'
  have HA := Lib.hid h4
  have HA' := Lib.hid h4'
  have hl : a.length ≤ 9223372036854775807 := by unfold maxLen at h2; omega
  have hl' : b.length ≤ 9223372036854775807 := by unfold maxLen at h2'; omega
  have hu := Try.underlying38
  clear h1 h2 h3 h4 h1' h2' h3' h4'
  by_cases hlen : a.length = b.length
  · go_enter Try.func47, Try.ntmps47
    go_wp2
    have HL := Lib.hid hlen
    clear hlen
    go_loopg [13] b.length (fun g i wr => ∃ k : Nat, k ≤ b.length ∧ g = b.length - k ∧ i = .int .i64 k ∧ Hid (a.take k = b.take k) ∧ Bl w wr)
    case atStart => exact ⟨0, by omega, rfl, rfl, Lib.hid rfl, Bl.refl _⟩
    case round =>
      obtain ⟨k, hk, rfl, rfl, heq, hbl⟩ := hrel
      have HB := Lib.hid hbl
      clear hbl
      by_cases hlt : k < b.length
      · have hlta : k < a.length := by have := HL.out; omega
        have hlti : (k : Int) < a.length := by omega
        have hlti2 : (k : Int) < b.length := by omega
        obtain ⟨ad, rfl, c0, c1, c2, c3, c4⟩ := ext_at (HA.out.bl HB.out) k hlta
        obtain ⟨ad', rfl, d0, d1, d2, d3, d4⟩ := ext_at (HA'.out.bl HB.out) k hlt
        have ta := Lib.hid (List.take_succ_eq_append_getElem hlta)
        have tb := Lib.hid (List.take_succ_eq_append_getElem hlt)
        have hne := Lib.hid (fun h : a = b => show a[k]'hlta = b[k]'hlt by simp [h])
        generalize a[k] = x at *
        generalize b[k] = y at *
        obtain ⟨x0, x1, x2, x3, x4⟩ := x
        obtain ⟨y0, y1, y2, y3, y4⟩ := y
        dsimp only at c0 c1 c2 c3 c4 d0 d1 d2 d3 d4
        have hqq := eq_ext x0 x1 x2 x3 x4 y0 y1 y2 y3 y4
        go_wp2_with fail
        go_quiet (fail)
        clear hqq
        cases hq : eqE ⟨x0, x1, x2, x3, x4⟩ ⟨y0, y1, y2, y3, y4⟩
        · go_wp2
          go_ret
          refine ⟨ret_bool ?_, HB.out.drewN _⟩
          symm; rw [decide_eq_false_iff_not]
          intro h; have := hne.out h; unfold eqE at hq; simp [this] at hq
        · have HQ := Lib.hid hq
          clear hq
          go_wp2
          go_roundg (b.length - (k + 1))
          case measure => omega
          case rel =>
            refine ⟨k + 1, by omega, rfl, by go_num, Lib.hid ?_, HB.out.drewN _⟩
            have hxy := HQ.out
            unfold eqE at hxy
            rw [ta.out, tb.out, heq.out, of_decide_eq_true hxy]
      · have hna : ¬ k < a.length := by have := HL.out; omega
        go_wp2
        go_ret
        refine ⟨ret_bool ?_, HB.out⟩
        symm; rw [decide_eq_true_eq]
        have h := heq.out
        have := HL.out
        rwa [List.take_of_length_le (by omega), List.take_of_length_le (by omega)] at h
  · have hd : decide (a = b) = false := decide_eq_false (fun h => hlen (by rw [h]))
    have HD := Lib.hid hd
    clear hd
    go_enter Try.func47, Try.ntmps47
    go_wp2
    go_ret
    exact ⟨ret_bool HD.out.symm, Bl.refl _⟩

set_option maxRecDepth 100000 in
set_option maxHeartbeats 1000000 in
theorem ssame1_any (i j : Int) (t t' : Nat) (m m' : TreeM) (w : World) (h : TreeIs w (.pointer (some ⟨t, 0, none⟩)) m) (h' : TreeIs w (.pointer (some ⟨t', 0, none⟩)) m')
    (hn : m.row.length * 40 ≤ 140737488355328) (hn' : m'.row.length * 40 ≤ 140737488355328) :
    Calls Try.prog 46 #[.agg #[.int .i64 i, .pointer (some ⟨t, 0, none⟩)], .agg #[.int .i64 j, .pointer (some ⟨t', 0, none⟩)]] w fun e w' => e = .returned (.bool (decide (i = j ∧ m.row = m'.row))) ∧ Bl w w' := by
  have HT := Lib.hid h
  have HT' := Lib.hid h'
  have HN := Lib.hid hn
  have HN' := Lib.hid hn'
  have hu := Try.underlying83
  clear h h' hn hn'
  by_cases he : i = j
  · subst he
    go_enter Try.func46, Try.ntmps46
    go_wp2_with fail
    have HB := Lib.hid ((((Bl.refl w).alloc (.cells #[.int .i64 i, .pointer (some ⟨t, 0, none⟩)] 83)).alloc (.cells #[.int .i64 i, .pointer (some ⟨t', 0, none⟩)] 83)).drew)
    have b1 := (Blk.new w #[.int .i64 i, .pointer (some ⟨t, 0, none⟩)] 83).bl (((Bl.refl _).alloc (.cells #[.int .i64 i, .pointer (some ⟨t', 0, none⟩)] 83)).drew)
    have b2 := (Blk.new (w.alloc (.cells #[.int .i64 i, .pointer (some ⟨t, 0, none⟩)] 83)) #[.int .i64 i, .pointer (some ⟨t', 0, none⟩)] 83).bl (Bl.refl _).drew
    refine wp_region_ways (S := (fun w' => w'.cell? ⟨w.heap.size, 0, none⟩ = some (.int .i64 i) ∧ w'.cell? ⟨w.heap.size, 1, none⟩ = some (.pointer (some ⟨t, 0, none⟩)) ∧ w'.cell? ⟨w.heap.size + 1, 0, none⟩ = some (.int .i64 i) ∧ w'.cell? ⟨w.heap.size + 1, 1, none⟩ = some (.pointer (some ⟨t', 0, none⟩)))) [0, 1, 2, 3, 4, 5, 6, 7, 9, 10, 13, 14] (y := .take 0 (.take 1 (.take 2 (.take 3 (.take 4 (.take 5 (.take 6 (.take 7 (.take 9 (.take 10 (.ev 8 (.ev 11 (.ev 12 (.take 13 (.take 14 (.done))) (.stop)) (.stop)) (.stop)))))))))))) (by kernel_rfl) (by kernel_rfl) (by kernel_rfl) ?_ (fun hHeld => ?_)
    · exact ⟨b1.cell 0, b1.cell 1, by simp, by simp⟩
    have HH := Lib.hid hHeld
    repeat (first | (refine wpWay_take rfl (by rfl) (by intro w hSw; (try dsimp only at hSw); first | (go_simp; done) | (go_simp; with_reducible rfl)) ?_; try simp only [Act.put, List.setIfInBounds_toArray, List.set_cons_zero, List.set_cons_succ]) | (refine wpWay_skip rfl (by rfl) ?_; try simp only [Act.put, List.setIfInBounds_toArray, List.set_cons_zero, List.set_cons_succ]))
    clear hHeld b1 b2
    refine wpWay_ev rfl (fun K hK => ?_) wpWay_stop
    go_wp2_with fail
    refine (tall_any _ m _ (HT.out.bl HB.out) HN.out).mono ?_
    rintro e w3 ⟨uw3, rfl, how3, hb⟩
    obtain ⟨Aw3, cw3, rfl⟩ := id how3.slice
    have Hw3 := Lib.hid how3.is
    replace HH := Lib.hid (show _ ∧ _ ∧ _ ∧ _ from ⟨hb.cell HH.out.1, hb.cell HH.out.2.1, hb.cell HH.out.2.2.1, hb.cell HH.out.2.2.2⟩)
    replace HB := Lib.hid (HB.out.bl hb)
    go_wp2_with fail
    refine ⟨HH.out, ?_⟩
    repeat (first | (refine wpWay_take rfl (by rfl) (by intro w hSw; (try dsimp only at hSw); first | (go_simp; done) | (go_simp; with_reducible rfl)) ?_; try simp only [Act.put, List.setIfInBounds_toArray, List.set_cons_zero, List.set_cons_succ]) | (refine wpWay_skip rfl (by rfl) ?_; try simp only [Act.put, List.setIfInBounds_toArray, List.set_cons_zero, List.set_cons_succ]))
    refine wpWay_ev rfl (fun K hK => ?_) wpWay_stop
    go_wp2_with fail
    refine (tall_any _ m' _ (HT'.out.bl HB.out) HN'.out).mono ?_
    rintro e w4 ⟨uw4, rfl, how4, hb⟩
    obtain ⟨Aw4, cw4, rfl⟩ := id how4.slice
    have Hw4 := Lib.hid how4.is
    replace HH := Lib.hid (show _ ∧ _ ∧ _ ∧ _ from ⟨hb.cell HH.out.1, hb.cell HH.out.2.1, hb.cell HH.out.2.2.1, hb.cell HH.out.2.2.2⟩)
    replace HB := Lib.hid (HB.out.bl hb)
    go_wp2_with fail
    refine ⟨HH.out, ?_⟩
    repeat (first | (refine wpWay_take rfl (by rfl) (by intro w hSw; (try dsimp only at hSw); first | (go_simp; done) | (go_simp; with_reducible rfl)) ?_; try simp only [Act.put, List.setIfInBounds_toArray, List.set_cons_zero, List.set_cons_succ]) | (refine wpWay_skip rfl (by rfl) ?_; try simp only [Act.put, List.setIfInBounds_toArray, List.set_cons_zero, List.set_cons_succ]))
    refine wpWay_ev rfl (fun K hK => ?_) wpWay_stop
    go_wp2_with fail
    refine (equalExt_any _ _ m.row m'.row _ (Hw3.out.bl hb) Hw4.out).mono ?_
    rintro e w5 ⟨rfl, hb5⟩
    replace HH := Lib.hid (show _ ∧ _ ∧ _ ∧ _ from ⟨hb5.cell HH.out.1, hb5.cell HH.out.2.1, hb5.cell HH.out.2.2.1, hb5.cell HH.out.2.2.2⟩)
    replace HB := Lib.hid (HB.out.bl hb5)
    go_wp2_with fail
    refine ⟨HH.out, ?_⟩
    repeat (first | (refine wpWay_take rfl (by rfl) (by intro w hSw; (try dsimp only at hSw); first | (go_simp; done) | (go_simp; with_reducible rfl)) ?_; try simp only [Act.put, List.setIfInBounds_toArray, List.set_cons_zero, List.set_cons_succ]) | (refine wpWay_skip rfl (by rfl) ?_; try simp only [Act.put, List.setIfInBounds_toArray, List.set_cons_zero, List.set_cons_succ]))
    refine wpWay_done ?_
    go_wp2_with fail
    go_ret
    exact ⟨ret_bool (by simp), HB.out⟩
  · have hd : (i == j) = false := by rw [beq_eq_false_iff_ne]; exact he
    have hd2 : decide (i = j) = false := decide_eq_false he
    have HE := Lib.hid he
    clear he
    go_enter Try.func46, Try.ntmps46
    go_wp2_with fail
    go_quiet (fail)
    go_wp2_with fail
    go_ret
    exact ⟨ret_bool (by simp [HE.out]), ((((Bl.refl w).alloc _).alloc _).drewN _)⟩

/-- what state.Same answers -/
def rowsOf (s : StM) : List (Int × List Ext) := s.map fun t => (t.1, t.2.row)
def sameS (s s' : StM) : Bool := decide (rowsOf s = rowsOf s')

set_option maxRecDepth 100000 in
set_option maxHeartbeats 1000000 in
theorem eqTrack_any (v v' : Value) (hs hs' : List TH) (s s' : StM) (w : World) (h : trackE.Is w v hs) (h' : trackE.Is w v' hs') (hr : TRows w hs s) (hr' : TRows w hs' s')
    (hv : ∀ t ∈ s, validFrom 0 t.2.row = true) (hv' : ∀ t ∈ s', validFrom 0 t.2.row = true) :
    Calls Try.prog 45 #[v, v', .func (.func 46) #[] #[]] w fun e w' => e = .returned (.bool (sameS s s')) ∧ Bl w w' := by
  obtain ⟨A, c, rfl, h1, h2, h3, h4⟩ := h
  obtain ⟨A', c', rfl, h1', h2', h3', h4'⟩ := h'
  have HA := Lib.hid h4
  have HA' := Lib.hid h4'
  have HR := Lib.hid hr
  have HR' := Lib.hid hr'
  have HLS := Lib.hid hr.1
  have HLS' := Lib.hid hr'.1
  have hl : hs.length ≤ 9223372036854775807 := by unfold maxLen at h2; omega
  have hl' : hs'.length ≤ 9223372036854775807 := by unfold maxLen at h2'; omega
  have hu := Try.underlying83
  have HV := Lib.hid hv
  have HV' := Lib.hid hv'
  clear h1 h2 h3 h4 h1' h2' h3' h4' hr hr' hv hv'
  by_cases hlen : hs.length = hs'.length
  · go_enter Try.func45, Try.ntmps45
    go_wp2_with fail
    have HL := Lib.hid hlen
    clear hlen
    go_loopg [17] hs.length (fun g i wr => ∃ k : Nat, k ≤ hs.length ∧ g = hs.length - k ∧ i = .int .i64 k ∧ Hid (rowsOf (s.take k) = rowsOf (s'.take k)) ∧ Hid (Bl w wr))
    case atStart => exact ⟨0, by omega, rfl, rfl, Lib.hid rfl, Lib.hid (Bl.refl _)⟩
    case round =>
      obtain ⟨k, hk, rfl, rfl, HQ, HB⟩ := hrel
      by_cases hlt : k < hs.length
      · have hlt' : k < hs'.length := by have := HL.out; omega
        have hki : (k : Int) < hs.length := by omega
        have hki' : (k : Int) < hs'.length := by omega
        have hks : k < s.length := by have := HLS.out; omega
        have hks' : k < s'.length := by have := HLS'.out; omega
        obtain ⟨ad, rfl, c0, c1⟩ := track_at (HA.out.bl HB.out) k hlt
        obtain ⟨ad', rfl, d0, d1⟩ := track_at (HA'.out.bl HB.out) k hlt'
        obtain ⟨_, e0, HT⟩ := (HR.out.bl HB.out).at k hks
        obtain ⟨_, e0', HT'⟩ := (HR'.out.bl HB.out).at k hks'
        have ht := Lib.hid (List.take_succ_eq_append_getElem hks)
        have ht' := Lib.hid (List.take_succ_eq_append_getElem hks')
        have HX := Lib.hid (HV.out _ (List.getElem_mem hks))
        have HX' := Lib.hid (HV'.out _ (List.getElem_mem hks'))
        have hne := Lib.hid (fun h : rowsOf s = rowsOf s' => show s[k].1 = s'[k].1 ∧ s[k].2.row = s'[k].2.row by
          have h0 : (rowsOf s)[k]? = (rowsOf s')[k]? := by rw [h]
          simpa [rowsOf, List.getElem?_eq_getElem hks, List.getElem?_eq_getElem hks'] using h0)
        generalize s[k] = x at *
        generalize s'[k] = x' at *
        generalize hs[k] = y at *
        generalize hs'[k] = y' at *
        obtain ⟨xi, m⟩ := x
        obtain ⟨xi', m'⟩ := x'
        obtain ⟨yi, yb⟩ := y
        obtain ⟨yi', yb'⟩ := y'
        dsimp only at c0 c1 d0 d1 e0 e0' HT HT' HX HX' hne
        subst e0
        subst e0'
        have hb1 := World.block_lt_of_cell? _ _ d0
        have hb3 := World.block_lt_of_cell? _ _ d1
        have hx1 := valid_len m.row HX.out
        have hx1' := valid_len m'.row HX'.out
        go_wp2_with fail
        refine (ssame1_any yi yi' yb yb' m m' _ (HT.bl (((Bl.refl _).alloc _).alloc _)) (HT'.bl (((Bl.refl _).alloc _).alloc _)) (by omega) (by omega)).mono ?_
        rintro e w1 ⟨rfl, hb⟩
        have hb2 := Bl.bl (((HB.out).alloc (.cells #[.int .i64 yi, .pointer (some ⟨yb, 0, none⟩)] 83)).alloc (.cells #[.int .i64 yi', .pointer (some ⟨yb', 0, none⟩)] 83)) hb
        have HB1 := Lib.hid hb2
        clear hb hb2 HT HT' hb1
        by_cases hq : yi = yi' ∧ m.row = m'.row
        · have hd : decide (yi = yi' ∧ m.row = m'.row) = true := decide_eq_true hq
          have HQ1 := Lib.hid hq
          clear hq
          go_wp2_with fail
          go_roundg (hs.length - (k + 1))
          case measure => omega
          case rel => exact ⟨k + 1, by omega, rfl, by go_num, Lib.hid (by rw [ht.out, ht'.out]; have := HQ.out; simp only [rowsOf] at this ⊢; rw [List.map_append, List.map_append, this, List.map_singleton, List.map_singleton, HQ1.out.1, HQ1.out.2]), HB1⟩
        · have hd : decide (yi = yi' ∧ m.row = m'.row) = false := decide_eq_false hq
          have HQ1 := Lib.hid hq
          clear hq
          go_wp2_with fail
          go_ret
          exact ⟨ret_bool (decide_eq_false (fun h => HQ1.out (hne.out h))).symm, HB1.out⟩
      · have hn2 : ¬ (k : Int) < hs'.length := by have := HL.out; omega
        go_wp2_with fail
        go_ret
        refine ⟨ret_bool ?_, HB.out⟩
        symm; unfold sameS; rw [decide_eq_true_eq]
        have h := HQ.out
        have := HL.out
        have := HLS.out
        have := HLS'.out
        rwa [List.take_of_length_le (by omega), List.take_of_length_le (by omega)] at h
  · have hd : sameS s s' = false := decide_eq_false (fun h => hlen (by have := congrArg List.length h; simp [rowsOf] at this; have := HLS.out; have := HLS'.out; omega))
    have HD := Lib.hid hd
    clear hd
    go_enter Try.func45, Try.ntmps45
    go_wp2_with fail
    go_ret
    exact ⟨ret_bool HD.out.symm, Bl.refl _⟩

set_option maxRecDepth 100000 in
set_option maxHeartbeats 1000000 in
theorem ssame_any (v v' : Value) (s s' : StM) (w : World) (h : StateIs w v s) (h' : StateIs w v' s') (hv : ∀ t ∈ s, validFrom 0 t.2.row = true) (hv' : ∀ t ∈ s', validFrom 0 t.2.row = true) :
    Calls Try.prog 21 #[v, v'] w fun e w' => e = .returned (.bool (sameS s s')) ∧ Bl w w' := by
  obtain ⟨b, u, hs, rfl, c0, h1, h2⟩ := h
  obtain ⟨b', u', hs', rfl, c0', h1', h2'⟩ := h'
  simp only [Head.v] at c0 c0'
  have H1 := Lib.hid h1
  have H1' := Lib.hid h1'
  have H2 := Lib.hid h2
  have H2' := Lib.hid h2'
  have HV := Lib.hid hv
  have HV' := Lib.hid hv'
  have hu := Try.underlying76
  have d0 := ((Bl.refl w).drew).cell c0
  have d0' := ((Bl.refl w).drew).cell c0'
  clear h1 h1' h2 h2' hv hv' c0 c0'
  go_enter Try.func21, Try.ntmps21
  go_wp2_with fail
  refine wp_region_ways (S := (fun w' => w'.cell? ⟨b, 0, none⟩ = some (.slice u.A u.n u.cap) ∧ w'.cell? ⟨b', 0, none⟩ = some (.slice u'.A u'.n u'.cap))) [0, 1, 2, 3, 4, 5, 6, 7, 9] (y := .take 0 (.take 1 (.take 2 (.take 3 (.take 4 (.take 5 (.take 6 (.take 7 (.ev 8 (.take 9 (.done)) (.stop)))))))))) (by kernel_rfl) (by kernel_rfl) (by kernel_rfl) ?_ (fun hHeld => ?_)
  · exact ⟨d0, d0'⟩
  have HH := Lib.hid hHeld
  repeat (first | (refine wpWay_take rfl (by rfl) (by intro w hSw; (try dsimp only at hSw); first | (go_simp; done) | (go_simp; with_reducible rfl)) ?_; try simp only [Act.put, List.setIfInBounds_toArray, List.set_cons_zero, List.set_cons_succ]) | (refine wpWay_skip rfl (by rfl) ?_; try simp only [Act.put, List.setIfInBounds_toArray, List.set_cons_zero, List.set_cons_succ]))
  clear hHeld d0 d0'
  refine wpWay_ev rfl (fun K hK => ?_) wpWay_stop
  go_wp2_with fail
  refine (eqTrack_any _ _ hs hs' s s' _ (H1.out.bl (Bl.refl _).drew) (H1'.out.bl (Bl.refl _).drew) (H2.out.bl (Bl.refl _).drew) (H2'.out.bl (Bl.refl _).drew) HV.out HV'.out).mono ?_
  rintro e w1 ⟨rfl, hb⟩
  go_wp2_with fail
  refine ⟨⟨hb.cell HH.out.1, hb.cell HH.out.2⟩, ?_⟩
  repeat (first | (refine wpWay_take rfl (by rfl) (by intro w hSw; (try dsimp only at hSw); first | (go_simp; done) | (go_simp; with_reducible rfl)) ?_; try simp only [Act.put, List.setIfInBounds_toArray, List.set_cons_zero, List.set_cons_succ]) | (refine wpWay_skip rfl (by rfl) ?_; try simp only [Act.put, List.setIfInBounds_toArray, List.set_cons_zero, List.set_cons_succ]))
  refine wpWay_done ?_
  go_wp2_with fail
  go_ret
  exact ⟨rfl, ((Bl.refl w).drew).bl hb⟩
end Go.Proofs.Ytddcjekkimajpaa.ExtW

/- ref20's Lines and states: put and apply make the same rows. No walk here. -/
namespace Go.Proofs.Ytddcjekkimajpaa.ExtW
open Go.RowKit Go.Ov Go.Proofs.Ytddcjekkimajpaa.Need

theorem rowsOf_ids (s : StM) : (rowsOf s).map (·.1) = s.map (·.1) := by unfold rowsOf; rw [List.map_map]; rfl
theorem rowsOf_len (s : StM) : (rowsOf s).length = s.length := by unfold rowsOf; rw [List.length_map]
theorem fi_find (s : StM) (id : Int) : fiL (rowsOf s) id = findS s id := by unfold fiL findS; rw [rowsOf_ids]
theorem rowsOf_cons (t : TrackM) (s : StM) : rowsOf (t :: s) = (t.1, t.2.row) :: rowsOf s := rfl
theorem below_zero {id : Int} {s : StM} (h : ∀ t ∈ s, id ≤ t.1) : below id s = 0 := by
  cases s with
  | nil => rfl
  | cons t s => have := h t (by simp); rw [below, if_neg (by omega)]
theorem putL_zero {id : Int} {s : StM} {t : TreeM} (h : ∀ x ∈ s, id < x.1) : putL s id t = (id, t) :: s := by
  unfold putL insertS
  have hw : withoutS s id = s := by unfold withoutS; rw [List.filter_eq_self]; intro x hx; have := h x hx; simp; omega
  rw [hw, below_zero (fun x hx => Int.le_of_lt (h x hx))]; rfl
theorem putL_lt {id : Int} {s : StM} {t : TreeM} {x : TrackM} (h : x.1 < id) : putL (x :: s) id t = x :: putL s id t := by
  unfold putL insertS
  have hw : withoutS (x :: s) id = x :: withoutS s id := by unfold withoutS; rw [List.filter_cons_of_pos (by simp; omega)]
  rw [hw, below, if_pos h]; rfl
theorem putL_eq {s : StM} {t : TreeM} {x : TrackM} (h : ∀ y ∈ s, x.1 < y.1) : putL (x :: s) x.1 t = (x.1, t) :: s := by
  have hw : putL (x :: s) x.1 t = putL s x.1 t := by
    unfold putL
    have : withoutS (x :: s) x.1 = withoutS s x.1 := by unfold withoutS; rw [List.filter_cons_of_neg (by simp)]
    rw [this]
  rw [hw, putL_zero h]
theorem lgo_put (id : Int) (t : TreeM) : ∀ s : StM, Rising s → lgo (id, t.row) false (rowsOf s) = rowsOf (putL s id t)
  | [], _ => rfl
  | x :: s, hr => by
    obtain ⟨h1, h2⟩ := List.pairwise_cons.1 hr
    rw [rowsOf_cons, lgo]
    have hne : ∀ y ∈ rowsOf s, x.1 < y.1 := by
      intro y hy
      obtain ⟨z, hz, rfl⟩ := List.mem_map.1 hy
      exact h1 z hz
    rcases Int.lt_trichotomy x.1 id with h | h | h
    · rw [if_neg (by simp; omega), if_neg (by simp; omega), show (false || decide (id ≤ x.1)) = false by simp; omega, lgo_put id t s h2, putL_lt h]; rfl
    · subst h
      rw [if_pos ⟨rfl, Int.le_refl _⟩, if_pos rfl, show (false || decide (x.1 ≤ x.1)) = true by simp, lgo_true _ _ (fun y hy => by have := hne y hy; simp; omega), putL_eq h1]; rfl
    · rw [if_pos ⟨rfl, by simp; omega⟩, if_neg (by simp; omega), show (false || decide (id ≤ x.1)) = true by simp; omega, lgo_true _ _ (fun y hy => by have := hne y hy; simp; omega), putL_zero (s := x :: s) (fun y hy => by
        rcases List.mem_cons.1 hy with rfl | hy
        · exact h
        · have := h1 y hy; omega)]; rfl
theorem put_eq {s : StM} (hs : Rising s) (id : Int) (t : TreeM) : lputM (rowsOf s) id t.row = (rowsOf (putR s id t).1, (putR s id t).2) := by
  unfold lputM putR
  rw [show idxFrom id 0 ((rowsOf s).map (·.1)) = findS s id from fi_find s id, rowsOf_len]
  split
  · rfl
  · split
    · rfl
    · rw [lgo_put id t s hs]
theorem without_del (id : Int) : ∀ (s : StM) (i : Nat) (h : i < s.length), Rising s → s[i].1 = id → withoutS s id = s.take i ++ s.drop (i + 1)
  | x :: s, 0, _, hr, e => by
    obtain ⟨h1, _⟩ := List.pairwise_cons.1 hr
    simp only [List.getElem_cons_zero] at e
    unfold withoutS
    rw [List.filter_cons_of_neg (by simp [e]), List.filter_eq_self.2 (fun y hy => by have := h1 y hy; simp; omega)]; rfl
  | x :: s, i + 1, h, hr, e => by
    obtain ⟨h1, h2⟩ := List.pairwise_cons.1 hr
    simp only [List.getElem_cons_succ] at e
    have hi : i < s.length := by simpa using h
    have hx := h1 s[i] (List.getElem_mem hi)
    have ih := without_del id s i hi h2 e
    unfold withoutS at ih ⊢
    rw [List.filter_cons_of_pos (by simp; omega), ih]; rfl
theorem apply_eq {s : StM} (hs : Rising s) (r : Rec) : lapplyM (rowsOf s) r = (rowsOf (applyR s r).1, (applyR s r).2) := by
  unfold lapplyM applyR
  rw [fi_find]
  by_cases h0 : validRec r = false ∨ 3 < r.kind
  · rw [if_pos h0, if_pos h0]; rfl
  rw [if_neg h0, if_neg h0]
  by_cases h1 : r.kind = 1
  · rw [if_pos h1, if_pos h1]
    by_cases h2 : 0 ≤ findS s r.track
    · rw [if_pos h2, if_pos h2]; rfl
    · rw [if_neg h2, if_neg h2]; exact put_eq hs r.track (treeM [])
  rw [if_neg h1, if_neg h1]
  rcases findS_get s r.track with ⟨g1, g2⟩ | ⟨i, hi, g1, g2, g3⟩
  · rw [if_pos (by omega), g2]; rfl
  · rw [if_neg (by omega), g3, g1, Int.toNat_natCast]
    have hgd : ((rowsOf s).getD i (0, [])).2 = s[i].2.row := by
      unfold rowsOf
      rw [List.getD_eq_getElem?_getD, List.getElem?_map, List.getElem?_eq_getElem hi]; rfl
    rw [hgd]
    unfold applyT
    dsimp only
    by_cases h2 : r.kind = 2
    · rw [if_pos h2, if_pos h2, without_del r.track s i hi hs g2]
      unfold delL rowsOf
      rw [List.map_append, List.map_take, List.map_drop]
    rw [if_neg h2, if_neg h2]
    by_cases h3 : endM s[i].2.row < r.fr
    · rw [if_pos h3, if_pos h3]; rfl
    rw [if_neg h3, if_neg h3]
    rw [show lspl s[i].2.row r = spliceOf s[i].2 r from rfl]
    by_cases h4 : (spliceOf s[i].2 r).2 = 0
    · rw [if_pos h4, if_pos h4]; exact put_eq hs r.track (treeM (spliceOf s[i].2 r).1)
    · rw [if_neg h4, if_neg h4]; rfl
end Go.Proofs.Ytddcjekkimajpaa.ExtW

/- slices.Sort and slices.Compact at []int, as contracts on a slice that a call owns. -/
namespace Go.Proofs.Ytddcjekkimajpaa.Need
open Go.RowKit Go.Ov Go.Sort

theorem int_cells (xs : List Int) : xs.flatMap intE.c = xs.map (Value.int .i64) := by
  induction xs with
  | nil => rfl
  | cons x xs ih => rw [List.flatMap_cons, ih]; rfl

theorem putRow_at (w : World) (blk q : Nat) (d : Array Int) (os : Array Obj) (cur : Array Value) (T : TypeId) (h : w.heap[blk]? = some (.cells cur T (0, 0))) :
    (grow (putRow (Value.int .i64) (Sort.ahead w q) blk 0 d) os).heap[blk]? = some (.cells (putCells (Value.int .i64) 0 d cur) T (0, 0)) := by
  have hlt : blk < w.heap.size := (Array.getElem?_eq_some_iff.1 h).1
  rw [heap_grow_old _ _ (by simpa using hlt)]
  show (w.heap.modify blk (onCells (putCells (Value.int .i64) 0 d)))[blk]? = _
  rw [Array.getElem?_modify, if_pos rfl, h]
  rfl
theorem putRow_else (w : World) (blk q : Nat) (d : Array Int) (os : Array Obj) (k : Nat) (hk : k < w.heap.size) (hne : blk ≠ k) :
    (grow (putRow (Value.int .i64) (Sort.ahead w q) blk 0 d) os).heap[k]? = w.heap[k]? := by
  rw [heap_grow_old _ _ (by simpa using hk)]
  show (w.heap.modify blk (onCells (putCells (Value.int .i64) 0 d)))[k]? = _
  rw [Array.getElem?_modify, if_neg hne]
theorem take_putCells (d : Array Int) (cur : Array Value) (m : Nat) (hm : m ≤ d.size) (hc : d.size ≤ cur.size) :
    (putCells (Value.int .i64) 0 d cur).toList.take m = (d.toList.take m).map (Value.int .i64) := by
  apply List.ext_getElem?
  intro k
  simp only [putCells, List.getElem?_take, List.getElem?_map, Array.getElem?_toList, Array.getElem?_mapIdx]
  by_cases hk : k < m
  · rw [if_pos hk, if_pos hk, Array.getElem?_eq_getElem (by omega : k < cur.size), Array.getElem?_eq_getElem (by omega : k < d.size)]
    simp only [Option.map_some, Nat.sub_zero]
    rw [if_pos ⟨Nat.zero_le _, by omega⟩, getElem!_pos d k (by omega)]
  · rw [if_neg hk, if_neg hk]; rfl

/-- a row that is laid anew in an owned slice -/
theorem own_put {w : World} {T : TypeId} {base blk cap n : Nat} {xs : List Int} (h : intE.Own T w base (.slice (some ⟨blk, 0, none⟩) n cap) xs) (q : Nat) (d : Array Int) (os : Array Obj) (hd : d.size = xs.length) (m : Nat) (hm : m ≤ d.size) (ys : List Int) (hy : d.toList.take m = ys) :
    intE.Own T (grow (putRow (Value.int .i64) (Sort.ahead w q) blk 0 d) os) base (.slice (some ⟨blk, 0, none⟩) m cap) ys ∧
    ∀ w0, Bl w0 w → w0.heap.size ≤ base → Bl w0 (grow (putRow (Value.int .i64) (Sort.ahead w q) blk 0 d) os) := by
  obtain ⟨h1, h2⟩ := h
  rcases h2 with ⟨h2, _⟩ | ⟨g, c, cur, h2, h3, h4, h5, h6, h7, h8⟩
  · cases h2
  · simp at h2
    obtain ⟨rfl, rfl, rfl⟩ := h2
    have hl : m = ys.length := by rw [← hy, List.length_take, Array.length_toList]; omega
    have hsz : intE.sz = 1 := rfl
    rw [hsz] at h7
    refine ⟨⟨by rw [int_cells, List.length_map, hsz]; omega, .inr ⟨blk, cap, _, by rw [hl], h3, putRow_at w blk q d os cur T h4, by omega, h6, ?_, ?_⟩⟩, fun w0 hb hs => ?_⟩
    · simp [putCells, h7, hsz]
    · rw [hsz, Nat.mul_one, ← hl, take_putCells d cur m hm (by omega), int_cells, hy]
    · have hlt : blk < w.heap.size := (Array.getElem?_eq_some_iff.1 h4).1
      refine ⟨hb.os, hb.tape, hb.output, by simp; have := hb.size; omega, fun k hk => ?_⟩
      rw [putRow_else w blk q d os k (by have := hb.size; omega) (by omega)]
      exact hb.block k hk

theorem own_holds {w : World} {T : TypeId} {base blk cap n : Nat} {xs : List Int} (h : intE.Own T w base (.slice (some ⟨blk, 0, none⟩) n cap) xs) :
    Holds (Value.int .i64) w blk 0 xs.toArray ∧ blk < w.heap.size ∧ n = xs.length ∧ n ≤ cap := by
  obtain ⟨h1, h2⟩ := h
  rcases h2 with ⟨h2, _⟩ | ⟨g, c, cur, h2, h3, h4, h5, h6, h7, h8⟩
  · cases h2
  · simp at h2
    obtain ⟨rfl, rfl, rfl⟩ := h2
    refine ⟨fun j hj => ?_, (Array.getElem?_eq_some_iff.1 h4).1, rfl, h5⟩
    have hj' : j < xs.length := by simpa using hj
    rw [int_cells] at h8
    have : (cur.toList.take (xs.length * intE.sz))[j]? = some (Value.int .i64 xs[j]) := by rw [h8, List.getElem?_map, List.getElem?_eq_getElem hj']; rfl
    rw [List.getElem?_take, if_pos (by show j < xs.length * 1; omega), Array.getElem?_toList] at this
    refine ⟨?_, ?_⟩
    · unfold World.cell?
      simp only [h4, Nat.zero_add]
      rw [this]
      simp [hj']
    · unfold World.frozen?
      simp only [h4]
      simp

theorem sort_any (v : Value) (T : TypeId) (base : Nat) (xs : List Int) (w : World) (h : intE.Own T w base v xs) (hn : xs.length < 4611686018427387904) :
    Calls Try.prog 86 #[v] w fun e w' => e = .returned (.tuple #[]) ∧ intE.Own T w' base v (xs.mergeSort fun x y => decide (x ≤ y)) ∧ ∀ w0, Bl w0 w → w0.heap.size ≤ base → Bl w0 w' := by
  obtain ⟨A, c, rfl⟩ := Enc.Own.slice h
  by_cases hA : ∃ blk, A = some ⟨blk, 0, none⟩
  · obtain ⟨blk, rfl⟩ := hA
    obtain ⟨hH, hb, _, _⟩ := own_holds h
    refine (Try.slices_Sort_int blk 0 c xs w hH hb hn).mono ?_
    rintro e w' ⟨rfl, q, os, rfl⟩
    have hp := own_put h q (xs.mergeSort fun x y => decide (x ≤ y)).toArray os (by simp) xs.length (by simp) (xs.mergeSort fun x y => decide (x ≤ y)) (by rw [List.take_of_length_le (by simp)])
    exact ⟨rfl, hp.1, hp.2⟩
  · obtain ⟨h1, h2⟩ := h
    rcases h2 with ⟨h2, h3⟩ | ⟨g, c', cur, h2, _⟩
    · have hx : xs = [] := List.length_eq_zero_iff.1 h3
      subst hx
      refine (Try.slices_Sort_int_none A c w).mono ?_
      rintro e w' ⟨rfl, rfl⟩
      rw [show ([] : List Int).mergeSort (fun x y => decide (x ≤ y)) = [] by simp]
      exact ⟨rfl, ⟨h1, .inl ⟨h2, h3⟩⟩, fun _ h _ => h⟩
    · simp at h2; exact (hA ⟨g, h2.1⟩).elim

theorem compact_any (v : Value) (T : TypeId) (base : Nat) (xs : List Int) (w : World) (h : intE.Own T w base v xs) (hn : xs.length < 4611686018427387904) (hl : (Lib.compact xs).length ≤ xs.length) :
    Calls Try.prog 87 #[v] w fun e w' => ∃ u, e = .returned u ∧ intE.Own T w' base u (Lib.compact xs) ∧ ∀ w0, Bl w0 w → w0.heap.size ≤ base → Bl w0 w' := by
  obtain ⟨A, c, rfl⟩ := Enc.Own.slice h
  by_cases hA : ∃ blk, A = some ⟨blk, 0, none⟩
  · obtain ⟨blk, rfl⟩ := hA
    obtain ⟨hH, hb, _, hc⟩ := own_holds h
    refine (Try.slices_Compact_int blk 0 c xs w hH (by omega) hc).mono ?_
    rintro e w' ⟨rfl, q, rfl⟩
    have hp := own_put h q (Lib.compact xs ++ List.replicate (xs.length - (Lib.compact xs).length) 0).toArray #[] (by simp; omega) (Lib.compact xs).length (by simp) (Lib.compact xs) (by simp)
    rw [grow_empty] at hp
    exact ⟨_, rfl, hp.1, hp.2⟩
  · obtain ⟨h1, h2⟩ := h
    rcases h2 with ⟨h2, h3⟩ | ⟨g, c', cur, h2, _⟩
    · have hx : xs = [] := List.length_eq_zero_iff.1 h3
      subst hx
      refine (Try.slices_Compact_int_empty A c w).mono ?_
      rintro e w' ⟨rfl, rfl⟩
      exact ⟨_, rfl, ⟨h1, .inl ⟨h2, h3⟩⟩, fun _ h _ => h⟩
    · simp at h2; exact (hA ⟨g, h2.1⟩).elim
end Go.Proofs.Ytddcjekkimajpaa.Need

/- Rising rows of numbers: what a sort and a compaction make, what a number put in makes. No program in sight. -/
namespace Go.Ov
open Go.Lib

theorem comp_spec (d : Array Int) (hs : ∀ i j, i ≤ j → j < d.size → d[i]! ≤ d[j]!) : ∀ m, m ≤ d.size →
    (compactUpTo d m).Pairwise (· < ·) ∧ ∀ x, x ∈ compactUpTo d m ↔ ∃ j, j < m ∧ d[j]! = x
  | 0, _ => ⟨by simp [compactUpTo], fun x => by simp [compactUpTo]⟩
  | m + 1, hm => by
    obtain ⟨h1, h2⟩ := comp_spec d hs m (by omega)
    rw [compactUpTo_succ]
    by_cases hk : keeps d m = true
    · rw [if_pos hk]
      refine ⟨List.pairwise_append.2 ⟨h1, by simp, fun a ha b hb => ?_⟩, fun x => ?_⟩
      · obtain ⟨j, hj, rfl⟩ := (h2 a).1 ha
        have hb' : b = d[m]! := by simpa using hb
        subst hb'
        have hk' := hk
        simp only [keeps, decide_eq_true_eq] at hk'
        have hne : d[m]! ≠ d[m - 1]! := by rcases hk' with h | h; · omega
                                           · exact h
        have h3 := hs j (m - 1) (by omega) (by omega)
        have h4 := hs (m - 1) m (by omega) (by omega)
        omega
      · rw [List.mem_append, h2, List.mem_singleton]
        constructor
        · rintro (⟨j, hj, rfl⟩ | rfl)
          · exact ⟨j, by omega, rfl⟩
          · exact ⟨m, by omega, rfl⟩
        · rintro ⟨j, hj, rfl⟩
          by_cases e : j = m
          · exact .inr (by rw [e])
          · exact .inl ⟨j, by omega, rfl⟩
    · rw [if_neg hk, List.append_nil]
      refine ⟨h1, fun x => ?_⟩
      rw [h2]
      constructor
      · rintro ⟨j, hj, rfl⟩; exact ⟨j, by omega, rfl⟩
      · rintro ⟨j, hj, rfl⟩
        by_cases e : j = m
        · subst e
          simp only [keeps, decide_eq_true_eq, not_or, Decidable.not_not] at hk
          exact ⟨j - 1, by omega, hk.2.symm⟩
        · exact ⟨j, by omega, rfl⟩

theorem strict_ext : ∀ (a b : List Int), a.Pairwise (· < ·) → b.Pairwise (· < ·) → (∀ x, x ∈ a ↔ x ∈ b) → a = b
  | [], [], _, _, _ => rfl
  | [], y :: b, _, _, h => by have := (h y).2 (by simp); cases this
  | x :: a, [], _, _, h => by have := (h x).1 (by simp); cases this
  | x :: a, y :: b, ha, hb, h => by
    obtain ⟨ha1, ha2⟩ := List.pairwise_cons.1 ha
    obtain ⟨hb1, hb2⟩ := List.pairwise_cons.1 hb
    have e : x = y := by
      rcases List.mem_cons.1 ((h x).1 (by simp)) with e | hx
      · exact e
      · rcases List.mem_cons.1 ((h y).2 (by simp)) with e | hy
        · exact e.symm
        · have := ha1 y hy; have := hb1 x hx; omega
    subst e
    congr 1
    refine strict_ext a b ha2 hb2 fun z => ?_
    constructor
    · intro hz
      rcases List.mem_cons.1 ((h z).1 (by simp [hz])) with e | hz'
      · have := ha1 z hz; omega
      · exact hz'
    · intro hz
      rcases List.mem_cons.1 ((h z).2 (by simp [hz])) with e | hz'
      · have := hb1 z hz; omega
      · exact hz'

/-- sorted, each once -/
def sortedM (l : List Int) : List Int := Lib.compact (l.mergeSort fun x y => decide (x ≤ y))
theorem sortedM_spec (l : List Int) : (sortedM l).Pairwise (· < ·) ∧ ∀ x, x ∈ sortedM l ↔ x ∈ l := by
  have hp : (l.mergeSort fun x y => decide (x ≤ y)).Pairwise (fun x y => decide (x ≤ y) = true) := List.pairwise_mergeSort (by intro a b c; simp; omega) (by intro a b; simp; omega) l
  generalize hz : (l.mergeSort fun x y => decide (x ≤ y)) = z at *
  have hmem : ∀ x, x ∈ z ↔ x ∈ l := fun x => by rw [← hz]; exact List.mem_mergeSort
  obtain ⟨h1, h2⟩ := comp_spec z.toArray (fun i j hij hj => by
    have hj' : j < z.length := by simpa using hj
    have e1 : z.toArray[i]! = z[i]'(by omega) := by simp [show i < z.length by omega]
    have e2 : z.toArray[j]! = z[j]'(by omega) := by simp [hj']
    rw [e1, e2]
    by_cases e : i = j
    · subst e; exact Int.le_refl _
    · have := List.pairwise_iff_getElem.1 hp i j (by omega) (by omega) (by omega)
      simpa using this) z.length (by simp)
  unfold sortedM
  rw [hz]
  refine ⟨h1, fun x => ?_⟩
  rw [← hmem, show Lib.compact z = compactUpTo z.toArray z.length from rfl, h2]
  constructor
  · rintro ⟨j, hj, rfl⟩; simp [hj]
  · intro hx
    obtain ⟨j, hj, rfl⟩ := List.getElem_of_mem hx
    exact ⟨j, hj, by simp [hj]⟩
theorem compact_len (z : List Int) : (Lib.compact z).length ≤ z.length := by
  unfold Lib.compact compactUpTo
  rw [List.length_map]
  have := List.length_filter_le (keeps z.toArray) (List.range z.length)
  simpa using this
theorem sortedM_len (l : List Int) : (sortedM l).length ≤ l.length := by
  have := compact_len (l.mergeSort fun x y => decide (x ≤ y))
  simpa [sortedM] using this

/-- a number put into a rising row, from place k down -/
def riseK (l : List Int) (n : Int) : Nat → List Int
  | 0 => l.take 0 ++ n :: l.drop 0
  | k + 1 => if n ≤ l[k]?.getD 0 then (if l[k]?.getD 0 = n then l else riseK l n k) else l.take (k + 1) ++ n :: l.drop (k + 1)
def riseM (l : List Int) (n : Int) : List Int := riseK l n l.length
theorem riseK_spec (l : List Int) (n : Int) (hl : l.Pairwise (· < ·)) : ∀ k, k ≤ l.length → (∀ j (h : j < l.length), k ≤ j → n < l[j]) →
    (riseK l n k).Pairwise (· < ·) ∧ (∀ x, x ∈ riseK l n k ↔ x ∈ l ∨ x = n) ∧ (riseK l n k).length ≤ l.length + 1 := by
  have fin : ∀ k, k ≤ l.length → (∀ j (h : j < l.length), k ≤ j → n < l[j]) → (∀ j (h : j < l.length), j < k → l[j] < n) →
      (l.take k ++ n :: l.drop k).Pairwise (· < ·) ∧ (∀ x, x ∈ l.take k ++ n :: l.drop k ↔ x ∈ l ∨ x = n) ∧ (l.take k ++ n :: l.drop k).length ≤ l.length + 1 := by
    intro k hk h1 h2
    refine ⟨List.pairwise_append.2 ⟨hl.sublist (List.take_sublist _ _), List.pairwise_cons.2 ⟨fun a ha => ?_, hl.sublist (List.drop_sublist _ _)⟩, fun a ha b hb => ?_⟩, fun x => ?_, by simp; omega⟩
    · obtain ⟨j, hj, rfl⟩ := List.getElem_of_mem ha
      rw [List.getElem_drop]; exact h1 _ _ (by omega)
    · obtain ⟨i, hi, rfl⟩ := List.getElem_of_mem ha
      have hi' : i < k := by rw [List.length_take] at hi; omega
      rw [List.getElem_take]
      have h3 := h2 i (by omega) hi'
      rcases List.mem_cons.1 hb with rfl | hb
      · exact h3
      · obtain ⟨j, hj, rfl⟩ := List.getElem_of_mem hb
        rw [List.getElem_drop]
        have := h1 (k + j) (by rw [List.length_drop] at hj; omega) (by omega)
        omega
    · rw [List.mem_append, List.mem_cons]
      constructor
      · rintro (h | rfl | h)
        · exact .inl (List.mem_of_mem_take h)
        · exact .inr rfl
        · exact .inl (List.mem_of_mem_drop h)
      · rintro (h | rfl)
        · rw [← List.take_append_drop k l, List.mem_append] at h
          rcases h with h | h
          · exact .inl h
          · exact .inr (.inr h)
        · exact .inr (.inl rfl)
  intro k
  induction k with
  | zero => intro hk h1; exact fin 0 hk h1 (fun j _ h => by omega)
  | succ k ih =>
    intro hk h1
    have hkl : k < l.length := by omega
    have eg : l[k]?.getD 0 = l[k] := by simp [hkl]
    unfold riseK
    rw [eg]
    by_cases h : n ≤ l[k]
    · rw [if_pos h]
      by_cases h' : l[k] = n
      · rw [if_pos h']
        refine ⟨hl, fun x => ⟨.inl, ?_⟩, by omega⟩
        rintro (h | rfl)
        · exact h
        · rw [← h']; exact List.getElem_mem _
      · rw [if_neg h']
        refine ih (by omega) fun j hj hkj => ?_
        by_cases e : j = k
        · subst e; omega
        · exact h1 j hj (by omega)
    · rw [if_neg h]
      refine fin (k + 1) hk h1 fun j hj hjk => ?_
      by_cases e : j = k
      · subst e; omega
      · have := List.pairwise_iff_getElem.1 hl j k hj hkl (by omega); omega
def risesM (l : List Int) : List Int := l.foldl riseM []
theorem rises_spec : ∀ (l a : List Int), a.Pairwise (· < ·) → (l.foldl riseM a).Pairwise (· < ·) ∧ (∀ x, x ∈ l.foldl riseM a ↔ x ∈ a ∨ x ∈ l) ∧ (l.foldl riseM a).length ≤ a.length + l.length
  | [], a, h => ⟨h, fun x => by simp, by simp⟩
  | n :: l, a, h => by
    obtain ⟨h1, h2, h3⟩ := riseK_spec a n h a.length (Nat.le_refl _) (fun j hj hk => by omega)
    obtain ⟨g1, g2, g3⟩ := rises_spec l (riseM a n) h1
    refine ⟨g1, fun x => ?_, ?_⟩
    · rw [List.foldl_cons, g2, show x ∈ riseM a n ↔ _ from h2 x, List.mem_cons, or_assoc]
    · rw [List.foldl_cons, List.length_cons]
      have : (riseM a n).length ≤ a.length + 1 := h3
      omega
theorem rises_sorted (l : List Int) : risesM l = sortedM l := by
  obtain ⟨h1, h2, _⟩ := rises_spec l [] (by simp)
  obtain ⟨g1, g2⟩ := sortedM_spec l
  exact strict_ext _ _ h1 g1 fun x => by rw [g2]; unfold risesM; rw [h2]; simp
end Go.Ov

/- Contracts of extent.Find, extent.Sectors and overdubref14's Find, Rise, Sectors. -/
namespace Go.Proofs.Ytddcjekkimajpaa.ExtW
open Go.RowKit Go.Ov Go.Proofs.Ytddcjekkimajpaa.Need

theorem infoInt : (Try.prog.info? 3).map (fun i => (i.zero, i.size, i.bytes)) = some (some (.int .i64 0), 1, 8) := by kernel_rfl

/-- which one has a sample, from number k on -/
def findP (p : Ext → Bool) : Nat → List Ext → Int × Bool
  | _, [] => (0, false)
  | k, e :: l => if p e then (k, true) else findP p (k + 1) l
def hasM (x : Int) (e : Ext) : Bool := decide (e.at_ ≤ x) && decide (wrap64 (x - e.at_) < e.take)
def hasR (x : Int) (e : Ext) : Bool := decide (e.at_ ≤ x) && decide (x < wrap64 (e.at_ + e.take))

set_option maxRecDepth 100000 in
set_option maxHeartbeats 1000000 in
theorem sectors_any (v : Value) (l : List Ext) (w : World) (h : extE.Is w v l) (hn : l.length ≤ 1000000) :
    Calls Try.prog 78 #[v] w fun e w' => ∃ u, e = .returned u ∧ intE.Own 3 w' w.heap.size u (sortedM (l.map Ext.sector)) ∧ Bl w w' := by
  obtain ⟨A, c, rfl, h1, h2, h3, h4⟩ := h
  have HA := Lib.hid h4
  have hl : l.length ≤ 9223372036854775807 := by unfold maxLen at h2; omega
  have hu := Try.underlying38
  clear h1 h2 h3 h4
  go_enter Try.func78, Try.ntmps78
  go_wp2
  go_loopg [3, 8] l.length (fun g s i wr => ∃ (k : Nat), k ≤ l.length ∧ g = l.length - k ∧ i = .int .i64 k ∧ intE.Own 3 wr w.heap.size s (pmap Ext.sector l k) ∧ Bl w wr)
  case atStart => exact ⟨0, by omega, rfl, rfl, Enc.Own.nil _ _ _, Bl.refl _⟩
  case round =>
    obtain ⟨k, hk, rfl, rfl, ho, hbl⟩ := hrel
    have HB := Lib.hid hbl
    have HO := Lib.hid ho
    clear hbl ho
    by_cases hlt : k < l.length
    · obtain ⟨ad, rfl, c0, c1, c2, c3, c4⟩ := ext_at (HA.out.bl HB.out) k hlt
      have hst := Lib.hid (pmap_succ Ext.sector l k hlt)
      have hlen := Lib.hid (pmap_len Ext.sector l k hk)
      generalize pmap Ext.sector l k = xs at *
      generalize l[k] = x at *
      obtain ⟨x0, x1, x2, x3, x4⟩ := x
      dsimp only at c0 c1 c2 c3 c4
      go_wp2_with (at_builtin; refine Enc.Own.append1 (E := intE) rfl (.tmp 12) (.tmp 15) 22 rfl w.heap.size 3 (.int .i64 0) 1 8 Try.underlying22 infoInt rfl rfl (by decide) (by decide) u3 xs rfl (HO.out.bl ((Bl.refl _).alloc _)) x1 _ rfl (by simp) rfl ?hlen ?hbase ?_; (case hlen => have := hlen.out; omega); (case hbase => exact (HB.out.alloc _).size); intro v1 w1 ho hg)
      go_roundg (l.length - (k + 1))
      case measure => omega
      case rel => exact ⟨k + 1, by omega, rfl, by go_num, by rw [hst.out]; exact ho, ((HB.out.alloc _).alloc _).grown hg (fun k hk => (Enc.Own.lt HO.out k hk).1)⟩
    · have ho : intE.Own 3 wr w.heap.size u3 (l.map Ext.sector) := by have := HO.out; rw [pmap_all _ _ _ (by omega)] at this; exact this
      have HO2 := Lib.hid ho
      clear HO ho
      go_wp2_with fail
      refine (sort_any _ _ _ _ _ HO2.out (by rw [List.length_map]; omega)).mono ?_
      rintro e w1 ⟨rfl, ho, hb⟩
      have HO3 := Lib.hid ho
      have HB1 := Lib.hid (hb w HB.out (Nat.le_refl _))
      clear ho hb
      go_wp2_with fail
      refine (compact_any _ _ _ _ _ HO3.out (by rw [List.length_mergeSort, List.length_map]; omega) (compact_len _)).mono ?_
      rintro e w2 ⟨u, rfl, ho, hb⟩
      have HO4 := Lib.hid ho
      have HB2 := Lib.hid (hb w HB1.out (Nat.le_refl _))
      clear ho hb
      go_wp2
      go_ret
      exact ⟨_, rfl, HO4.out, HB2.out⟩
end Go.Proofs.Ytddcjekkimajpaa.ExtW
