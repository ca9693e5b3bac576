/- The walk of overdublaw21.StateTracks. -/
import Derived.Test.YtddcjekkimajpaaStatePure
import Derived.Test.YtddcjekkimajpaaSameInt
import Derived.Test.YtddcjekkimajpaaOpen
namespace Go.Proofs.Ytddcjekkimajpaa.ExtW
open Go.RowKit Go.Ov Go.Proofs.Ytddcjekkimajpaa.Need

theorem rec_is (w : World) (k t f o : Int) : RecIs w (.agg #[.int .i64 k, .int .i64 t, .int .i64 f, .int .i64 o, .slice none 0 0]) ⟨k, t, f, o, []⟩ := ⟨_, rfl, Enc.Is.nil _⟩

set_option maxRecDepth 100000 in
set_option maxHeartbeats 2000000 in
theorem wakes21_any (w : World) : Calls Try.prog 16 #[] w fun e w' => e = .returned (.bool true) ∧ Bl w w' := by
  have hap := (apply_C [] 3 (by decide) (by decide)).2.2 rfl (by decide)
  have HAP := Lib.hid hap
  clear hap
  go_enter Try.func16, Try.ntmps16
  go_wp2_with fail
  refine (snew_any _).mono ?_
  rintro e w1 ⟨s0, rfl, hs, hb⟩
  have HS := Lib.hid hs
  obtain ⟨b0, _, _, rfl, _⟩ := hs
  have HB := Lib.hid hb
  clear hb
  go_wp2_with fail
  refine (sapply_any _ _ [] (recC 3) _ HS.out (rec_is _ 1 3 0 0) SOK.nil.1).mono ?_
  rintro e w2 ⟨⟨h1, _⟩, hb⟩
  obtain ⟨t, rfl, ht⟩ := h1 (by rw [HAP.out])
  rw [HAP.out] at ht
  have HT := Lib.hid ht
  obtain ⟨b1, _, _, rfl, _⟩ := ht
  have HB2 := Lib.hid (HB.out.bl hb)
  have HS2 := Lib.hid (HS.out.bl hb)
  clear hb h1
  go_wp2_with fail
  refine (sids_any _ _ _ HT.out (by decide)).mono ?_
  rintro e w3 ⟨u, rfl, ho, hb⟩
  have HU := Lib.hid ho.is
  obtain ⟨A, c, rfl⟩ := ho.slice
  have HB3 := Lib.hid (HB2.out.bl hb)
  have HS3 := Lib.hid (HS2.out.bl hb)
  clear ho hb
  go_wp2_with fail
  refine (sameInt_any _ _ [3] [3] _ (HU.out.bl ((Bl.refl _).alloc _)) ((Enc.Own.lit (E := intE) w3 0 [3] #[.int .i64 3] rfl 1 rfl (Nat.zero_le _) (by decide) rfl).is)).mono ?_
  rintro e w4 ⟨rfl, hb⟩
  have HB4 := Lib.hid ((HB3.out.alloc _).bl hb)
  have HS4 := Lib.hid ((HS3.out.bl ((Bl.refl _).alloc _)).bl hb)
  rw [decide_eq_true (show ([3] : List Int) = [3] from rfl)]
  clear hb
  go_wp2_with fail
  refine (sids_any _ _ _ HS4.out (by decide)).mono ?_
  rintro e w5 ⟨u2, rfl, ho, hb⟩
  obtain ⟨A2, c2, rfl⟩ := ho.slice
  have HB5 := Lib.hid (HB4.out.bl hb)
  clear ho hb
  go_wp2_with fail
  go_ret
  exact ⟨rfl, HB5.out⟩

set_option maxRecDepth 100000 in
set_option maxHeartbeats 4000000 in
theorem tracks_walk (v : Value) (l : List Int) (w : World) (h : ArgInts w v l) :
    Calls Try.prog 3 #[v] w fun e w' => e = .returned (.bool true) ∧ Bl w w' := by
  obtain ⟨⟨A, c, rfl, _, q1, _, hA⟩, _, _⟩ := h
  have HA := Lib.hid hA
  unfold maxLen at q1
  have hl : l.length ≤ 9223372036854775807 := by omega
  clear hA q1
  go_enter Try.func3, Try.ntmps3
  go_wp2_with fail
  refine (snew_any _).mono ?_
  rintro e w1 ⟨s0, rfl, hs, hb⟩
  have HS := Lib.hid hs
  have HB := Lib.hid hb
  obtain ⟨b0, _, _, rfl, _⟩ := hs
  clear hb
  go_wp2_with fail
  go_loopg [3, 4, 5] l.length (fun g vs n i wr => ∃ (k : Nat) (S : StM), k ≤ l.length ∧ k ≤ 12 ∧ g = l.length - k ∧ i = .int .i64 k ∧ n = .int .i64 S.length ∧ Hid (StateIs wr vs S) ∧ Hid (SOK S) ∧ Hid (Bl w wr))
  case atStart => exact ⟨0, [], by omega, by omega, rfl, rfl, rfl, HS, Lib.hid SOK.nil, HB⟩
  case round =>
    clear HS HB
    obtain ⟨k, S, hk, hk12, rfl, rfl, rfl, HS, HK, HB⟩ := hrel
    have hS6 := HK.out.1.1
    by_cases hlt : k < l.length ∧ k < 12
    · obtain ⟨hlt, hlt12⟩ := hlt
      obtain ⟨ad, rfl, d0⟩ := int_at (HA.out.bl HB.out) k hlt
      generalize l[k] = x at d0
      have hx := within_bd x 10 (by decide)
      have hkl : (k : Int) < l.length := by omega
      obtain ⟨id, hid⟩ : ∃ id, id = within x 10 := ⟨_, rfl⟩
      rw [← hid] at hx
      have HID := Lib.hid hid
      obtain ⟨hx0, hx1⟩ := hx
      have hC := apply_C S id hx0 (by omega)
      have hD := apply_D S id hx0 (by omega)
      clear hid
      obtain ⟨bS, _, _, e0, _⟩ := HS.out
      subst e0
      cases hg : getS S id with
      | some t =>
        have HG := Lib.hid hg
        have HC := Lib.hid (hC.1 (by rw [hg]; simp))
        have HD := Lib.hid (hD.2 (by rw [hg]; simp))
        have hwl := without_len_some HK.out.2 hg
        clear hC hD hg
        go_wp2_with fail
        refine (within_any _ _ _ (by decide)).mono ?_
        rintro e w2 ⟨rfl, rfl⟩
        rw [← HID.out]
        go_wp2_with fail
        refine (slength_any _ S id _ HS.out HK.out.1.2).mono ?_
        rintro e w2 ⟨⟨_, h1⟩, hb⟩
        obtain rfl := h1 t HG.out
        have HS2 := Lib.hid (HS.out.bl hb)
        have HB2 := Lib.hid (HB.out.bl hb)
        clear hb h1
        go_wp2_with fail
        refine (sapply_any _ _ S (recC id) _ HS2.out (rec_is _ 1 id 0 0) HK.out.1).mono ?_
        rintro e w3 ⟨⟨_, h1⟩, hb⟩
        obtain rfl := h1 (by rw [HC.out]; decide)
        rw [HC.out]
        have HS3 := Lib.hid (HS2.out.bl hb)
        have HB3 := Lib.hid (HB2.out.bl hb)
        clear hb h1
        go_wp2_with fail
        refine (sapply_any _ _ S (recD id) _ HS3.out (rec_is _ 2 id 0 0) HK.out.1).mono ?_
        rintro e w4 ⟨⟨h1, _⟩, hb⟩
        obtain ⟨u, rfl, hu⟩ := h1 (by rw [HD.out])
        rw [HD.out] at hu
        have HU := Lib.hid hu
        obtain ⟨bU, _, _, rfl, _⟩ := hu
        have HB4 := Lib.hid (HB3.out.bl hb)
        have HK4 := Lib.hid (HK.out.without id)
        clear hb h1
        go_wp2_with fail
        refine (slength_any _ (withoutS S id) id _ HU.out HK4.out.1.2).mono ?_
        rintro e w5 ⟨⟨h1, _⟩, hb⟩
        obtain rfl := h1 (without_none S id)
        have HU5 := Lib.hid (HU.out.bl hb)
        have HB5 := Lib.hid (HB4.out.bl hb)
        clear hb h1
        go_wp2_with fail
        go_roundg (l.length - (k + 1))
        case measure => omega
        case rel => exact ⟨k + 1, withoutS S id, by omega, by omega, rfl, by go_num, by rw [show (S.length : Int) - 1 = ((withoutS S id).length : Int) by omega], HU5, HK4, HB5⟩
      | none =>
        have HG := Lib.hid hg
        have HD := Lib.hid (hD.1 hg)
        by_cases h6 : 6 ≤ S.length
        · have HC := Lib.hid (hC.2.1 hg h6)
          have hSe : S.length = 6 := by omega
          have hSe2 : ((S.length : Int) == 6) = true := by rw [hSe]; rfl
          have hSe3 : (S.length == 6) = true := by rw [hSe]; rfl
          have hSe4 : ¬ ((S.length : Int) < 6) := by omega
          clear hC hD hg hSe
          go_wp2_with fail
          refine (within_any _ _ _ (by decide)).mono ?_
          rintro e w2 ⟨rfl, rfl⟩
          rw [← HID.out]
          go_wp2_with fail
          refine (slength_any _ S id _ HS.out HK.out.1.2).mono ?_
          rintro e w2 ⟨⟨h1, _⟩, hb⟩
          obtain rfl := h1 HG.out
          have HS2 := Lib.hid (HS.out.bl hb)
          have HB2 := Lib.hid (HB.out.bl hb)
          clear hb h1
          go_wp2_with fail
          refine (sapply_any _ _ S (recC id) _ HS2.out (rec_is _ 1 id 0 0) HK.out.1).mono ?_
          rintro e w3 ⟨⟨_, h1⟩, hb⟩
          obtain rfl := h1 (by rw [HC.out]; decide)
          rw [HC.out]
          have HS3 := Lib.hid (HS2.out.bl hb)
          have HB3 := Lib.hid (HB2.out.bl hb)
          clear hb h1
          go_wp2_with fail
          refine (sapply_any _ _ S (recD id) _ HS3.out (rec_is _ 2 id 0 0) HK.out.1).mono ?_
          rintro e w4 ⟨⟨_, h1⟩, hb⟩
          obtain rfl := h1 (by rw [HD.out]; decide)
          rw [HD.out]
          have HS4 := Lib.hid (HS3.out.bl hb)
          have HB4 := Lib.hid (HB3.out.bl hb)
          clear hb h1
          go_wp2_with fail
          go_roundg (l.length - (k + 1))
          case measure => omega
          case rel => exact ⟨k + 1, S, by omega, by omega, rfl, by go_num, rfl, HS4, HK, HB4⟩
        · have hz := hC.2.2 hg (by omega)
          have HC := Lib.hid hz
          have HK4 := Lib.hid (show SOK (putL S id (treeM [])) by have := HK.out.apply (r := recC id) (by rw [hz]); rwa [hz] at this)
          have hpl := put_len S id (treeM [])
          rw [without_len_none hg] at hpl
          have HG4 := Lib.hid (show getS (putL S id (treeM [])) id = some (treeM []) by rw [put_get, if_pos rfl])
          have hSe2 : ((S.length : Int) == 6) = false := by rw [beq_eq_false_iff_ne]; omega
          have hSe3 : (S.length == 6) = false := by rw [beq_eq_false_iff_ne]; omega
          have hSe4 : (S.length : Int) < 6 := by omega
          clear hC hD hg hz
          go_wp2_with fail
          refine (within_any _ _ _ (by decide)).mono ?_
          rintro e w2 ⟨rfl, rfl⟩
          rw [← HID.out]
          go_wp2_with fail
          refine (slength_any _ S id _ HS.out HK.out.1.2).mono ?_
          rintro e w2 ⟨⟨h1, _⟩, hb⟩
          obtain rfl := h1 HG.out
          have HS2 := Lib.hid (HS.out.bl hb)
          have HB2 := Lib.hid (HB.out.bl hb)
          clear hb h1
          go_wp2_with fail
          refine (sapply_any _ _ S (recC id) _ HS2.out (rec_is _ 1 id 0 0) HK.out.1).mono ?_
          rintro e w3 ⟨⟨h1, _⟩, hb⟩
          obtain ⟨u, rfl, hu⟩ := h1 (by rw [HC.out])
          rw [HC.out] at hu
          have HU := Lib.hid hu
          obtain ⟨bU, _, _, rfl, _⟩ := hu
          have HS3 := Lib.hid (HS2.out.bl hb)
          have HB3 := Lib.hid (HB2.out.bl hb)
          clear hb h1
          go_wp2_with fail
          refine (sapply_any _ _ S (recD id) _ HS3.out (rec_is _ 2 id 0 0) HK.out.1).mono ?_
          rintro e w4 ⟨⟨_, h1⟩, hb⟩
          obtain rfl := h1 (by rw [HD.out]; decide)
          rw [HD.out]
          have HU4 := Lib.hid (HU.out.bl hb)
          have HB4 := Lib.hid (HB3.out.bl hb)
          clear hb h1
          go_wp2_with fail
          refine (slength_any _ _ id _ HU4.out HK4.out.1.2).mono ?_
          rintro e w5 ⟨⟨_, h1⟩, hb⟩
          obtain rfl := h1 _ HG4.out
          rw [show endM (treeM []).row = 0 from rfl]
          have HU5 := Lib.hid (HU4.out.bl hb)
          have HB5 := Lib.hid (HB4.out.bl hb)
          clear hb h1
          go_wp2_with fail
          go_roundg (l.length - (k + 1))
          case measure => omega
          case rel => exact ⟨k + 1, _, by omega, by omega, rfl, by go_num, by rw [hpl]; go_num, HU5, HK4, HB5⟩
    · rcases (show (k < l.length ∧ ¬ k < 12) ∨ ¬ k < l.length from by by_cases q : k < l.length; exact .inl ⟨q, fun p => hlt ⟨q, p⟩⟩; exact .inr q) with ⟨hkl2, hk7⟩ | hkl2
      all_goals
        clear hlt
        go_wp2_with fail
        refine (sids_any _ S _ HS.out (by omega)).mono ?_
        rintro e w2 ⟨u, rfl, ho, hb⟩
        obtain ⟨A2, c2, rfl⟩ := ho.slice
        have HB2 := Lib.hid (HB.out.bl hb)
        rw [List.length_map]
        clear ho hb
        go_wp2_with fail
        refine (wakes21_any _).mono ?_
        rintro e w3 ⟨rfl, hb⟩
        go_wp2_with fail
        go_ret
        exact ⟨rfl, HB2.out.bl hb⟩
end Go.Proofs.Ytddcjekkimajpaa.ExtW
