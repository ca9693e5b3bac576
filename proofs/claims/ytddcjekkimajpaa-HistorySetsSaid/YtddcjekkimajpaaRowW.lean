/- Contract of overdublaw16.Row. -/
import Derived.Test.YtddcjekkimajpaaExtW
namespace Go.Proofs.Ytddcjekkimajpaa.ExtW
open Go.RowKit Go.Ov Go.Proofs.Ytddcjekkimajpaa.Need

set_option maxRecDepth 100000 in
set_option maxHeartbeats 1000000 in
theorem row16_any (v : Value) (l : List Ext) (m : Nat) (w : World) (h : extE.Is w v l) (hm : m ≤ 1000) :
    Calls Try.prog 17 #[v, .int .i64 m] w fun e w' => ∃ u, e = .returned u ∧ extE.Own 38 w' w.heap.size u (rowM l m) ∧ Bl w w' := by
  obtain ⟨A, c, rfl, h1, h2, h3, h4⟩ := h
  have HA := Lib.hid h4
  have hl : l.length ≤ 9223372036854775807 := by unfold maxLen at h2; omega
  have hu := Try.underlying38
  clear h1 h2 h3 h4
  go_enter Try.func17, Try.ntmps17
  go_wp2
  go_loopg [5, 6, 7] l.length (fun g s q i wr => ∃ (k : Nat) (a : Int) (xs : List Ext), k ≤ l.length ∧ k ≤ m ∧ g = l.length - k ∧ i = .int .i64 k ∧ q = .int .i64 a ∧ 0 ≤ a ∧ a ≤ 1000 ∧ Hid (rowM l m = xs ++ rowGo a ((l.take m).drop k)) ∧ Hid (xs.length ≤ k) ∧ extE.Own 38 wr w.heap.size s xs ∧ Bl w wr)
  case atStart => exact ⟨0, 0, [], by omega, by omega, rfl, rfl, rfl, by omega, by omega, Lib.hid rfl, Lib.hid (Nat.le_refl _), Enc.Own.nil _ _ _, Bl.refl _⟩
  case round =>
    obtain ⟨k, a, xs, hk, hkm, rfl, rfl, rfl, ha0, ha1, hr, hlen, ho, hbl⟩ := hrel
    have HB := Lib.hid hbl
    have HO := Lib.hid ho
    clear hbl ho
    by_cases hlt : k < l.length ∧ k < m
    · obtain ⟨hlt, hltm⟩ := hlt
      obtain ⟨ad, rfl, c0, c1, c2, c3, c4⟩ := ext_at (HA.out.bl HB.out) k hlt
      have hd : (l.take m).drop k = l[k] :: (l.take m).drop (k + 1) := by
        rw [List.drop_eq_getElem_cons (by rw [List.length_take]; omega)]; simp
      have HD := Lib.hid hd
      clear hd
      generalize l[k] = x at *
      obtain ⟨x0, x1, x2, x3, x4⟩ := x
      dsimp only at c0 c1 c2 c3 c4
      have b1 := within_bd x2 64 (by decide)
      have b2 := within_bd x3 (1 + within x2 64) (by omega)
      have b3 := within_bd x4 (1 + within x2 64 - within x3 (1 + within x2 64)) (by omega)
      have b4 := within_bd x1 4095 (by decide)
      have hs := Lib.hid (show rowGo a (⟨x0, x1, x2, x3, x4⟩ :: (l.take m).drop (k + 1)) = _ from rowGo.eq_2 ..)
      by_cases ht : 1000 - a < 1 + within x4 (1 + within x2 64 - within x3 (1 + within x2 64))
      · go_wp2_with (go_at_call 12; refine (within_any _ _ _ (by omega)).mono ?_; rintro e w' ⟨rfl, rfl⟩)
        go_ret
        refine ⟨_, rfl, ?_, HB.out⟩
        rw [hr.out, HD.out, hs.out]
        try dsimp only
        rw [if_pos ht, List.append_nil]; exact HO.out
      · have HT := Lib.hid ht
        go_wp2_with (first | (go_at_call 12; refine (within_any _ _ _ (by omega)).mono ?_; rintro e w' ⟨rfl, rfl⟩) | (at_builtin; refine Enc.Own.append1 (E := extE) rfl (.tmp 50) (.tmp 63) 31 rfl w.heap.size 38 (.agg #[.int .i64 0, .int .i64 0, .int .i64 0, .int .i64 0, .int .i64 0]) 5 40 Try.underlying31 infoExt rfl rfl (by decide) (by decide) u5 xs rfl HO.out ⟨a, 1 + within x1 4095, 1 + within x2 64, within x3 (1 + within x2 64), 1 + within x4 (1 + within x2 64 - within x3 (1 + within x2 64))⟩ _ rfl rfl rfl ?hlen ?hbase ?_; (case hlen => have := hlen.out; omega); (case hbase => exact HB.out.size); intro v1 w1 ho hg))
        go_roundg (l.length - (k + 1))
        case measure => omega
        case rel =>
          refine ⟨k + 1, a + (1 + within x4 (1 + within x2 64 - within x3 (1 + within x2 64))), xs ++ [⟨a, 1 + within x1 4095, 1 + within x2 64, within x3 (1 + within x2 64), 1 + within x4 (1 + within x2 64 - within x3 (1 + within x2 64))⟩], by omega, by omega, rfl, by go_num, rfl, by omega, by omega, Lib.hid ?_, Lib.hid ?_, ho, (HB.out.alloc _).grown hg (fun k hk => (Enc.Own.lt HO.out k hk).1)⟩
          · rw [hr.out, HD.out, hs.out]
            try dsimp only
            rw [if_neg (by have := HT.out; omega), List.append_assoc]; rfl
          · rw [List.length_append]; have := hlen.out; simp only [List.length_cons, List.length_nil]; omega
    · have hend : (l.take m).drop k = [] := List.drop_of_length_le (by rw [List.length_take]; omega)
      have HE := Lib.hid hend
      clear hend
      have hlt' : k < l.length → ¬ k < m := fun p q => hlt ⟨p, q⟩
      clear hlt
      by_cases hkl : k < l.length
      · have hkm' := hlt' hkl
        clear hlt'
        go_wp2
        go_ret
        refine ⟨_, rfl, ?_, HB.out⟩
        rw [hr.out, HE.out, rowGo, List.append_nil]; exact HO.out
      · clear hlt'
        go_wp2
        go_ret
        refine ⟨_, rfl, ?_, HB.out⟩
        rw [hr.out, HE.out, rowGo, List.append_nil]; exact HO.out
end Go.Proofs.Ytddcjekkimajpaa.ExtW
