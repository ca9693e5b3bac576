/- Several texts joined (see each one's head). -/
import Derived.Test.YtoocebghlchcoaaGreatPkBD
import Derived.Test.YtoocebghlchcoaaGreatPkAH
import Derived.Test.YtoocebghlchcoaaGreatPkBC
/- The walk of overdublaw18.ExtentNothing. -/
namespace Go.Proofs.YtoocebghlchcoaaGreat.ExtW
open Go.RowKit Go.Ov Go.Proofs.YtoocebghlchcoaaGreat.Need

theorem end_eq (v : Value) (l : List Ext) (w : World) (h : extE.Is w v l) {n : Int} (hm : wrap64 (endM l) = n) :
    Calls Tryz.prog 154 #[v] w fun e w' => e = .returned (.int .i64 n) ∧ Bl w w' := by
  have := end_any v l w h
  rw [hm] at this; exact this

theorem valid_small : ∀ (l : List Ext) (a : Int), validFrom a l = true → ∀ e ∈ l, small e = true
  | [], _, _ => fun e h => by simp at h
  | x :: l, a, hv => by
    obtain ⟨e0, e1, e2, e3, e4, e5, e6, e7, e8, e9⟩ := valid_cons hv
    intro e he
    rcases List.mem_cons.1 he with rfl | he
    · simp [small]; omega
    · exact valid_small l _ e9 e he
theorem valid_len (l : List Ext) (h : validFrom 0 l = true) : l.length ≤ 1000 := by have := validFrom_bd l 0 (by decide) h; omega
theorem shift_zero : ∀ (l : List Ext) (a : Int), 0 ≤ a → a ≤ 1000 → validFrom a l = true → shiftM 0 l = l
  | [], _, _, _, _ => rfl
  | x :: l, a, h0, h1, hv => by
    obtain ⟨e0, e1, e2, e3, e4, e5, e6, e7, e8, e9⟩ := valid_cons hv
    show shiftE 0 x :: shiftM 0 l = x :: l
    rw [shift_zero l (a + x.take) (by omega) e8 e9]
    obtain ⟨x0, x1, x2, x3, x4⟩ := x
    simp only at e0
    simp only [shiftE, Int.add_zero]
    rw [wrap_id (by omega) (by omega)]

/-- what the statement says, of the model -/
theorem nothing_pure (R M : List Ext) (at_ : Int) (hR : validFrom 0 R = true) (hM : validFrom 0 M = true) (h0 : 0 ≤ at_) (h1 : at_ ≤ endM R) :
    spliceM R at_ at_ [] = (spliceL R at_ at_ [], 0) ∧ validFrom 0 (spliceL R at_ at_ []) = true ∧ spotsM (spliceL R at_ at_ []) = spotsM R ∧
    spliceM R 0 (endM R) M = (M, 0) ∧ spliceM R 0 (endM R) [] = ([], 0) ∧ spliceM [] 0 0 M = (M, 0) ∧ spliceM R (endM R + 1) (endM R + 1) [] = ([], 1) ∧ spliceM R 0 (-1) [] = ([], 1) := by
  have b1 := valid_bd R 0 (by decide) hR
  have b2 := valid_bd M 0 (by decide) hM
  have hn : endM [] = 0 := rfl
  have good : ∀ (l : List Ext) (fr tt : Int) (new : List Ext), validFrom 0 new = true → 0 ≤ fr → fr ≤ tt → fr ≤ endM l → fr + endM new + endM l - min tt (endM l) ≤ 1000 → spliceM l fr tt new = (spliceL l fr tt new, 0) := by
    intro l fr tt new h1 h2 h3 h4 h5
    unfold spliceM spliceBad spliceLong
    rw [if_neg (by simp [h1]; omega), if_neg (by simp; omega)]
  have whole : ∀ (l new : List Ext), validFrom 0 l = true → validFrom 0 new = true → spliceL l 0 (endM l) new = new := by
    intro l new hl hn
    unfold spliceL
    rw [cut_nil l 0 0 0 (by decide) hl (by decide), shift_zero new 0 (by decide) (by decide) hn, Int.min_self, cut_nil l 0 _ _ (by decide) hl (by omega)]
    simp [shiftM]
  refine ⟨good _ _ _ _ rfl h0 (Int.le_refl _) h1 (by omega), splice_valid R [] _ _ hR rfl h0 (Int.le_refl _) h1 (by omega), ?_, ?_, ?_, ?_, ?_, ?_⟩
  · rw [splice_spots R [] _ _ hR h0 (Int.le_refl _) h1, Int.min_eq_left h1]
    simp [spotsM]
  · rw [good _ _ _ _ hM (by decide) (by omega) (by omega) (by omega), whole R M hR hM]
  · rw [good _ _ _ _ rfl (by decide) (by omega) (by omega) (by omega), whole R [] hR rfl]
  · rw [good [] 0 0 M hM (by decide) (by decide) (by decide) (by rw [hn]; omega)]; exact congrArg (·, 0) (whole [] M rfl hM)
  · unfold spliceM spliceBad; rw [if_pos (by simp; omega)]
  · unfold spliceM spliceBad; rw [if_pos (by simp)]

end Go.Proofs.YtoocebghlchcoaaGreat.ExtW

/- Contracts of the document's own functions on extents (overdubref14). -/
namespace Go.Proofs.YtoocebghlchcoaaGreat.ExtW
open Go.RowKit Go.Ov Go.Proofs.YtoocebghlchcoaaGreat.Need

theorem first_bad (x : Ext) (a : Int) : x.at_ ≠ a ∨ x.at_ = a ∧ (x.take < 1 ∨ ¬ x.take < 1 ∧ (x.skip < 0 ∨ ¬ x.skip < 0 ∧ (64 < x.count ∨ ¬ 64 < x.count ∧ (x.count < x.skip ∨ ¬ x.count < x.skip ∧ (x.count - x.skip < x.take ∨ ¬ x.count - x.skip < x.take ∧ (x.sector < 1 ∨ ¬ x.sector < 1 ∧ (4096 ≤ x.sector ∨ ¬ 4096 ≤ x.sector))))))) := by omega

set_option maxRecDepth 100000 in
set_option maxHeartbeats 2000000 in
theorem rvalid_any (v : Value) (l : List Ext) (w : World) (h : extE.Is w v l) : Calls Tryz.prog 12 #[v] w fun e w' => e = .returned (.bool (validFrom 0 l)) ∧ Bl w w' := by
  obtain ⟨A, c, rfl, h1, h2, h3, h4⟩ := h
  have HA := Lib.hid h4
  have hl : l.length ≤ 9223372036854775807 := by unfold maxLen at h2; omega
  have hu := Tryz.underlying34
  clear h1 h2 h3 h4
  go_enter Tryz.func12, Tryz.ntmps12
  go_wp2
  go_loopg [3, 8] l.length (fun g s i wr => ∃ (k : Nat) (a : Int), k ≤ l.length ∧ g = l.length - k ∧ i = .int .i64 k ∧ s = .int .i64 a ∧ Hid (validFrom 0 l = validFrom a (l.drop k)) ∧ 0 ≤ a ∧ a ≤ 1000 ∧ Bl w wr)
  case atStart => exact ⟨0, 0, by omega, rfl, rfl, rfl, Lib.hid rfl, by omega, by omega, Bl.refl _⟩
  case round =>
    obtain ⟨k, a, hk, rfl, rfl, rfl, hv, ha0, ha1, hbl⟩ := hrel
    have HB := Lib.hid hbl
    clear hbl
    by_cases hlt : k < l.length
    · obtain ⟨ad, rfl, c0, c1, c2, c3, c4⟩ := ext_at (HA.out.bl HB.out) k hlt
      have hd := Lib.hid (List.drop_eq_getElem_cons hlt)
      generalize l[k] = x at *
      have hf := first_bad x a
      obtain ⟨x0, x1, x2, x3, x4⟩ := x
      dsimp only at c0 c1 c2 c3 c4 hf
      rcases hf with g | ⟨rfl, g | ⟨g1, g | ⟨g2, g | ⟨g3, g | ⟨g4, g | ⟨g5, g | ⟨g6, g | g7⟩⟩⟩⟩⟩⟩⟩
      rotate_right
      · have hw2 : wrap64 (x2 - x3) = x2 - x3 := wrap_id (by omega) (by omega)
        go_wp2
        · go_ret
          refine ⟨ret_bool ?_, HB.out.alloc _⟩
          rw [hv.out, hd.out, Bool.eq_iff_iff]; simp [validFrom, oneB]; intros; exfalso; omega
        · go_roundg (l.length - (k + 1))
          case measure => omega
          case rel =>
            refine ⟨k + 1, x0 + x4, by omega, rfl, by go_num, rfl, Lib.hid ?_, by omega, by omega, HB.out.alloc _⟩
            rw [hv.out, hd.out]; simp [validFrom, oneB]; omega
      all_goals
        go_wp2
        go_ret
        refine ⟨ret_bool ?_, HB.out.alloc _⟩
        rw [hv.out, hd.out, Bool.eq_iff_iff]; simp [validFrom, oneB]; intros; exfalso; omega
    · go_wp2
      go_ret
      refine ⟨ret_bool ?_, HB.out⟩
      rw [hv.out, List.drop_of_length_le (by omega)]; rfl

end Go.Proofs.YtoocebghlchcoaaGreat.ExtW

/- Contract of overdubkeep.Same at int. -/
namespace Go.Proofs.YtoocebghlchcoaaGreat.ExtW
open Go.RowKit Go.Ov Go.Proofs.YtoocebghlchcoaaGreat.Need

set_option maxRecDepth 100000 in
set_option maxHeartbeats 1000000 in
theorem sameInt_any (v u : Value) (a b : List Int) (w : World) (h : intE.Is w v a) (h' : intE.Is w u b) :
    Calls Tryz.prog 14 #[v, u] w fun e w' => e = .returned (.bool (decide (a = b))) ∧ Bl w w' := by
  obtain ⟨A, c, rfl, h1, h2, h3, h4⟩ := h
  obtain ⟨A', c', rfl, h1', h2', h3', h4'⟩ := h'
  have HA := Lib.hid h4
  have HA' := Lib.hid h4'
  have hl : a.length ≤ 9223372036854775807 := by unfold maxLen at h2; omega
  have hl' : b.length ≤ 9223372036854775807 := by unfold maxLen at h2'; omega
  clear h1 h2 h3 h4 h1' h2' h3' h4'
  by_cases hlen : a.length = b.length
  · go_enter Tryz.func14, Tryz.ntmps14
    go_wp2
    have HL := Lib.hid hlen
    clear hlen
    go_loopg [5] b.length (fun g i wr => ∃ k : Nat, k ≤ b.length ∧ g = b.length - k ∧ i = .int .i64 k ∧ Hid (a.take k = b.take k) ∧ Bl w wr)
    case atStart => exact ⟨0, by omega, rfl, rfl, Lib.hid rfl, Bl.refl _⟩
    case round =>
      obtain ⟨k, hk, rfl, rfl, heq, hbl⟩ := hrel
      have HB := Lib.hid hbl
      clear hbl
      by_cases hlt : k < b.length
      · have hlta : k < a.length := by have := HL.out; omega
        have hlti : (k : Int) < a.length := by omega
        obtain ⟨ad, rfl, c0⟩ := int_at (HA.out.bl HB.out) k hlta
        obtain ⟨ad', rfl, d0⟩ := int_at (HA'.out.bl HB.out) k hlt
        have ta := Lib.hid (List.take_succ_eq_append_getElem hlta)
        have tb := Lib.hid (List.take_succ_eq_append_getElem hlt)
        have hne := Lib.hid (fun h : a = b => show a[k]'hlta = b[k]'hlt by simp [h])
        generalize a[k] = x at *
        generalize b[k] = y at *
        go_wp2_with fail
        go_quiet (fail)
        by_cases hq : x = y
        rotate_left
        · have hb : (x != y) = true := by simp [hq]
          have HQ := Lib.hid hq
          clear hq
          go_wp2
          go_ret
          refine ⟨ret_bool ?_, HB.out.drewN _⟩
          symm; rw [decide_eq_false_iff_not]
          intro h; exact HQ.out (hne.out h)
        · have hb : (x != y) = false := by simp [hq]
          have HQ := Lib.hid hq
          clear hq
          go_wp2
          go_roundg (b.length - (k + 1))
          case measure => omega
          case rel =>
            refine ⟨k + 1, by omega, rfl, by go_num, Lib.hid ?_, HB.out.drewN _⟩
            rw [ta.out, tb.out, heq.out, HQ.out]
      · have hna : ¬ k < a.length := by have := HL.out; omega
        go_wp2
        go_ret
        refine ⟨ret_bool ?_, HB.out⟩
        symm; rw [decide_eq_true_eq]
        have h := heq.out
        have := HL.out
        rwa [List.take_of_length_le (by omega), List.take_of_length_le (by omega)] at h
  · have hd : decide (a = b) = false := decide_eq_false (fun h => hlen (by rw [h]))
    have HD := Lib.hid hd
    clear hd
    go_enter Tryz.func14, Tryz.ntmps14
    go_wp2
    go_ret
    exact ⟨ret_bool HD.out.symm, Bl.refl _⟩

end Go.Proofs.YtoocebghlchcoaaGreat.ExtW
