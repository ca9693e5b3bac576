/- Contracts of the document's own functions on extents (overdubref14). -/
import Derived.Test.YtaedelhdandflaaExtNothing
import Derived.Test.YtaedelhdandflaaCanon
namespace Go.Proofs.Ytaedelhdandflaa.ExtW
open Go.RowKit Go.Ov Go.Proofs.Ytaedelhdandflaa.Need

set_option maxRecDepth 100000 in
set_option maxHeartbeats 1000000 in
theorem rend_any (v : Value) (l : List Ext) (w : World) (h : extE.Is w v l) :
    Calls Try.prog 43 #[v] w fun e w' => e = .returned (.int .i64 (wrap64 (endM l))) ∧ w = w' := by
  obtain ⟨A, c, rfl, h1, h2, h3, h4⟩ := h
  have HA := Lib.hid h4
  have hl : l.length ≤ 9223372036854775807 := by unfold maxLen at h2; omega
  have hu := Try.underlying34
  clear h1 h2 h3 h4
  go_enter Try.func43, Try.ntmps43
  go_wp2
  go_loopg [3, 7] l.length (fun g s i wr => ∃ k : Nat, k ≤ l.length ∧ g = l.length - k ∧ i = .int .i64 k ∧ s = .int .i64 (wrap64 (psum Ext.take l k)) ∧ wr = w)
  case atStart => exact ⟨0, by omega, rfl, rfl, by rw [psum_zero]; exact congrArg (Value.int .i64) (wrap_id (by decide) (by decide)).symm, rfl⟩
  case round =>
    obtain ⟨k, hk, rfl, rfl, rfl, rfl⟩ := hrel
    by_cases hlt : k < l.length
    · obtain ⟨ad, rfl, c0, c1, c2, c3, c4⟩ := ext_at HA.out k hlt
      have hst := Lib.hid (psum_succ Ext.take l k hlt)
      generalize l[k] = x at *
      obtain ⟨x0, x1, x2, x3, x4⟩ := x
      dsimp only at c0 c1 c2 c3 c4
      go_wp2
      go_roundg (l.length - (k + 1))
      case measure => omega
      case rel => exact ⟨k + 1, by omega, rfl, by go_num, by rw [hst.out, wrap_wrap_add], rfl⟩
    · go_wp2
      go_ret
      exact ⟨ret_int (by rw [psum_all _ _ _ (by omega)]; rfl), rfl⟩

theorem first_bad (x : Ext) (a : Int) : x.at_ ≠ a ∨ x.at_ = a ∧ (x.take < 1 ∨ ¬ x.take < 1 ∧ (x.skip < 0 ∨ ¬ x.skip < 0 ∧ (64 < x.count ∨ ¬ 64 < x.count ∧ (x.count < x.skip ∨ ¬ x.count < x.skip ∧ (x.count - x.skip < x.take ∨ ¬ x.count - x.skip < x.take ∧ (x.sector < 1 ∨ ¬ x.sector < 1 ∧ (4096 ≤ x.sector ∨ ¬ 4096 ≤ x.sector))))))) := by omega

set_option maxRecDepth 100000 in
set_option maxHeartbeats 2000000 in
theorem rvalid_any (v : Value) (l : List Ext) (w : World) (h : extE.Is w v l) : Calls Try.prog 41 #[v] w fun e w' => e = .returned (.bool (validFrom 0 l)) ∧ Bl w w' := by
  obtain ⟨A, c, rfl, h1, h2, h3, h4⟩ := h
  have HA := Lib.hid h4
  have hl : l.length ≤ 9223372036854775807 := by unfold maxLen at h2; omega
  have hu := Try.underlying34
  clear h1 h2 h3 h4
  go_enter Try.func41, Try.ntmps41
  go_wp2
  go_loopg [3, 8] l.length (fun g s i wr => ∃ (k : Nat) (a : Int), k ≤ l.length ∧ g = l.length - k ∧ i = .int .i64 k ∧ s = .int .i64 a ∧ Hid (validFrom 0 l = validFrom a (l.drop k)) ∧ 0 ≤ a ∧ a ≤ 1000 ∧ Bl w wr)
  case atStart => exact ⟨0, 0, by omega, rfl, rfl, rfl, Lib.hid rfl, by omega, by omega, Bl.refl _⟩
  case round =>
    obtain ⟨k, a, hk, rfl, rfl, rfl, hv, ha0, ha1, hbl⟩ := hrel
    have HB := Lib.hid hbl
    clear hbl
    by_cases hlt : k < l.length
    · obtain ⟨ad, rfl, c0, c1, c2, c3, c4⟩ := ext_at (HA.out.bl HB.out) k hlt
      have hd := Lib.hid (List.drop_eq_getElem_cons hlt)
      generalize l[k] = x at *
      have hf := first_bad x a
      obtain ⟨x0, x1, x2, x3, x4⟩ := x
      dsimp only at c0 c1 c2 c3 c4 hf
      rcases hf with g | ⟨rfl, g | ⟨g1, g | ⟨g2, g | ⟨g3, g | ⟨g4, g | ⟨g5, g | ⟨g6, g | g7⟩⟩⟩⟩⟩⟩⟩
      rotate_right
      · have hw2 : wrap64 (x2 - x3) = x2 - x3 := wrap_id (by omega) (by omega)
        go_wp2
        · go_ret
          refine ⟨ret_bool ?_, HB.out.alloc _⟩
          rw [hv.out, hd.out, Bool.eq_iff_iff]; simp [validFrom, oneB]; intros; exfalso; omega
        · go_roundg (l.length - (k + 1))
          case measure => omega
          case rel =>
            refine ⟨k + 1, x0 + x4, by omega, rfl, by go_num, rfl, Lib.hid ?_, by omega, by omega, HB.out.alloc _⟩
            rw [hv.out, hd.out]; simp [validFrom, oneB]; omega
      all_goals
        go_wp2
        go_ret
        refine ⟨ret_bool ?_, HB.out.alloc _⟩
        rw [hv.out, hd.out, Bool.eq_iff_iff]; simp [validFrom, oneB]; intros; exfalso; omega
    · go_wp2
      go_ret
      refine ⟨ret_bool ?_, HB.out⟩
      rw [hv.out, List.drop_of_length_le (by omega)]; rfl

set_option maxRecDepth 100000 in
set_option maxHeartbeats 1000000 in
theorem rshift_any (v : Value) (l : List Ext) (by_ : Int) (w : World) (h : extE.Is w v l) (hn : l.length * 40 ≤ 140737488355328) :
    Calls Try.prog 46 #[v, .int .i64 by_] w fun e w' => ∃ u, e = .returned u ∧ extE.Own 34 w' w.heap.size u (shiftM by_ l) ∧ Bl w w' := by
  obtain ⟨A, c, rfl, h1, h2, h3, h4⟩ := h
  have HA := Lib.hid h4
  have hl : l.length ≤ 9223372036854775807 := by unfold maxLen at h2; omega
  have hu := Try.underlying34
  clear h1 h2 h3 h4
  go_enter Try.func46, Try.ntmps46
  go_wp2
  go_loopg [5, 10] l.length (fun g s i wr => ∃ (k : Nat), k ≤ l.length ∧ g = l.length - k ∧ i = .int .i64 k ∧ extE.Own 34 wr w.heap.size s (pmap (shiftE by_) l k) ∧ Bl w wr)
  case atStart => exact ⟨0, by omega, rfl, rfl, Enc.Own.nil _ _ _, Bl.refl _⟩
  case round =>
    obtain ⟨k, hk, rfl, rfl, ho, hbl⟩ := hrel
    have HB := Lib.hid hbl
    have HO := Lib.hid ho
    clear hbl ho
    by_cases hlt : k < l.length
    · obtain ⟨ad, rfl, c0, c1, c2, c3, c4⟩ := ext_at (HA.out.bl HB.out) k hlt
      have hst := Lib.hid (pmap_succ (shiftE by_) l k hlt)
      have hlen := Lib.hid (pmap_len (shiftE by_) l k hk)
      generalize pmap (shiftE by_) l k = xs at *
      generalize l[k] = x at *
      obtain ⟨x0, x1, x2, x3, x4⟩ := x
      dsimp only at c0 c1 c2 c3 c4
      go_wp2_with (at_builtin; refine Enc.Own.append1 (E := extE) rfl (.tmp 22) (.tmp 24) 28 rfl w.heap.size 34 (.agg #[.int .i64 0, .int .i64 0, .int .i64 0, .int .i64 0, .int .i64 0]) 5 40 Try.underlying28 infoExt rfl rfl (by decide) (by decide) u5 xs rfl (HO.out.bl ((Bl.refl _).alloc _)) ⟨wrap64 (x0 + by_), x1, x2, x3, x4⟩ _ rfl (by simp) rfl ?hlen ?hbase ?_; (case hlen => have := hlen.out; omega); (case hbase => exact (HB.out.alloc _).size); intro v1 w1 ho hg)
      go_roundg (l.length - (k + 1))
      case measure => omega
      case rel => exact ⟨k + 1, by omega, rfl, by go_num, by rw [hst.out]; exact ho, ((HB.out.alloc _).alloc _).grown hg (fun k hk => (Enc.Own.lt HO.out k hk).1)⟩
    · go_wp2
      go_ret
      exact ⟨_, rfl, by have := HO.out; rw [pmap_all _ _ _ (by omega)] at this; exact this, HB.out⟩

set_option maxRecDepth 100000 in
set_option maxHeartbeats 1000000 in
theorem rcut_any (v : Value) (l : List Ext) (a b : Int) (w : World) (h : extE.Is w v l) (hn : l.length * 40 ≤ 140737488355328) :
    Calls Try.prog 44 #[v, .int .i64 a, .int .i64 b] w fun e w' => ∃ u, e = .returned u ∧ extE.Own 34 w' w.heap.size u (cutM (max a 0) (min b (wrap64 (endM l))) l) ∧ Bl w w' := by
  obtain ⟨A, c, rfl, h1, h2, h3, h4⟩ := h
  have HI := Lib.hid (show extE.Is w (.slice A l.length c) l from ⟨A, c, rfl, h1, h2, h3, h4⟩)
  have HA := Lib.hid h4
  have hl : l.length ≤ 9223372036854775807 := by unfold maxLen at h2; omega
  have hu := Try.underlying34
  clear h1 h2 h3 h4
  go_enter Try.func44, Try.ntmps44
  go_wp2_with fail
  refine (rend_any _ _ _ HI.out).mono ?_
  rintro e w1 ⟨rfl, rfl⟩
  go_wp2_with fail
  clear HI
  generalize ha : max a 0 = a1 at *
  generalize hb : min b (wrap64 (endM l)) = b1 at *
  have Ha := Lib.hid ha
  have Hb := Lib.hid hb
  clear ha hb
  go_loopg [7, 20] l.length (fun g s i wr => ∃ (k : Nat), k ≤ l.length ∧ g = l.length - k ∧ i = .int .i64 k ∧ extE.Own 34 wr w.heap.size s (pflat (cutE a1 b1) l k) ∧ Bl w wr)
  case atStart => exact ⟨0, by omega, rfl, rfl, Enc.Own.nil _ _ _, Bl.refl _⟩
  case round =>
    obtain ⟨k, hk, rfl, rfl, ho, hbl⟩ := hrel
    have HB := Lib.hid hbl
    have HO := Lib.hid ho
    clear hbl ho
    by_cases hlt : k < l.length
    · obtain ⟨ad, rfl, c0, c1, c2, c3, c4⟩ := ext_at (HA.out.bl HB.out) k hlt
      have hst := Lib.hid (pflat_succ (cutE a1 b1) l k hlt)
      have hlen := Lib.hid (pflat_len (cutE a1 b1) (cutE_len a1 b1) l k)
      generalize pflat (cutE a1 b1) l k = xs at *
      generalize l[k] = x at *
      obtain ⟨x0, x1, x2, x3, x4⟩ := x
      dsimp only at c0 c1 c2 c3 c4
      go_wp2_with fail
      go_quiet (fail)
      have hcc : cutE a1 b1 ⟨x0, x1, x2, x3, x4⟩ = if max a1 x0 < min b1 (wrap64 (x0 + x4)) then [⟨max a1 x0, x1, x2, wrap64 (wrap64 (x3 + max a1 x0) - x0), wrap64 (min b1 (wrap64 (x0 + x4)) - max a1 x0)⟩] else [] := by
        unfold cutE; rw [Int.max_comm x0 a1, Int.min_comm _ b1]
      have HCC := Lib.hid hcc
      clear hcc
      by_cases ht : max a1 x0 < min b1 (wrap64 (x0 + x4))
      · have HC := Lib.hid (HCC.out.trans (if_pos ht))
        clear HCC
        go_wp2_with (at_builtin; refine Enc.Own.append1 (E := extE) rfl (.tmp 41) (.tmp 58) 28 rfl w.heap.size 34 (.agg #[.int .i64 0, .int .i64 0, .int .i64 0, .int .i64 0, .int .i64 0]) 5 40 Try.underlying28 infoExt rfl rfl (by decide) (by decide) u7 xs rfl (HO.out.bl (((Bl.refl _).alloc _).drewN _)) ⟨max a1 x0, x1, x2, wrap64 (wrap64 (x3 + max a1 x0) - x0), wrap64 (min b1 (wrap64 (x0 + x4)) - max a1 x0)⟩ _ rfl (by simp) rfl ?hlen ?hbase ?_; (case hlen => have := hlen.out; omega); (case hbase => exact ((HB.out.alloc _).drewN _).size); intro v1 w1 ho hg)
        go_roundg (l.length - (k + 1))
        case measure => omega
        case rel => exact ⟨k + 1, by omega, rfl, by go_num, by rw [hst.out, HC.out]; exact ho, (((HB.out.alloc _).drewN _).alloc _).grown hg (fun k hk => (Enc.Own.lt HO.out k hk).1)⟩
      · have HC := Lib.hid (HCC.out.trans (if_neg ht))
        clear HCC
        go_wp2
        go_roundg (l.length - (k + 1))
        case measure => omega
        case rel => exact ⟨k + 1, by omega, rfl, by go_num, by rw [hst.out, HC.out, List.append_nil]; exact HO.out.bl (((Bl.refl _).alloc _).drewN _), (HB.out.alloc _).drewN _⟩
    · go_wp2
      go_ret
      exact ⟨_, rfl, by have := HO.out; rw [pflat_all _ _ _ (by omega)] at this; rw [Ha.out, Hb.out]; exact this, HB.out⟩
end Go.Proofs.Ytaedelhdandflaa.ExtW
