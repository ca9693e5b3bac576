/- Contracts of package piece and extent's functions, and of overdublaw16.Row. -/
import Derived.Test.YtddcjekkimajpaaProg
import Derived.Test.YtddcjekkimajpaaNeed
import Derived.Test.YtddcjekkimajpaaExt
namespace Go.Proofs.Ytddcjekkimajpaa.ExtW
open Go.RowKit Go.Ov Go.Proofs.Ytddcjekkimajpaa.Need

theorem infoExt : (Try.prog.info? 38).map (fun i => (i.zero, i.size, i.bytes)) = some (some (.agg #[.int .i64 0, .int .i64 0, .int .i64 0, .int .i64 0, .int .i64 0]), 5, 40) := by kernel_rfl

set_option maxRecDepth 100000 in
set_option maxHeartbeats 1000000 in
theorem end_any (v : Value) (l : List Ext) (w : World) (h : extE.Is w v l) :
    Calls Try.prog 63 #[v] w fun e w' => e = .returned (.int .i64 (wrap64 (endM l))) ∧ Bl w w' := by
  obtain ⟨A, c, rfl, h1, h2, h3, h4⟩ := h
  have HA := Lib.hid h4
  have hl : l.length ≤ 9223372036854775807 := by unfold maxLen at h2; omega
  have hu := Try.underlying38
  clear h1 h2 h3 h4
  go_enter Try.func63, Try.ntmps63
  go_wp2
  go_loopg [3, 8] l.length (fun g s i wr => ∃ k : Nat, k ≤ l.length ∧ g = l.length - k ∧ i = .int .i64 k ∧ s = .int .i64 (wrap64 (psum Ext.take l k)) ∧ Bl w wr)
  case atStart => exact ⟨0, by omega, rfl, rfl, by rw [psum_zero]; exact congrArg (Value.int .i64) (wrap_id (by decide) (by decide)).symm, Bl.refl _⟩
  case round =>
    obtain ⟨k, hk, rfl, rfl, rfl, hbl⟩ := hrel
    have HB := Lib.hid hbl
    clear hbl
    by_cases hlt : k < l.length
    · obtain ⟨ad, rfl, c0, c1, c2, c3, c4⟩ := ext_at (HA.out.bl HB.out) k hlt
      have hst := Lib.hid (psum_succ Ext.take l k hlt)
      generalize l[k] = x at *
      obtain ⟨x0, x1, x2, x3, x4⟩ := x
      dsimp only at c0 c1 c2 c3 c4
      go_wp2
      go_roundg (l.length - (k + 1))
      case measure => omega
      case rel => exact ⟨k + 1, by omega, rfl, by go_num, by rw [hst.out, wrap_wrap_add], HB.out.alloc _⟩
    · go_wp2
      go_ret
      exact ⟨ret_int (by rw [psum_all _ _ _ (by omega)]; rfl), HB.out⟩

set_option maxRecDepth 100000 in
set_option maxHeartbeats 1000000 in
theorem one_any (x : Ext) (w : World) : Calls Try.prog 82 #[x.v] w fun e w' => e = .returned (.bool (oneB x)) ∧ w.alloc (.cells #[.int .i64 x.at_, .int .i64 x.sector, .int .i64 x.count, .int .i64 x.skip, .int .i64 x.take] 38) = w' := by
  obtain ⟨x0, x1, x2, x3, x4⟩ := x
  have hu := Try.underlying38
  show Calls Try.prog 82 #[.agg #[.int .i64 x0, .int .i64 x1, .int .i64 x2, .int .i64 x3, .int .i64 x4]] w _
  go_enter Try.func82, Try.ntmps82
  go_wp2
  all_goals (go_ret; refine ⟨ret_bool ?_, rfl⟩; rw [Bool.eq_iff_iff]; simp [oneB]; omega)

set_option maxRecDepth 100000 in
set_option maxHeartbeats 1000000 in
theorem pvalid_any (v : Value) (l : List Ext) (w : World) (h : extE.Is w v l) : Calls Try.prog 64 #[v] w fun e w' => e = .returned (.bool (validFrom 0 l)) ∧ Bl w w' := by
  obtain ⟨A, c, rfl, h1, h2, h3, h4⟩ := h
  have HA := Lib.hid h4
  have hl : l.length ≤ 9223372036854775807 := by unfold maxLen at h2; omega
  have hu := Try.underlying38
  clear h1 h2 h3 h4
  go_enter Try.func64, Try.ntmps64
  go_wp2
  go_loopg [3, 8] l.length (fun g s i wr => ∃ (k : Nat) (a : Int), k ≤ l.length ∧ g = l.length - k ∧ i = .int .i64 k ∧ s = .int .i64 a ∧ Hid (validFrom 0 l = validFrom a (l.drop k)) ∧ 0 ≤ a ∧ a ≤ 1000 ∧ Bl w wr)
  case atStart => exact ⟨0, 0, by omega, rfl, rfl, rfl, Lib.hid rfl, by omega, by omega, Bl.refl _⟩
  case round =>
    obtain ⟨k, a, hk, rfl, rfl, rfl, hv, ha0, ha1, hbl⟩ := hrel
    have HB := Lib.hid hbl
    clear hbl
    by_cases hlt : k < l.length
    · obtain ⟨ad, rfl, c0, c1, c2, c3, c4⟩ := ext_at (HA.out.bl HB.out) k hlt
      have hd := Lib.hid (List.drop_eq_getElem_cons hlt)
      generalize hx : l[k] = x at *
      have HX := Lib.hid hx
      clear hx
      by_cases t1 : oneB x = true
      · have ht := Lib.hid t1
        have hcase : validFrom a (x :: l.drop (k + 1)) = ((x.at_ == a) && decide (x.take ≤ 1000 - a) && validFrom (a + x.take) (l.drop (k + 1))) := by simp [validFrom, t1]
        have HC := Lib.hid hcase
        have htk : 1 ≤ x.take := by simp [oneB] at t1; omega
        obtain ⟨x0, x1, x2, x3, x4⟩ := x
        dsimp only at c0 c1 c2 c3 c4 htk
        clear hcase
        go_wp2_with (go_at_call 82; refine (one_any ⟨x0, x1, x2, x3, x4⟩ _).mono ?_; rintro e w' ⟨rfl, rfl⟩)
        · go_ret
          refine ⟨ret_bool ?_, (HB.out.alloc _).alloc _⟩
          rw [hv.out, hd.out, HC.out, Bool.eq_iff_iff]; simp; intros; exfalso; omega
        · go_roundg (l.length - (k + 1))
          case measure => omega
          case rel =>
            refine ⟨k + 1, a + x4, by omega, rfl, by go_num, rfl, Lib.hid ?_, by omega, by omega, (HB.out.alloc _).alloc _⟩
            rw [hv.out, hd.out, HC.out]; simp; omega
        · go_ret
          refine ⟨ret_bool ?_, (HB.out.alloc _).alloc _⟩
          rw [hv.out, hd.out, HC.out, Bool.eq_iff_iff]; simp; intros; exfalso; omega
      · have t1' : oneB x = false := by simpa using t1
        have hcase : validFrom a (x :: l.drop (k + 1)) = false := by simp [validFrom, t1']
        have HC := Lib.hid hcase
        clear t1 hcase
        obtain ⟨x0, x1, x2, x3, x4⟩ := x
        dsimp only at c0 c1 c2 c3 c4
        go_wp2_with (go_at_call 82; refine (one_any ⟨x0, x1, x2, x3, x4⟩ _).mono ?_; rintro e w' ⟨rfl, rfl⟩)
        go_ret
        exact ⟨ret_bool (by rw [hv.out, hd.out, HC.out]), (HB.out.alloc _).alloc _⟩
    · go_wp2
      go_ret
      refine ⟨ret_bool ?_, HB.out⟩
      rw [hv.out, List.drop_of_length_le (by omega)]; rfl

set_option maxRecDepth 100000 in
set_option maxHeartbeats 1000000 in
theorem valid_any (v : Value) (l : List Ext) (w : World) (h : extE.Is w v l) : Calls Try.prog 57 #[v] w fun e w' => e = .returned (.bool (validFrom 0 l)) ∧ Bl w w' := by
  have HH := Lib.hid h
  clear h
  go_enter Try.func57, Try.ntmps57
  go_wp2_with (go_at_call 64; refine (pvalid_any _ _ _ HH.out).mono ?_; rintro e w' ⟨rfl, hb⟩)
  go_ret
  exact ⟨rfl, hb⟩

def pflat {α β : Type} (f : α → List β) (l : List α) (k : Nat) : List β := (l.take k).flatMap f
theorem pflat_zero {α β : Type} (f : α → List β) (l : List α) : pflat f l 0 = [] := rfl
theorem pflat_succ {α β : Type} (f : α → List β) (l : List α) (k : Nat) (h : k < l.length) : pflat f l (k + 1) = pflat f l k ++ f l[k] := by
  unfold pflat; rw [List.take_succ_eq_append_getElem h, List.flatMap_append]; simp
theorem pflat_all {α β : Type} (f : α → List β) (l : List α) (k : Nat) (h : l.length ≤ k) : pflat f l k = l.flatMap f := by
  unfold pflat; rw [List.take_of_length_le h]
theorem pflat_len {α β : Type} (f : α → List β) (hf : ∀ x, (f x).length ≤ 1) (l : List α) : ∀ k, (pflat f l k).length ≤ k
  | 0 => by rw [pflat_zero]; simp
  | k + 1 => by
    have ih := pflat_len f hf l k
    by_cases h : k < l.length
    · rw [pflat_succ _ _ _ h, List.length_append]; have := hf l[k]; omega
    · rw [pflat_all _ _ _ (by omega)]; rw [pflat_all _ _ _ (by omega)] at ih; omega

set_option maxRecDepth 100000 in
set_option maxHeartbeats 1000000 in
theorem shift_any (v : Value) (l : List Ext) (by_ : Int) (w : World) (h : extE.Is w v l) (hn : l.length * 40 ≤ 140737488355328) :
    Calls Try.prog 84 #[v, .int .i64 by_] w fun e w' => ∃ u, e = .returned u ∧ extE.Own 38 w' w.heap.size u (shiftM by_ l) ∧ Bl w w' := by
  obtain ⟨A, c, rfl, h1, h2, h3, h4⟩ := h
  have HA := Lib.hid h4
  have hl : l.length ≤ 9223372036854775807 := by unfold maxLen at h2; omega
  have hu := Try.underlying38
  clear h1 h2 h3 h4
  go_enter Try.func84, Try.ntmps84
  go_wp2
  go_loopg [5, 10] l.length (fun g s i wr => ∃ (k : Nat), k ≤ l.length ∧ g = l.length - k ∧ i = .int .i64 k ∧ extE.Own 38 wr w.heap.size s (pmap (shiftE by_) l k) ∧ Bl w wr)
  case atStart => exact ⟨0, by omega, rfl, rfl, Enc.Own.nil _ _ _, Bl.refl _⟩
  case round =>
    obtain ⟨k, hk, rfl, rfl, ho, hbl⟩ := hrel
    have HB := Lib.hid hbl
    have HO := Lib.hid ho
    clear hbl ho
    by_cases hlt : k < l.length
    · obtain ⟨ad, rfl, c0, c1, c2, c3, c4⟩ := ext_at (HA.out.bl HB.out) k hlt
      have hst := Lib.hid (pmap_succ (shiftE by_) l k hlt)
      have hlen := Lib.hid (pmap_len (shiftE by_) l k hk)
      generalize pmap (shiftE by_) l k = xs at *
      generalize l[k] = x at *
      obtain ⟨x0, x1, x2, x3, x4⟩ := x
      dsimp only at c0 c1 c2 c3 c4
      go_wp2_with (at_builtin; refine Enc.Own.append1 (E := extE) rfl (.tmp 19) (.tmp 21) 31 rfl w.heap.size 38 (.agg #[.int .i64 0, .int .i64 0, .int .i64 0, .int .i64 0, .int .i64 0]) 5 40 Try.underlying31 infoExt rfl rfl (by decide) (by decide) u5 xs rfl (HO.out.bl ((Bl.refl _).alloc _)) ⟨wrap64 (x0 + by_), x1, x2, x3, x4⟩ _ rfl (by simp) rfl ?hlen ?hbase ?_; (case hlen => have := hlen.out; omega); (case hbase => exact (HB.out.alloc _).size); intro v1 w1 ho hg)
      go_roundg (l.length - (k + 1))
      case measure => omega
      case rel => exact ⟨k + 1, by omega, rfl, by go_num, by rw [hst.out]; exact ho, ((HB.out.alloc _).alloc _).grown hg (fun k hk => (Enc.Own.lt HO.out k hk).1)⟩
    · go_wp2
      go_ret
      exact ⟨_, rfl, by have := HO.out; rw [pmap_all _ _ _ (by omega)] at this; exact this, HB.out⟩

set_option maxRecDepth 100000 in
set_option maxHeartbeats 1000000 in
theorem cut_any (v : Value) (l : List Ext) (a b : Int) (w : World) (h : extE.Is w v l) (hn : l.length * 40 ≤ 140737488355328) :
    Calls Try.prog 83 #[v, .int .i64 a, .int .i64 b] w fun e w' => ∃ u, e = .returned u ∧ extE.Own 38 w' w.heap.size u (cutM a b l) ∧ Bl w w' := by
  obtain ⟨A, c, rfl, h1, h2, h3, h4⟩ := h
  have HA := Lib.hid h4
  have hl : l.length ≤ 9223372036854775807 := by unfold maxLen at h2; omega
  have hu := Try.underlying38
  clear h1 h2 h3 h4
  go_enter Try.func83, Try.ntmps83
  go_wp2
  go_loopg [7, 14] l.length (fun g s i wr => ∃ (k : Nat), k ≤ l.length ∧ g = l.length - k ∧ i = .int .i64 k ∧ extE.Own 38 wr w.heap.size s (pflat (cutE a b) l k) ∧ Bl w wr)
  case atStart => exact ⟨0, by omega, rfl, rfl, Enc.Own.nil _ _ _, Bl.refl _⟩
  case round =>
    obtain ⟨k, hk, rfl, rfl, ho, hbl⟩ := hrel
    have HB := Lib.hid hbl
    have HO := Lib.hid ho
    clear hbl ho
    by_cases hlt : k < l.length
    · obtain ⟨ad, rfl, c0, c1, c2, c3, c4⟩ := ext_at (HA.out.bl HB.out) k hlt
      have hst := Lib.hid (pflat_succ (cutE a b) l k hlt)
      have hlen := Lib.hid (pflat_len (cutE a b) (cutE_len a b) l k)
      generalize pflat (cutE a b) l k = xs at *
      generalize l[k] = x at *
      obtain ⟨x0, x1, x2, x3, x4⟩ := x
      dsimp only at c0 c1 c2 c3 c4
      go_wp2_with fail
      go_quiet (fail)
      by_cases ht : max x0 a < min (wrap64 (x0 + x4)) b
      · have hc : cutE a b ⟨x0, x1, x2, x3, x4⟩ = [⟨max x0 a, x1, x2, wrap64 (wrap64 (x3 + max x0 a) - x0), wrap64 (min (wrap64 (x0 + x4)) b - max x0 a)⟩] := if_pos ht
        have HC := Lib.hid hc
        clear hc
        go_wp2_with (at_builtin; refine Enc.Own.append1 (E := extE) rfl (.tmp 32) (.tmp 49) 31 rfl w.heap.size 38 (.agg #[.int .i64 0, .int .i64 0, .int .i64 0, .int .i64 0, .int .i64 0]) 5 40 Try.underlying31 infoExt rfl rfl (by decide) (by decide) u7 xs rfl (HO.out.bl (((Bl.refl _).alloc _).drewN _)) ⟨max x0 a, x1, x2, wrap64 (wrap64 (x3 + max x0 a) - x0), wrap64 (min (wrap64 (x0 + x4)) b - max x0 a)⟩ _ rfl (by simp) rfl ?hlen ?hbase ?_; (case hlen => have := hlen.out; omega); (case hbase => exact ((HB.out.alloc _).drewN _).size); intro v1 w1 ho hg)
        go_roundg (l.length - (k + 1))
        case measure => omega
        case rel => exact ⟨k + 1, by omega, rfl, by go_num, by rw [hst.out, HC.out]; exact ho, (((HB.out.alloc _).drewN _).alloc _).grown hg (fun k hk => (Enc.Own.lt HO.out k hk).1)⟩
      · have hc : cutE a b ⟨x0, x1, x2, x3, x4⟩ = [] := if_neg ht
        have HC := Lib.hid hc
        clear hc
        go_wp2
        go_roundg (l.length - (k + 1))
        case measure => omega
        case rel => exact ⟨k + 1, by omega, rfl, by go_num, by rw [hst.out, HC.out, List.append_nil]; exact HO.out.bl (((Bl.refl _).alloc _).drewN _), (HB.out.alloc _).drewN _⟩
    · go_wp2
      go_ret
      exact ⟨_, rfl, by have := HO.out; rw [pflat_all _ _ _ (by omega)] at this; exact this, HB.out⟩

theorem ret2 {u : Value} {a b : Int} (h : a = b) : Ending.returned (.tuple #[u, .int .i64 a]) = .returned (.tuple #[u, .int .i64 b]) := by rw [h]

set_option maxRecDepth 100000 in
set_option maxHeartbeats 1000000 in
theorem splice_any (v u : Value) (l new : List Ext) (fr tt : Int) (w : World) (h : extE.Is w v l) (hn : extE.Is w u new) (hv : validFrom 0 l = true) (hlen : new.length * 40 ≤ 100000000000000) :
    Calls Try.prog 70 #[v, .int .i64 fr, .int .i64 tt, u] w fun e w' => ∃ z, e = .returned (.tuple #[z, .int .i64 (spliceM l fr tt new).2]) ∧ extE.Own 38 w' w.heap.size z (spliceM l fr tt new).1 ∧ Bl w w' := by
  have hb := validFrom_bd l 0 (by decide) hv
  have hE : wrap64 (endM l) = endM l := wrap_id (by omega) (by omega)
  have HE := Lib.hid hE
  have HL := Lib.hid h
  have HN := Lib.hid hn
  clear h hn hE hv
  obtain ⟨hb1, hb2⟩ := hb
  by_cases hbad : spliceBad l fr tt new = true
  · have hm : spliceM l fr tt new = ([], 1) := if_pos hbad
    have HM := Lib.hid hm
    rw [hm]
    clear hm
    have hor : validFrom 0 new = false ∨ validFrom 0 new = true ∧ (fr < 0 ∨ ¬ fr < 0 ∧ (tt < fr ∨ ¬ tt < fr ∧ endM l < fr)) := by
      simp only [spliceBad, Bool.or_eq_true, Bool.not_eq_true', decide_eq_true_eq] at hbad
      cases hq : validFrom 0 new
      · exact .inl rfl
      · refine .inr ⟨rfl, ?_⟩
        simp [hq] at hbad; omega
    clear hbad
    rcases hor with hq | ⟨hq, h1 | ⟨h1, h2 | ⟨h2, h3⟩⟩⟩
    all_goals
      have HQ := Lib.hid hq
      clear hq
      go_enter Try.func70, Try.ntmps70
      go_wp2_with fail
      refine (end_any _ _ _ HL.out).mono ?_
      rintro e w1 ⟨rfl, hb1⟩
      rw [HE.out]
      go_wp2_with fail
      refine (valid_any _ _ _ (HN.out.bl hb1)).mono ?_
      rintro e w2 ⟨rfl, hb2⟩
      rw [HQ.out]
      have HB := Lib.hid (hb1.trans hb2)
      clear hb1 hb2
      go_wp2
      go_ret2
      exact ⟨_, rfl, Enc.Own.nil _ _ _, HB.out⟩
  · have hg : validFrom 0 new = true ∧ ¬ fr < 0 ∧ ¬ tt < fr ∧ ¬ endM l < fr := by
      simp only [spliceBad, Bool.or_eq_true, Bool.not_eq_true', decide_eq_true_eq, not_or] at hbad
      simp at hbad; exact ⟨hbad.1.1.1, by omega, by omega, by omega⟩
    have hm : spliceM l fr tt new = (if spliceLong l fr tt new then ([], 4) else (spliceL l fr tt new, 0)) := if_neg hbad
    clear hbad
    obtain ⟨hq, h1, h2, h3⟩ := hg
    obtain ⟨nb1, nb2⟩ := validFrom_bd new 0 (by decide) hq
    have HF := Lib.hid (show wrap64 (endM new) = endM new from wrap_id (by omega) (by omega))
    have HQ := Lib.hid hq
    clear hq
    have ln1 := cutM_len 0 fr l
    have ln2 := shiftM_len fr new
    have ln3 := cutM_len (min tt (endM l)) (endM l) l
    have ln4 := shiftM_len (fr + endM new - min tt (endM l)) (cutM (min tt (endM l)) (endM l) l)
    have HX := Lib.hid (show spliceL l fr tt new = (cutM 0 fr l ++ shiftM fr new) ++ shiftM (fr + endM new - min tt (endM l)) (cutM (min tt (endM l)) (endM l) l) from rfl)
    have HY := Lib.hid (show spliceLong l fr tt new = decide (1000 < fr + endM new + endM l - min tt (endM l)) from rfl)
    have HM := Lib.hid hm
    rw [hm]
    clear hm
    generalize spliceL l fr tt new = R at *
    have H1 := Lib.hid (And.intro ln1 (And.intro ln2 (And.intro ln3 ln4)))
    clear ln1 ln2 ln3 ln4
    by_cases hlong : spliceLong l fr tt new = true
    all_goals
      have hlg := hlong
      rw [HY.out] at hlg
      simp only [decide_eq_true_eq] at hlg
      simp only [hlong, if_true]
      clear hlong
      go_enter Try.func70, Try.ntmps70
      go_wp2_with fail
      refine (end_any _ _ _ HL.out).mono ?_
      rintro e w1 ⟨rfl, hb1⟩
      rw [HE.out]
      go_wp2_with fail
      refine (valid_any _ _ _ (HN.out.bl hb1)).mono ?_
      rintro e w2 ⟨rfl, hb2⟩
      rw [HQ.out]
      have HB := Lib.hid (hb1.trans hb2)
      clear hb1 hb2
      go_wp2_with fail
      refine (end_any _ _ _ (HN.out.bl HB.out)).mono ?_
      rintro e w3 ⟨rfl, hb3⟩
      rw [HF.out]
      have HB3 := Lib.hid (HB.out.trans hb3)
      clear hb3 HB
      go_wp2_with fail
      refine (cut_any _ _ _ _ _ (HL.out.bl HB3.out) (by omega)).mono ?_
      rintro e w4 ⟨u1, rfl, ho1, hb4⟩
      have HO1 := Lib.hid ho1
      have HB4 := Lib.hid (HB3.out.trans hb4)
      have HC := Lib.hid hb4.size
      clear ho1 hb4
      go_wp2_with fail
      refine (shift_any _ _ _ _ (HN.out.bl HB4.out) (by omega)).mono ?_
      rintro e w5 ⟨u2, rfl, ho2, hb5⟩
      have HO2 := Lib.hid ho2
      have HO1' := Lib.hid (HO1.out.bl hb5)
      have HB5 := Lib.hid (HB4.out.trans hb5)
      clear ho2 hb5 HO1
      go_wp2_with (at_builtin; refine Enc.Own.append (E := extE) rfl (.tmp 41) (.tmp 44) 31 rfl w.heap.size 38 (.agg #[.int .i64 0, .int .i64 0, .int .i64 0, .int .i64 0, .int .i64 0]) 5 40 Try.underlying31 infoExt rfl rfl (by decide) (by decide) u1 _ rfl (HO1'.out.low HB3.out.size) u2 _ rfl HO2.out.is ?hlen HB5.out.size ?_; (case hlen => have := H1.out; omega); intro u3 w6 ho3 hg3)
      have HB6 := Lib.hid (HB5.out.grown hg3 (fun k hk => Nat.le_trans HB3.out.size (Enc.Own.lt HO1'.out k hk).1))
      have HO3 := Lib.hid ho3
      clear ho3 hg3 HO1' HO2
      go_wp2_with fail
      refine (cut_any _ _ _ _ _ (HL.out.bl HB6.out) (by omega)).mono ?_
      rintro e w7 ⟨u4, rfl, ho4, hb7⟩
      have HO4 := Lib.hid ho4
      have HB7 := Lib.hid (HB6.out.trans hb7)
      have HO3' := Lib.hid (HO3.out.bl hb7)
      clear ho4 hb7 HO3
      go_wp2_with fail
      refine (shift_any _ _ _ _ HO4.out.is (by have := H1.out; omega)).mono ?_
      rintro e w8 ⟨u5, rfl, ho5, hb8⟩
      have HO5 := Lib.hid ho5
      have HB8 := Lib.hid (HB7.out.trans hb8)
      have HO3 := Lib.hid (HO3'.out.bl hb8)
      clear ho5 hb8 HO3'
      go_wp2_with (at_builtin; refine Enc.Own.append (E := extE) rfl (.tmp 46) (.tmp 54) 31 rfl w.heap.size 38 (.agg #[.int .i64 0, .int .i64 0, .int .i64 0, .int .i64 0, .int .i64 0]) 5 40 Try.underlying31 infoExt rfl rfl (by decide) (by decide) u3 _ rfl HO3.out u5 _ rfl HO5.out.is ?hlen HB8.out.size ?_; (case hlen => have := H1.out; rw [List.length_append]; omega); intro u6 w9 ho6 hg6)
      have HB9 := Lib.hid (HB8.out.grown hg6 (fun k hk => (Enc.Own.lt HO3.out k hk).1))
      have HO6 := Lib.hid ho6
      clear ho6 hg6
      go_ret2
      first
        | exact ⟨_, rfl, Enc.Own.nil _ _ _, HB9.out⟩
        | exact ⟨_, rfl, by rw [HX.out]; exact HO6.out, HB9.out⟩
end Go.Proofs.Ytddcjekkimajpaa.ExtW
