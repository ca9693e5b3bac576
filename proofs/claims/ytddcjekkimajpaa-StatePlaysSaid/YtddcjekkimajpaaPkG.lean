/- Several texts joined (see each one's head). -/
import Derived.Test.YtddcjekkimajpaaPkF
import Derived.Test.YtddcjekkimajpaaPkB
import Derived.Test.YtddcjekkimajpaaPkC
import Derived.Outline
import Derived.Test.YtddcjekkimajpaaPkD
import Derived.Deep.CutBlock
import Derived.Test.YtddcjekkimajpaaPkE
/- Contracts of overdubref14's Rise and Sectors. -/
namespace Go.Proofs.Ytddcjekkimajpaa.ExtW
open Go.RowKit Go.Ov Go.Proofs.Ytddcjekkimajpaa.Need

set_option maxRecDepth 100000 in
set_option maxHeartbeats 2000000 in
theorem rise_any (v : Value) (l : List Int) (n : Int) (w : World) (h : intE.Is w v l) (hn : l.length ≤ 1000000) :
    Calls Try.prog 80 #[v, .int .i64 n] w fun e w' => ∃ u, e = .returned u ∧ intE.Is w' u (riseM l n) ∧ Bl w w' := by
  obtain ⟨A, c, rfl, h1, h2, h3, h4⟩ := h
  have HI := Lib.hid (show intE.Is w (.slice A l.length c) l from ⟨A, c, rfl, h1, h2, h3, h4⟩)
  have HA := Lib.hid h4
  have HC := Lib.hid h1
  clear h1 h2 h3 h4
  go_enter Try.func80, Try.ntmps80
  go_wp2
  go_loopg [5] l.length (fun g i wr => ∃ (k : Nat), k ≤ l.length ∧ g = k ∧ i = .int .i64 k ∧ Hid (riseM l n = riseK l n k) ∧ wr = w)
  case atStart => exact ⟨l.length, Nat.le_refl _, rfl, rfl, Lib.hid rfl, rfl⟩
  case round =>
    obtain ⟨k, hk, hg, rfl, hv, rfl⟩ := hrel
    obtain rfl : k = gk := hg.symm
    clear hg
    have hsplit : (∃ k', k = k' + 1 ∧ ∃ h : k' < l.length, n ≤ l[k'] ∧ (l[k'] = n ∨ l[k'] ≠ n)) ∨ ((k = 0 ∨ ∃ k', k = k' + 1 ∧ ∃ h : k' < l.length, l[k'] < n)) := by
      cases k with
      | zero => exact .inr (.inl rfl)
      | succ k' =>
        have hk' : k' < l.length := by omega
        by_cases hle : n ≤ l[k']
        · exact .inl ⟨k', rfl, hk', hle, by omega⟩
        · exact .inr (.inr ⟨k', rfl, hk', by omega⟩)
    rcases hsplit with ⟨k', rfl, hk', hle, heq⟩ | hex
    · obtain ⟨ad, rfl, c0⟩ := int_at HA.out k' hk'
      have hd := Lib.hid (show riseK l n (k' + 1) = if l[k'] = n then l else riseK l n k' by simp [riseK, hk', hle])
      generalize l[k'] = x at *
      have hw : wrap64 (((k' + 1 : Nat) : Int) - 1) = k' := by rw [wrap_id (by omega) (by omega)]; omega
      have hw1 : (((k' + 1 : Nat) : Int) - 1).toNat = k' := by omega
      rcases heq with rfl | hne
      · go_wp2
        go_ret
        exact ⟨_, rfl, by rw [hv.out, hd.out, if_pos trivial]; exact HI.out, Bl.refl _⟩
      · go_wp2
        go_roundg k'
        case measure => omega
        case rel => exact ⟨k', by omega, rfl, by go_num, Lib.hid (by rw [hv.out, hd.out, if_neg hne]), rfl⟩
    · have HR := Lib.hid (show riseM l n = l.take k ++ n :: l.drop k by
        rw [hv.out]
        rcases hex with rfl | ⟨k', rfl, hk', hlt⟩
        · rfl
        · have e : l[k']?.getD 0 = l[k'] := by simp [hk']
          unfold riseK; rw [e, if_neg (by omega)])
      clear hv
      have hF := slice_full (E := intE) (P := Try.prog) (t := 22) (by kernel_rfl) (fun w => by kernel_rfl) A c l k hk HC.out
      obtain ⟨V2, hV2, hI2⟩ := slice_l (E := intE) (P := Try.prog) (t := 22) (by kernel_rfl) (fun w => by kernel_rfl) A c l (k : Int) (by omega) (by omega)
      have hFK : ∀ K : Int, K = k → ∀ w, (Instr.slice 22 (.slice A l.length c) none (some (.int .i64 K)) (some (.int .i64 K))).run Try.prog w = .ok (.slice A k k) w := fun K hK w => by rw [hK]; exact hF.1 w
      have hVK : ∀ K : Int, K = k → ∀ w, (Instr.slice 22 (.slice A l.length c) (some (.int .i64 K)) none none).run Try.prog w = .ok V2 w := fun K hK w => by rw [hK]; exact hV2 w
      have HF2 := Lib.hid hF.2
      have HI2 := Lib.hid hI2
      have HVK := Lib.hid hVK
      clear hI2 hV2 hVK
      have hkl : (l.take k).length = k := by rw [List.length_take]; omega
      have hdl : (l.drop k).length ≤ 1000000 := by rw [List.length_drop]; omega
      obtain ⟨X, hX⟩ : ∃ X, X = l.take k := ⟨_, rfl⟩
      obtain ⟨Y, hY⟩ : ∃ Y, Y = l.drop k := ⟨_, rfl⟩
      rw [← hX] at hkl
      rw [← hY] at hdl
      have HX := Lib.hid hX
      have HY := Lib.hid hY
      have hFK' : ∀ K : Int, K = k → ∀ w, (Instr.slice 22 (.slice A l.length c) none (some (.int .i64 K)) (some (.int .i64 K))).run Try.prog w = .ok (.slice A X.length k) w := fun K hK w => by rw [hkl]; exact hFK K hK w
      have HFK := Lib.hid hFK'
      have HKL := Lib.hid hkl
      clear hX hY hFK hFK' hF hkl
      rcases hex with rfl | ⟨k', rfl, hk', hlt⟩
      · have hV2 := HVK.out 0 rfl
        have hF1 := HFK.out 0 rfl
        go_wp2_with fail
        have HOwn := Lib.hid (show intE.Own 3 (wr.alloc (.cells #[.int .i64 n] 3)).drew wr.heap.size (.slice (some ⟨wr.heap.size, 0, none⟩) 1 1) [n] from (Enc.Own.lit (E := intE) wr wr.heap.size [n] #[.int .i64 n] rfl 1 rfl (Nat.le_refl _) (by decide) rfl).bl (Bl.refl _).drew)
        refine wp_region_ways (S := (fun _ => True)) [0, 1, 2, 3, 4, 6, 7, 8, 11] (y := .take 0 (.take 1 (.take 2 (.take 3 (.take 4 (.take 6 (.take 7 (.take 8 (.ev 5 (.ev 9 (.ev 10 (.take 11 (.done)) (.stop)) (.stop)) (.stop)))))))))) (by kernel_rfl) (by kernel_rfl) (by kernel_rfl) ?_ (fun hHeld => ?_)
        · trivial
        repeat (first | (refine wpWay_take rfl (by rfl) (by intro w hSw; (try dsimp only at hSw); first | (go_simp; done) | (go_simp; with_reducible rfl)) ?_; try simp only [Act.put, List.setIfInBounds_toArray, List.set_cons_zero, List.set_cons_succ]) | (refine wpWay_skip rfl (by rfl) ?_; try simp only [Act.put, List.setIfInBounds_toArray, List.set_cons_zero, List.set_cons_succ]))
        refine wpWay_ev rfl (fun K hK => ?_) wpWay_stop
        go_wp2_with fail
        (try refine ⟨trivial, ?_⟩)
        repeat (first | (refine wpWay_take rfl (by rfl) (by intro w hSw; (try dsimp only at hSw); first | (go_simp; done) | (go_simp; with_reducible rfl)) ?_; try simp only [Act.put, List.setIfInBounds_toArray, List.set_cons_zero, List.set_cons_succ]) | (refine wpWay_skip rfl (by rfl) ?_; try simp only [Act.put, List.setIfInBounds_toArray, List.set_cons_zero, List.set_cons_succ]))
        refine wpWay_ev rfl (fun K hK => ?_) wpWay_stop
        go_wp2_with (at_builtin; refine Enc.Own.append (E := intE) rfl (.tmp 34) (.tmp 37) 22 rfl wr.heap.size 3 (.int .i64 0) 1 8 Try.underlying22 infoInt rfl rfl (by decide) (by decide) _ [n] rfl HOwn.out V2 Y rfl (by rw [HY.out]; exact HI2.out _ (HI.out.bl ((Bl.refl _).alloc _).drew)) ?hlen ?hbase ?_; (case hlen => simp only [List.length_cons, List.length_nil]; omega); (case hbase => exact ((Bl.refl _).alloc _).drew.size); intro u1 w6 ho6 hg6)
        (try refine ⟨trivial, ?_⟩)
        repeat (first | (refine wpWay_take rfl (by rfl) (by intro w hSw; (try dsimp only at hSw); first | (go_simp; done) | (go_simp; with_reducible rfl)) ?_; try simp only [Act.put, List.setIfInBounds_toArray, List.set_cons_zero, List.set_cons_succ]) | (refine wpWay_skip rfl (by rfl) ?_; try simp only [Act.put, List.setIfInBounds_toArray, List.set_cons_zero, List.set_cons_succ]))
        have hb6 := (((Bl.refl wr).alloc (.cells #[.int .i64 n] 3)).drew).grown hg6 (fun k hk => (Enc.Own.lt HOwn.out k hk).1)
        refine wpWay_ev rfl (fun K hK => ?_) wpWay_stop
        go_wp2_with (at_builtin; refine Enc.appendFull (E := intE) rfl (.tmp 32) (.tmp 38) 22 rfl 3 (.int .i64 0) 1 8 Try.underlying22 infoInt rfl rfl (by decide) (by decide) _ X _ rfl HKL.out.symm (by have := HF2.out _ (HI.out.bl hb6); rw [← HX.out] at this; rw [HKL.out]; exact this) u1 ([n] ++ Y) rfl ho6.is (by simp) ?hlen ?_; (case hlen => have := HKL.out; simp only [List.length_append, List.length_cons, List.length_nil]; omega); intro u2 w7 ho7 hg7)
        (try refine ⟨trivial, ?_⟩)
        repeat (first | (refine wpWay_take rfl (by rfl) (by intro w hSw; (try dsimp only at hSw); first | (go_simp; done) | (go_simp; with_reducible rfl)) ?_; try simp only [Act.put, List.setIfInBounds_toArray, List.set_cons_zero, List.set_cons_succ]) | (refine wpWay_skip rfl (by rfl) ?_; try simp only [Act.put, List.setIfInBounds_toArray, List.set_cons_zero, List.set_cons_succ]))
        refine wpWay_done ?_
        go_wp2
        go_ret
        refine ⟨_, rfl, ?_, hb6.grown hg7 (fun k hk => by cases hk)⟩
        rw [HR.out, ← HX.out, ← HY.out]
        exact ho7.is
      · obtain ⟨ad, rfl, c0⟩ := int_at HA.out k' hk'
        have hV2 := HVK.out (k' + 1) (by omega)
        have hF1 := HFK.out (k' + 1) (by omega)
        go_wp2_with fail
        have HOwn := Lib.hid (show intE.Own 3 (wr.alloc (.cells #[.int .i64 n] 3)).drew wr.heap.size (.slice (some ⟨wr.heap.size, 0, none⟩) 1 1) [n] from (Enc.Own.lit (E := intE) wr wr.heap.size [n] #[.int .i64 n] rfl 1 rfl (Nat.le_refl _) (by decide) rfl).bl (Bl.refl _).drew)
        refine wp_region_ways (S := (fun _ => True)) [0, 1, 2, 3, 4, 6, 7, 8, 11] (y := .take 0 (.take 1 (.take 2 (.take 3 (.take 4 (.take 6 (.take 7 (.take 8 (.ev 5 (.ev 9 (.ev 10 (.take 11 (.done)) (.stop)) (.stop)) (.stop)))))))))) (by kernel_rfl) (by kernel_rfl) (by kernel_rfl) ?_ (fun hHeld => ?_)
        · trivial
        repeat (first | (refine wpWay_take rfl (by rfl) (by intro w hSw; (try dsimp only at hSw); first | (go_simp; done) | (go_simp; with_reducible rfl)) ?_; try simp only [Act.put, List.setIfInBounds_toArray, List.set_cons_zero, List.set_cons_succ]) | (refine wpWay_skip rfl (by rfl) ?_; try simp only [Act.put, List.setIfInBounds_toArray, List.set_cons_zero, List.set_cons_succ]))
        refine wpWay_ev rfl (fun K hK => ?_) wpWay_stop
        go_wp2_with fail
        (try refine ⟨trivial, ?_⟩)
        repeat (first | (refine wpWay_take rfl (by rfl) (by intro w hSw; (try dsimp only at hSw); first | (go_simp; done) | (go_simp; with_reducible rfl)) ?_; try simp only [Act.put, List.setIfInBounds_toArray, List.set_cons_zero, List.set_cons_succ]) | (refine wpWay_skip rfl (by rfl) ?_; try simp only [Act.put, List.setIfInBounds_toArray, List.set_cons_zero, List.set_cons_succ]))
        refine wpWay_ev rfl (fun K hK => ?_) wpWay_stop
        go_wp2_with (at_builtin; refine Enc.Own.append (E := intE) rfl (.tmp 34) (.tmp 37) 22 rfl wr.heap.size 3 (.int .i64 0) 1 8 Try.underlying22 infoInt rfl rfl (by decide) (by decide) _ [n] rfl HOwn.out V2 Y rfl (by rw [HY.out]; exact HI2.out _ (HI.out.bl ((Bl.refl _).alloc _).drew)) ?hlen ?hbase ?_; (case hlen => simp only [List.length_cons, List.length_nil]; omega); (case hbase => exact ((Bl.refl _).alloc _).drew.size); intro u1 w6 ho6 hg6)
        (try refine ⟨trivial, ?_⟩)
        repeat (first | (refine wpWay_take rfl (by rfl) (by intro w hSw; (try dsimp only at hSw); first | (go_simp; done) | (go_simp; with_reducible rfl)) ?_; try simp only [Act.put, List.setIfInBounds_toArray, List.set_cons_zero, List.set_cons_succ]) | (refine wpWay_skip rfl (by rfl) ?_; try simp only [Act.put, List.setIfInBounds_toArray, List.set_cons_zero, List.set_cons_succ]))
        have hb6 := (((Bl.refl wr).alloc (.cells #[.int .i64 n] 3)).drew).grown hg6 (fun k hk => (Enc.Own.lt HOwn.out k hk).1)
        refine wpWay_ev rfl (fun K hK => ?_) wpWay_stop
        go_wp2_with (at_builtin; refine Enc.appendFull (E := intE) rfl (.tmp 32) (.tmp 38) 22 rfl 3 (.int .i64 0) 1 8 Try.underlying22 infoInt rfl rfl (by decide) (by decide) _ X _ rfl HKL.out.symm (by have := HF2.out _ (HI.out.bl hb6); rw [← HX.out] at this; rw [HKL.out]; exact this) u1 ([n] ++ Y) rfl ho6.is (by simp) ?hlen ?_; (case hlen => have := HKL.out; simp only [List.length_append, List.length_cons, List.length_nil]; omega); intro u2 w7 ho7 hg7)
        (try refine ⟨trivial, ?_⟩)
        repeat (first | (refine wpWay_take rfl (by rfl) (by intro w hSw; (try dsimp only at hSw); first | (go_simp; done) | (go_simp; with_reducible rfl)) ?_; try simp only [Act.put, List.setIfInBounds_toArray, List.set_cons_zero, List.set_cons_succ]) | (refine wpWay_skip rfl (by rfl) ?_; try simp only [Act.put, List.setIfInBounds_toArray, List.set_cons_zero, List.set_cons_succ]))
        refine wpWay_done ?_
        go_wp2
        go_ret
        refine ⟨_, rfl, ?_, hb6.grown hg7 (fun k hk => by cases hk)⟩
        rw [HR.out, ← HX.out, ← HY.out]
        exact ho7.is

set_option maxRecDepth 100000 in
set_option maxHeartbeats 1000000 in
theorem rsectors_any (v : Value) (l : List Ext) (w : World) (h : extE.Is w v l) (hn : l.length ≤ 100000) :
    Calls Try.prog 79 #[v] w fun e w' => ∃ u, e = .returned u ∧ intE.Is w' u (sortedM (l.map Ext.sector)) ∧ Bl w w' := by
  obtain ⟨A, c, rfl, h1, h2, h3, h4⟩ := h
  have HA := Lib.hid h4
  have hu := Try.underlying38
  clear h1 h2 h3 h4
  go_enter Try.func79, Try.ntmps79
  go_wp2
  go_loopg [3, 7] l.length (fun g s i wr => ∃ (k : Nat), k ≤ l.length ∧ g = l.length - k ∧ i = .int .i64 k ∧ Hid (intE.Is wr s (((l.take k).map Ext.sector).foldl riseM [])) ∧ Bl w wr)
  case atStart => exact ⟨0, by omega, rfl, rfl, Lib.hid (Enc.Is.nil _), Bl.refl _⟩
  case round =>
    obtain ⟨k, hk, rfl, rfl, HO, hbl⟩ := hrel
    have HB := Lib.hid hbl
    clear hbl
    by_cases hlt : k < l.length
    · obtain ⟨ad, rfl, c0, c1, c2, c3, c4⟩ := ext_at (HA.out.bl HB.out) k hlt
      have hst := Lib.hid (show ((l.take (k + 1)).map Ext.sector).foldl riseM [] = riseM (((l.take k).map Ext.sector).foldl riseM []) l[k].sector by
        rw [List.take_succ_eq_append_getElem hlt, List.map_append, List.foldl_append]; rfl)
      have hlen := (rises_spec ((l.take k).map Ext.sector) [] (by simp)).2.2
      rw [List.length_map, List.length_take] at hlen
      generalize ((l.take k).map Ext.sector).foldl riseM [] = xs at *
      generalize l[k] = x at *
      obtain ⟨x0, x1, x2, x3, x4⟩ := x
      dsimp only at c0 c1 c2 c3 c4
      have HLEN := Lib.hid hlen
      clear hlen
      go_wp2_with fail
      refine (rise_any _ _ _ _ HO.out (by have := HLEN.out; simp only [List.length_nil] at this; omega)).mono ?_
      rintro e w1 ⟨u, rfl, ho, hb⟩
      have HO2 := Lib.hid ho
      have HB2 := Lib.hid (HB.out.bl hb)
      clear ho hb
      go_wp2
      go_roundg (l.length - (k + 1))
      case measure => omega
      case rel => exact ⟨k + 1, by omega, rfl, by go_num, Lib.hid (by rw [hst.out]; exact HO2.out), HB2.out⟩
    · go_wp2
      go_ret
      refine ⟨_, rfl, ?_, HB.out⟩
      have := HO.out
      rw [List.take_of_length_le (by omega)] at this
      rw [← rises_sorted]; exact this
end Go.Proofs.Ytddcjekkimajpaa.ExtW

/- Contracts of state.Sectors and of ref20's Lines.Sectors. -/
namespace Go.Ov
open Go.RowKit
def secO (s : LnM) : List Int := s.flatMap fun t => t.2.map Ext.sector
theorem sortedM_nil : sortedM [] = [] := List.eq_nil_of_length_eq_zero (by have := sortedM_len []; simpa using this)
theorem sorted_fold (a l : List Int) : (sortedM l).foldl riseM (sortedM a) = sortedM (a ++ l) := by
  obtain ⟨h1, h2⟩ := sortedM_spec a
  obtain ⟨g1, g2⟩ := sortedM_spec l
  obtain ⟨k1, k2⟩ := sortedM_spec (a ++ l)
  obtain ⟨r1, r2, _⟩ := rises_spec (sortedM l) (sortedM a) h1
  exact strict_ext _ _ r1 k1 fun x => by rw [r2, k2, h2, g2]; simp
theorem fold_len (l a : List Int) (ha : a.Pairwise (· < ·)) (k : Nat) : ((l.take k).foldl riseM a).length ≤ a.length + l.length := by
  have := (rises_spec (l.take k) a ha).2.2
  rw [List.length_take] at this
  omega
theorem secO_take (s : LnM) (k : Nat) (h : k < s.length) : secO (s.take (k + 1)) = secO (s.take k) ++ s[k].2.map Ext.sector := by
  unfold secO
  rw [List.take_succ_eq_append_getElem h, List.flatMap_append]; simp
theorem secO_len_take (s : LnM) (k : Nat) : (secO (s.take k)).length ≤ (secO s).length := by
  have : secO s = secO (s.take k) ++ secO (s.drop k) := by unfold secO; rw [← List.flatMap_append, List.take_append_drop]
  rw [this, List.length_append]; omega
theorem secO_row (s : LnM) (k : Nat) (h : k < s.length) : s[k].2.length ≤ (secO s).length := by
  have h1 := secO_take s k h
  have h2 := secO_len_take s (k + 1)
  rw [h1, List.length_append, List.length_map] at h2; omega
end Go.Ov
namespace Go.Proofs.Ytddcjekkimajpaa.ExtW
open Go.RowKit Go.Ov Go.Proofs.Ytddcjekkimajpaa.Need

set_option maxRecDepth 100000 in
set_option maxHeartbeats 1000000 in
theorem lsectors_any (v : Value) (s : LnM) (w : World) (h : LnIs w v s) (hn : s.length ≤ 1000) (hm : (secO s).length ≤ 100000) :
    Calls Try.prog 61 #[v] w fun e w' => ∃ u, e = .returned u ∧ intE.Is w' u (sortedM (secO s)) ∧ Bl w w' := by
  obtain ⟨hs, ⟨A, c, rfl, _, q1, _, hA⟩, hrows⟩ := h
  have HA := Lib.hid hA
  have HR := Lib.hid hrows
  have HL := Lib.hid hrows.1
  have hl : hs.length ≤ 1000 := by rw [hrows.1]; exact hn
  clear hA q1 hrows
  go_enter Try.func61, Try.ntmps61
  go_wp2_with fail
  go_loopg [9, 3, 4, 5, 6, 18, 19, 20, 21, 22, 23, 24, 25, 26, 27, 28, 29] hs.length (fun g i v3 v4 v5 v6 v18 v19 v20 v21 v22 v23 v24 v25 v26 v27 v28 v29 wr => ∃ k : Nat, k ≤ hs.length ∧ g = hs.length - k ∧ i = .int .i64 k ∧ Hid (intE.Is wr v3 (sortedM (secO (s.take k)))) ∧ Hid (Bl w wr))
  case atStart => exact ⟨0, by omega, rfl, rfl, Lib.hid (by rw [show sortedM (secO (s.take 0)) = [] from sortedM_nil]; exact Enc.Is.nil _), Lib.hid (Bl.refl _)⟩
  case round =>
    obtain ⟨k, hk, rfl, rfl, HO, HB⟩ := hrel
    by_cases hlt : k < hs.length
    · have hlt2 : k < s.length := by have := HL.out; omega
      obtain ⟨ad, rfl, _, c1⟩ := row_at (HA.out.bl HB.out) k hlt
      obtain ⟨_, hR⟩ := HR.out.at k hlt2
      have HX := Lib.hid (hR.2.bl HB.out)
      have hrl := secO_row s k hlt2
      have HT := Lib.hid (secO_take s k hlt2)
      have hal := secO_len_take s k
      clear hR
      generalize s[k].2 = row at *
      generalize hs[k].h = hh at *
      go_wp2_with fail
      refine (rsectors_any _ row _ HX.out (by omega)).mono ?_
      rintro e w1 ⟨u, rfl, ho, hb⟩
      obtain ⟨A5, c5, rfl, _⟩ := id ho
      have HU := Lib.hid ho
      have HB1 := Lib.hid (HB.out.bl hb)
      have HO1 := Lib.hid (HO.out.bl hb)
      have hsl := sortedM_len (row.map Ext.sector)
      rw [List.length_map] at hsl
      have HS := Lib.hid (sortedM_spec (secO (s.take k))).1
      have hsl2 := sortedM_len (secO (s.take k))
      obtain ⟨R, hRe⟩ : ∃ R, R = sortedM (row.map Ext.sector) := ⟨_, rfl⟩
      obtain ⟨a, hae⟩ : ∃ a, a = sortedM (secO (s.take k)) := ⟨_, rfl⟩
      rw [← hRe] at HU hsl
      rw [← hRe]
      rw [← hae] at HO1 HS hsl2
      have HRe := Lib.hid hRe
      have Hae := Lib.hid hae
      clear ho hb hRe hae HO
      go_wp2_with fail
      go_loopg [20, 3, 6] R.length (fun g i v3 v6 wr => ∃ j : Nat, j ≤ R.length ∧ g = R.length - j ∧ i = .int .i64 j ∧ Hid (intE.Is wr v3 ((R.take j).foldl riseM a)) ∧ Hid (Bl w1 wr))
      case atStart => exact ⟨0, by omega, rfl, rfl, HO1, Lib.hid (Bl.refl _)⟩
      case round =>
        obtain ⟨j, hj, rfl, rfl, HO2, HB2⟩ := hrel
        by_cases hltj : j < R.length
        · obtain ⟨_, _, e5, _, _, _, hat⟩ := HU.out
          simp at e5
          obtain ⟨rfl, e6⟩ := e5
          clear e6
          obtain ⟨ad5, rfl, d5⟩ := int_at (hat.bl HB2.out) j hltj
          have HF := Lib.hid (List.take_succ_eq_append_getElem hltj)
          have hfl := fold_len R a HS.out j
          generalize R[j] = x at *
          obtain ⟨A3, c3, rfl, _⟩ := id HO2.out
          clear hat
          go_wp2_with fail
          refine (rise_any _ _ x _ HO2.out (by omega)).mono ?_
          rintro e w3 ⟨u3, rfl, h3, hb⟩
          have HB3 := Lib.hid (HB2.out.bl hb)
          have H3 := Lib.hid (show intE.Is w3 u3 ((R.take (j + 1)).foldl riseM a) by rw [HF.out, List.foldl_append]; exact h3)
          clear h3 hb
          go_wp2_with fail
          go_roundg (R.length - (j + 1))
          case measure => omega
          case rel => exact ⟨j + 1, by omega, rfl, by go_num, H3, HB3⟩
        · have HE := Lib.hid (show intE.Is wr _ (sortedM (secO (s.take (k + 1)))) by
            have := HO2.out
            rw [List.take_of_length_le (by omega), HRe.out, Hae.out, sorted_fold, ← HT.out] at this
            exact this)
          go_wp2_with fail
          go_roundg (hs.length - (k + 1))
          case measure => omega
          case rel => exact ⟨k + 1, by omega, rfl, by go_num, HE, Lib.hid (HB1.out.bl HB2.out)⟩
    · have HE := Lib.hid (show intE.Is wr _ (sortedM (secO s)) by
        have := HO.out
        rw [List.take_of_length_le (by have := HL.out; omega)] at this
        exact this)
      go_wp2_with fail
      go_ret
      exact ⟨_, rfl, HE.out, HB.out⟩

def allOf (s : StM) : List Ext := s.flatMap fun t => t.2.row
theorem allOf_take (s : StM) (k : Nat) (h : k < s.length) : allOf (s.take (k + 1)) = allOf (s.take k) ++ s[k].2.row := by
  unfold allOf; rw [List.take_succ_eq_append_getElem h, List.flatMap_append]; simp
theorem allOf_len_take (s : StM) (k : Nat) : (allOf (s.take k)).length ≤ (allOf s).length := by
  have : allOf s = allOf (s.take k) ++ allOf (s.drop k) := by unfold allOf; rw [← List.flatMap_append, List.take_append_drop]
  rw [this, List.length_append]; omega
theorem allOf_row (s : StM) (k : Nat) (h : k < s.length) : (allOf (s.take k)).length + s[k].2.row.length ≤ (allOf s).length := by
  have h1 := allOf_take s k h
  have h2 := allOf_len_take s (k + 1)
  rw [h1, List.length_append] at h2; exact h2
theorem allOf_sec (s : StM) : (allOf s).map Ext.sector = secO (rowsOf s) := by
  unfold allOf secO rowsOf
  rw [List.map_flatMap, List.flatMap_map]

set_option maxRecDepth 100000 in
set_option maxHeartbeats 1000000 in
theorem ssectors_any (v : Value) (s : StM) (w : World) (h : StateIs w v s) (hn : s.length ≤ 1000) (hm : (allOf s).length ≤ 100000) :
    Calls Try.prog 60 #[v] w fun e w' => ∃ u, e = .returned u ∧ intE.Is w' u (sortedM (secO (rowsOf s))) ∧ Bl w w' := by
  obtain ⟨b, u, hs, rfl, c0, h1, h2⟩ := h
  obtain ⟨A, c, e0, q1, q2, _, hat⟩ := h1
  rw [e0] at c0
  have HA := Lib.hid hat
  have HR := Lib.hid h2
  have HL := Lib.hid h2.1
  have hl : hs.length ≤ 1000 := by rw [h2.1]; exact hn
  have hu := Try.underlying76
  have hu2 := Try.underlying83
  clear hat h2 e0 q1 q2
  go_enter Try.func60, Try.ntmps60
  go_wp2_with fail
  go_loopg [11, 3, 5, 13, 14, 15, 16, 17, 18, 19] hs.length (fun g i v3 v5 v13 v14 v15 v16 v17 v18 v19 wr => ∃ k : Nat, k ≤ hs.length ∧ g = hs.length - k ∧ i = .int .i64 k ∧ Hid (extE.Own 38 wr w.heap.size v3 (allOf (s.take k))) ∧ Hid (Bl w wr))
  case atStart => exact ⟨0, by omega, rfl, rfl, Lib.hid (Enc.Own.nil _ _ _), Lib.hid (Bl.refl _)⟩
  case round =>
    obtain ⟨k, hk, rfl, rfl, HO, HB⟩ := hrel
    by_cases hlt : k < hs.length
    · have hlt2 : k < s.length := by have := HL.out; omega
      obtain ⟨ad, rfl, k0, k1⟩ := track_at (HA.out.bl HB.out) k hlt
      obtain ⟨_, hR⟩ := HR.out.at k hlt2
      have HT := Lib.hid (hR.2.bl HB.out)
      have hrl := allOf_row s k hlt2
      have HS := Lib.hid (allOf_take s k hlt2)
      clear hR
      generalize s[k].2 = t at *
      generalize hs[k] = th at *
      obtain ⟨tid, tb⟩ := th
      dsimp only at k0 k1 HT
      obtain ⟨A3, c3, rfl⟩ := HO.out.slice
      go_wp2_with fail
      refine (tall_any _ t _ (HT.out.bl ((Bl.refl _).alloc _)) (by omega)).mono ?_
      rintro e w1 ⟨u, rfl, ho, hb⟩
      have HU := Lib.hid ho.is
      have HB1 := Lib.hid ((HB.out.alloc _).bl hb)
      have HO1 := Lib.hid (HO.out.bl (((Bl.refl wr).alloc _).bl hb))
      obtain ⟨A5, c5, rfl⟩ := ho.slice
      clear ho hb HO
      go_wp2_with (at_builtin; refine Enc.Own.append (E := extE) rfl (.tmp 15) (.tmp 18) 31 rfl w.heap.size 38 (.agg #[.int .i64 0, .int .i64 0, .int .i64 0, .int .i64 0, .int .i64 0]) 5 40 Try.underlying31 infoExt rfl rfl (by decide) (by decide) _ _ rfl HO1.out _ _ rfl HU.out ?hlen ?hbase ?_; (case hlen => omega); (case hbase => exact HB1.out.size); intro v1 w4 ho hg)
      have HB4 := Lib.hid (HB1.out.grown hg (fun k hk => (Enc.Own.lt HO1.out k hk).1))
      have HO4 := Lib.hid (show extE.Own 38 w4 w.heap.size v1 (allOf (s.take (k + 1))) by rw [HS.out]; exact ho)
      clear ho hg
      go_wp2_with fail
      go_roundg (hs.length - (k + 1))
      case measure => omega
      case rel => exact ⟨k + 1, by omega, rfl, by go_num, HO4, HB4⟩
    · go_wp2_with fail
      refine (sectors_any _ (allOf s) _ (by have := HO.out.is; rw [List.take_of_length_le (by have := HL.out; omega)] at this; exact this) (by omega)).mono ?_
      rintro e w1 ⟨u, rfl, ho, hb⟩
      have HU := Lib.hid ho.is
      obtain ⟨A5, c5, rfl⟩ := ho.slice
      clear ho
      go_wp2_with fail
      go_ret
      exact ⟨_, rfl, by rw [← allOf_sec]; exact HU.out, HB.out.bl hb⟩
end Go.Proofs.Ytddcjekkimajpaa.ExtW

/- Contract of ref20.Same. -/
namespace Go.Proofs.Ytddcjekkimajpaa.ExtW
open Go.RowKit Go.Ov Go.Proofs.Ytddcjekkimajpaa.Need

set_option maxRecDepth 100000 in
set_option maxHeartbeats 4000000 in
theorem lsame_any (v v' : Value) (s s' : LnM) (w : World) (h : LnIs w v s) (h' : LnIs w v' s') (hn : s.length ≤ 1000) (hn' : s'.length ≤ 1000) :
    Calls Try.prog 36 #[v, v'] w fun e w' => e = .returned (.bool (decide (s = s'))) ∧ Bl w w' := by
  obtain ⟨hs, ⟨A, c, rfl, _, q1, _, hA⟩, hr⟩ := h
  obtain ⟨hs', ⟨A', c', rfl, _, q1', _, hA'⟩, hr'⟩ := h'
  have HA := Lib.hid hA
  have HA' := Lib.hid hA'
  have HR := Lib.hid hr
  have HR' := Lib.hid hr'
  have HL := Lib.hid hr.1
  have HL' := Lib.hid hr'.1
  have hl : hs.length ≤ 1000 := by rw [hr.1]; exact hn
  have hl' : hs'.length ≤ 1000 := by rw [hr'.1]; exact hn'
  have hu := Try.underlying38
  clear hA hA' hr hr' q1 q1'
  by_cases hlen : hs.length = hs'.length
  · have HE := Lib.hid hlen
    have hb1 : ((hs.length : Int) == (hs'.length : Int)) = true := by rw [hlen]; simp
    have hb2 : ((hs.length : Int) != (hs'.length : Int)) = false := by rw [hlen]; simp
    clear hlen
    go_enter Try.func36, Try.ntmps36
    go_wp2_with fail
    go_loopg [14, 5, 6, 43, 44, 45, 46, 47, 48, 49, 50, 51] hs.length (fun g i v5 v6 v43 v44 v45 v46 v47 v48 v49 v50 v51 wr => ∃ k : Nat, k ≤ hs.length ∧ g = hs.length - k ∧ i = .int .i64 k ∧ Hid (s.take k = s'.take k) ∧ Hid (Bl w wr))
    case atStart => exact ⟨0, by omega, rfl, rfl, Lib.hid rfl, Lib.hid (Bl.refl _)⟩
    case round =>
      obtain ⟨k, hk, rfl, rfl, HQ, HB⟩ := hrel
      by_cases hlt : k < hs.length
      · have hltR : k < s.length := by have := HL.out; omega
        have hlt' : k < hs'.length := by have := HE.out; omega
        have hltR' : k < s'.length := by have := HL'.out; omega
        have hki : (k : Int) < hs'.length := by omega
        have hki1 : (k : Int) < hs.length := by omega
        obtain ⟨ad, rfl, c0, c1⟩ := row_at (HA.out.bl HB.out) k hlt
        obtain ⟨ad', rfl, c0', c1'⟩ := row_at (HA'.out.bl HB.out) k hlt'
        obtain ⟨_, hR⟩ := HR.out.at k hltR
        obtain ⟨_, hR'⟩ := HR'.out.at k hltR'
        rw [hR.1] at c0
        rw [hR'.1] at c0'
        have HX := Lib.hid (hR.2.bl HB.out)
        have HX' := Lib.hid (hR'.2.bl HB.out)
        have ta := Lib.hid (List.take_succ_eq_append_getElem hltR)
        have tb := Lib.hid (List.take_succ_eq_append_getElem hltR')
        have hne := Lib.hid (fun h : s = s' => show s[k] = s'[k] by simp [h])
        clear hR hR'
        generalize s[k] = t at *
        generalize s'[k] = t' at *
        generalize hs[k].h = hh at *
        generalize hs'[k].h = hh' at *
        obtain ⟨ti, row⟩ := t
        obtain ⟨ti', row'⟩ := t'
        obtain ⟨b1, bn, bc⟩ := hh
        obtain ⟨b1', bn', bc'⟩ := hh'
        dsimp only at HX HX'
        obtain ⟨_, _, e, _, z2, _, at1⟩ := id HX.out
        obtain ⟨_, _, e', _, z2', _, at1'⟩ := id HX'.out
        simp only [Head.v, Value.slice.injEq] at e e'
        obtain ⟨rfl, rfl, rfl⟩ := e
        obtain ⟨rfl, rfl, rfl⟩ := e'
        unfold maxLen at z2 z2'
        have hz : row.length ≤ 9223372036854775807 := by omega
        have hz' : row'.length ≤ 9223372036854775807 := by omega
        have HX1 := Lib.hid at1
        have HX2 := Lib.hid at1'
        dsimp only at c0 c1 c0' c1'
        clear at1 at1' z2 z2'
        by_cases hid : ti = ti'
        · subst hid
          by_cases hrl : row.length = row'.length
          · have b1e : ((row.length : Int) == (row'.length : Int)) = true := by rw [hrl]; simp
            have b2e : ((row.length : Int) != (row'.length : Int)) = false := by rw [hrl]; simp
            have HRL := Lib.hid hrl
            clear hrl
            go_wp2_with fail
            go_quiet (fail)
            have HB2 := Lib.hid (HB.out.drewN nq)
            clear b1e b2e
            go_wp2_with fail
            have C1 := Lib.hid ((Bl.refl wr).drewN nq |>.cell c1)
            have C1' := Lib.hid ((Bl.refl wr).drewN nq |>.cell c1')
            have X1 := Lib.hid (HX1.out.bl ((Bl.refl wr).drewN nq))
            have X2 := Lib.hid (HX2.out.bl ((Bl.refl wr).drewN nq))
            clear c0 c1 c0' c1' HX HX' HX1 HX2 HB
            obtain ⟨wo, hwo⟩ : ∃ wo : World, wo = wr.drewN nq := ⟨_, rfl⟩
            rw [← hwo] at C1 C1' X1 X2 HB2
            rw [← hwo]
            clear hwo
            go_loopg [49, 6] row.length (fun g i v6 wr => ∃ j : Nat, j ≤ row.length ∧ g = row.length - j ∧ i = .int .i64 j ∧ Hid (row.take j = row'.take j) ∧ Hid (Bl wo wr))
            case atStart => exact ⟨0, by omega, rfl, rfl, Lib.hid rfl, Lib.hid (Bl.refl _)⟩
            case round =>
              obtain ⟨j, hj, rfl, rfl, HJ, HC⟩ := hrel
              by_cases hltj : j < row.length
              · have hltj' : j < row'.length := by have := HRL.out; omega
                have hji : (j : Int) < row.length := by omega
                have hji' : (j : Int) < row'.length := by omega
                obtain ⟨ae, rfl, e0, e1, e2, e3, e4⟩ := ext_at (X1.out.bl HC.out) j hltj
                obtain ⟨ae', rfl, f0, f1, f2, f3, f4⟩ := ext_at (X2.out.bl HC.out) j hltj'
                have g1 := HC.out.cell C1.out
                have g2 := HC.out.cell C1'.out
                have ta2 := Lib.hid (List.take_succ_eq_append_getElem hltj)
                have tb2 := Lib.hid (List.take_succ_eq_append_getElem hltj')
                have hne2 := Lib.hid (fun h : row = row' => show row[j]'hltj = row'[j]'hltj' by simp [h])
                generalize row[j] = x at *
                generalize row'[j] = y at *
                obtain ⟨x0, x1, x2, x3, x4⟩ := x
                obtain ⟨y0, y1, y2, y3, y4⟩ := y
                dsimp only at e0 e1 e2 e3 e4 f0 f1 f2 f3 f4
                have hqq := eq_ext x0 x1 x2 x3 x4 y0 y1 y2 y3 y4
                go_wp2_with fail
                go_quiet (fail)
                clear hqq
                cases hq : eqE ⟨x0, x1, x2, x3, x4⟩ ⟨y0, y1, y2, y3, y4⟩
                · have hd := Lib.hid (show decide (s = s') = false by
                    rw [decide_eq_false_iff_not]; intro h; have := hne.out h; injection this with _ h2; have := hne2.out h2; unfold eqE at hq; simp [this] at hq)
                  clear hq
                  go_wp2
                  go_ret
                  exact ⟨ret_bool hd.out.symm, (HB2.out.bl HC.out).drewN _⟩
                · have HQ2 := Lib.hid hq
                  clear hq
                  go_wp2
                  go_roundg (row.length - (j + 1))
                  case measure => omega
                  case rel =>
                    refine ⟨j + 1, by omega, rfl, by go_num, Lib.hid ?_, Lib.hid (HC.out.drewN _)⟩
                    have := HQ2.out
                    unfold eqE at this
                    rw [ta2.out, tb2.out, HJ.out, of_decide_eq_true this]
              · have hrr := Lib.hid (show row = row' by
                  have := HJ.out
                  rw [List.take_of_length_le (by omega), List.take_of_length_le (by have := HRL.out; omega)] at this
                  exact this)
                go_wp2_with fail
                go_roundg (hs.length - (k + 1))
                case measure => omega
                case rel => exact ⟨k + 1, by omega, rfl, by go_num, Lib.hid (by rw [ta.out, tb.out, HQ.out, hrr.out]), Lib.hid (HB2.out.bl HC.out)⟩
          · have b1e : ((row.length : Int) == (row'.length : Int)) = false := by rw [beq_eq_false_iff_ne]; omega
            have b2e : ((row.length : Int) != (row'.length : Int)) = true := by rw [bne_iff_ne]; omega
            have hd := Lib.hid (show decide (s = s') = false by rw [decide_eq_false_iff_not]; intro h; have := hne.out h; injection this with _ h2; exact hrl (by rw [h2]))
            clear hrl
            go_wp2_with fail
            go_quiet (fail)
            clear b1e b2e
            go_wp2_with fail
            go_ret
            exact ⟨ret_bool hd.out.symm, HB.out.drewN _⟩
        · have i1 : (ti == ti') = false := by simpa using hid
          have i2 : (ti != ti') = true := by simpa using hid
          have hd := Lib.hid (show decide (s = s') = false by rw [decide_eq_false_iff_not]; intro h; have := hne.out h; injection this with h1 _; exact hid h1)
          clear hid
          go_wp2_with fail
          go_quiet (fail)
          clear i1 i2
          go_wp2_with fail
          go_ret
          exact ⟨ret_bool hd.out.symm, HB.out.drewN _⟩
      · have hd := Lib.hid (show decide (s = s') = true by
          rw [decide_eq_true_eq]
          have := HQ.out
          rw [List.take_of_length_le (by have := HL.out; omega), List.take_of_length_le (by have := HL'.out; have := HE.out; omega)] at this
          exact this)
        go_wp2_with fail
        go_ret
        exact ⟨ret_bool hd.out.symm, HB.out⟩
  · have hd := Lib.hid (show decide (s = s') = false by rw [decide_eq_false_iff_not]; intro h; exact hlen (by rw [HL.out, HL'.out, h]))
    have hb1 : ((hs.length : Int) == (hs'.length : Int)) = false := by rw [beq_eq_false_iff_ne]; omega
    have hb2 : ((hs.length : Int) != (hs'.length : Int)) = true := by rw [bne_iff_ne]; omega
    clear hlen
    go_enter Try.func36, Try.ntmps36
    go_wp2_with fail
    go_ret
    exact ⟨ret_bool hd.out.symm, Bl.refl _⟩
end Go.Proofs.Ytddcjekkimajpaa.ExtW

/- Contract of overdublaw21.Same: a state and its rows. -/
namespace Go.Proofs.Ytddcjekkimajpaa.ExtW
open Go.RowKit Go.Ov Go.Proofs.Ytddcjekkimajpaa.Need

/-- states as they come about: their trees are made, their names are none below 0 -/
def SOT (s : StM) : Prop := SOK s ∧ ∀ t ∈ s, t.2 = treeM t.2.row ∧ 0 ≤ t.1
theorem get_at {s : StM} (hr : Rising s) (i : Nat) (h : i < s.length) : getS s s[i].1 = some s[i].2 := by
  induction s generalizing i with
  | nil => simp at h
  | cons t s ih =>
    obtain ⟨h1, h2⟩ := List.pairwise_cons.1 hr
    cases i with
    | zero => simp [getS]
    | succ i =>
      simp only [List.getElem_cons_succ]
      have hi : i < s.length := by simpa using h
      have := h1 s[i] (List.getElem_mem hi)
      unfold getS
      rw [if_neg (by omega)]
      exact ih h2 i hi
theorem allOf_len {s : StM} (h : SOK s) : (allOf s).length ≤ 6000 := by
  have hl := h.1.1
  have hv := h.1.2
  have gen : ∀ s : StM, (∀ t ∈ s, validFrom 0 t.2.row = true) → (allOf s).length ≤ s.length * 1000 := by
    intro s
    induction s with
    | nil => intro _; simp [allOf]
    | cons t s ih =>
      intro hv
      have h1 := valid_len _ (hv t (by simp))
      have h2 := ih (fun x hx => hv x (by simp [hx]))
      unfold allOf at h2 ⊢
      rw [List.flatMap_cons, List.length_append, List.length_cons]
      omega
  have := gen s hv
  omega
theorem rowsOf_at (s : StM) (i : Nat) (h : i < s.length) : (rowsOf s)[i]'(by rw [rowsOf_len]; exact h) = (s[i].1, s[i].2.row) := by simp [rowsOf]

set_option maxRecDepth 100000 in
set_option maxHeartbeats 4000000 in
theorem same21_any (v v' : Value) (s : StM) (w : World) (h : StateIs w v s) (h' : LnIs w v' (rowsOf s)) (hs : SOT s) :
    Calls Try.prog 35 #[v, v'] w fun e w' => e = .returned (.bool true) ∧ Bl w w' := by
  have hlen := hs.1.1.1
  have hal := allOf_len hs.1
  have hsec : (secO (rowsOf s)).length ≤ 6000 := by rw [← allOf_sec, List.length_map]; exact hal
  have HS := Lib.hid h
  have HLn := Lib.hid h'
  have HOK := Lib.hid hs
  obtain ⟨b, _, _, rfl, _⟩ := h
  obtain ⟨hs1, ⟨A, c, rfl, _, q1, _, hA⟩, hr⟩ := h'
  have HA := Lib.hid hA
  have HR := Lib.hid hr
  have HL := Lib.hid (show hs1.length = s.length by rw [hr.1, rowsOf_len])
  have hl6 : hs1.length ≤ 6 := by rw [hr.1, rowsOf_len]; exact hlen
  have HSec := Lib.hid hsec
  have HAl := Lib.hid hal
  clear hA hr q1 hs hsec hal
  obtain ⟨I, hIe⟩ : ∃ I, I = s.map (·.1) := ⟨_, rfl⟩
  have HIl := Lib.hid (show I.length = s.length by rw [hIe, List.length_map])
  have HIe := Lib.hid hIe
  clear hIe
  go_enter Try.func35, Try.ntmps35
  go_upto_block 0 with fail
  go_cut [5] (fun v5 wc => Hid (intE.Is wc v5 I) ∧ Hid (Bl w wc))
  case first =>
    go_wp2_with fail
    go_loopg [19, 5, 6] hs1.length (fun g i v5 v6 wr => ∃ k : Nat, k ≤ hs1.length ∧ g = hs1.length - k ∧ i = .int .i64 k ∧ Hid (intE.Own 3 wr w.heap.size v5 (I.take k)) ∧ Hid (Bl w wr))
    case atStart => exact ⟨0, by omega, rfl, rfl, Lib.hid (Enc.Own.nil _ _ _), Lib.hid (Bl.refl _)⟩
    case round =>
      obtain ⟨k, hk, rfl, rfl, HO, HB⟩ := hrel
      by_cases hlt : k < hs1.length
      · have hks : k < s.length := by have := HL.out; omega
        obtain ⟨ad, rfl, c0, _⟩ := row_at (HA.out.bl HB.out) k hlt
        obtain ⟨_, hR⟩ := HR.out.at k (by rw [rowsOf_len]; exact hks)
        rw [hR.1, rowsOf_at s k hks] at c0
        have HT := Lib.hid (show I.take (k + 1) = I.take k ++ [s[k].1] by rw [HIe.out, List.take_succ_eq_append_getElem (by simpa using hks)]; simp)
        have hol : (I.take k).length ≤ 6 := by rw [List.length_take]; omega
        generalize s[k].1 = x at *
        obtain ⟨o, hoe⟩ : ∃ o, o = I.take k := ⟨_, rfl⟩
        rw [← hoe] at HO hol HT
        clear hoe hR
        obtain ⟨A5, c5, rfl⟩ := HO.out.slice
        go_wp2_with (at_builtin; refine Enc.Own.append1 (E := intE) rfl (.tmp 22) (.tmp 28) 22 rfl w.heap.size 3 (.int .i64 0) 1 8 Try.underlying22 infoIntT rfl rfl (by decide) (by decide) _ _ rfl HO.out x _ rfl rfl rfl ?hlen ?hbase ?_; (case hlen => omega); (case hbase => exact HB.out.size); intro v1 w4 ho hg)
        have HB4 := Lib.hid ((HB.out.alloc _).grown hg (fun k hk => (Enc.Own.lt HO.out k hk).1))
        have HO4 := Lib.hid (show intE.Own 3 w4 w.heap.size v1 (I.take (k + 1)) by rw [HT.out]; exact ho)
        clear ho hg
        go_wp2_with fail
        go_roundg (hs1.length - (k + 1))
        case measure => omega
        case rel => exact ⟨k + 1, by omega, rfl, by go_num, HO4, HB4⟩
      · have HF := Lib.hid (show intE.Is wr _ I by
          have := HO.out.is
          rw [List.take_of_length_le (by have := HL.out; have := HIl.out; omega)] at this
          exact this)
        go_wp2_with fail
        go_meet
        exact ⟨HF, HB⟩
  case rest =>
  obtain ⟨HI, HB⟩ := hcut
  obtain ⟨A5, c5, rfl, _⟩ := id HI.out
  go_wp2_with fail
  refine (sids_any _ s _ (HS.out.bl HB.out) (by omega)).mono ?_
  rintro e w1 ⟨u1, rfl, ho, hb⟩
  rw [← HIe.out] at ho
  have HU1 := Lib.hid ho.is
  have HB1 := Lib.hid (HB.out.bl hb)
  have HI1 := Lib.hid (HI.out.bl hb)
  obtain ⟨A6, c6, rfl⟩ := ho.slice
  clear ho hb
  go_wp2_with fail
  refine (sameInt_any _ _ _ _ _ HU1.out HI1.out).mono ?_
  rintro e w2 ⟨rfl, hb⟩
  rw [show decide (I = I) = true from by simp]
  have HB2 := Lib.hid (HB1.out.bl hb)
  clear hb
  go_wp2_with fail
  refine (ssectors_any _ s _ (HS.out.bl HB2.out) (by omega) (by have := HAl.out; omega)).mono ?_
  rintro e w3 ⟨u3, rfl, h3, hb⟩
  obtain ⟨S, hSe⟩ : ∃ S, S = sortedM (secO (rowsOf s)) := ⟨_, rfl⟩
  rw [← hSe] at h3
  have HSe := Lib.hid hSe
  clear hSe
  obtain ⟨A7, c7, rfl, _⟩ := id h3
  have HU3 := Lib.hid h3
  have HB3 := Lib.hid (HB2.out.bl hb)
  clear h3 hb
  go_wp2_with fail
  refine (lsectors_any _ (rowsOf s) _ (HLn.out.bl HB3.out) (by rw [rowsOf_len]; omega) (by have := HSec.out; omega)).mono ?_
  rintro e w4 ⟨u4, rfl, h4, hb⟩
  rw [← HSe.out] at h4
  obtain ⟨A8, c8, rfl, _⟩ := id h4
  have HU4 := Lib.hid h4
  have HU3' := Lib.hid (HU3.out.bl hb)
  have HB4 := Lib.hid (HB3.out.bl hb)
  clear h4 hb
  go_wp2_with fail
  refine (sameInt_any _ _ _ _ _ HU3'.out HU4.out).mono ?_
  rintro e w5 ⟨rfl, hb⟩
  rw [show decide (S = S) = true from by simp]
  have HB5 := Lib.hid (HB4.out.bl hb)
  clear hb HB HB1 HB2 HB3 HB4 HI HI1 HU1 HU3 HU3' HU4
  go_upto_block 2 with fail
  go_cut [] (fun wc => Hid (Bl w wc))
  case first =>
    go_wp2_with fail
    go_loopg [46, 7, 8, 9, 10, 11] hs1.length (fun g i v7 v8 v9 v10 v11 wr => ∃ k : Nat, k ≤ hs1.length ∧ g = hs1.length - k ∧ i = .int .i64 k ∧ Hid (Bl w wr))
    case atStart => exact ⟨0, by omega, rfl, rfl, HB5⟩
    case round =>
      clear HB5
      obtain ⟨k, hk, rfl, rfl, HB⟩ := hrel
      by_cases hlt : k < hs1.length
      · have hks : k < s.length := by have := HL.out; omega
        obtain ⟨ad, rfl, c0, c1⟩ := row_at (HA.out.bl HB.out) k hlt
        obtain ⟨_, hR⟩ := HR.out.at k (by rw [rowsOf_len]; exact hks)
        rw [rowsOf_at s k hks] at hR
        rw [hR.1] at c0
        have HX := Lib.hid (hR.2.bl HB.out)
        have HG := Lib.hid (get_at HOK.out.1.2 k hks)
        have hv := HOK.out.1.1.2 s[k] (List.getElem_mem hks)
        have ht := (HOK.out.2 s[k] (List.getElem_mem hks)).1
        have hki : (k : Int) < hs1.length := by omega
        generalize s[k] = t at *
        generalize hs1[k].h = hh at *
        obtain ⟨ti, tt⟩ := t
        obtain ⟨b1, bn, bc⟩ := hh
        dsimp only at c0 c1 hv ht HG HX
        have HV := Lib.hid hv
        have HT := Lib.hid ht
        have hbd := valid_len _ hv
        have hle := validFrom_bd tt.row 0 (by decide) hv
        have D1 := Lib.hid c1
        clear hR hv ht
        go_wp2_with fail
        refine (stree_any _ s ti _ (HS.out.bl HB.out)).mono ?_
        rintro e w1 ⟨⟨_, h1⟩, hb⟩
        obtain ⟨ut, rfl, htr⟩ := h1 tt HG.out
        have HTr := Lib.hid htr
        obtain ⟨bt, _, _, rfl, _⟩ := htr
        have HB1 := Lib.hid (HB.out.bl hb)
        have HX1 := Lib.hid (HX.out.bl hb)
        have c2 := hb.cell D1.out
        replace c0 := hb.cell c0
        clear h1 hb c1
        go_wp2_with fail
        refine (slength_any _ s ti _ (HS.out.bl HB1.out) HOK.out.1.1.2).mono ?_
        rintro e w2 ⟨⟨_, h1⟩, hb⟩
        obtain rfl := h1 tt HG.out
        have HB2 := Lib.hid (HB1.out.bl hb)
        have HX2 := Lib.hid (HX1.out.bl hb)
        have HT2 := Lib.hid (HTr.out.bl hb)
        replace c2 := hb.cell c2
        clear h1 hb c0
        obtain ⟨_, _, ex, _⟩ := id HX2.out
        simp only [Head.v, Value.slice.injEq] at ex
        obtain ⟨rfl, rfl, rfl⟩ := ex
        go_wp2_with fail
        refine wp_region_ways (S := (fun w' => w'.cell? ⟨(ad.add (k * 2)).block, (ad.add (k * 2)).off + 1, none⟩ = some (.slice b1 tt.row.length bc))) [0, 1, 2, 3, 4, 5, 6, 7, 8, 9, 10, 11, 13, 14, 15, 16, 17, 19, 20, 21, 22, 24, 25, 26, 27, 28, 30, 31] (y := .take 0 (.take 1 (.take 2 (.take 3 (.take 4 (.take 5 (.take 6 (.take 7 (.take 8 (.take 9 (.take 10 (.take 11 (.take 13 (.take 14 (.take 15 (.take 16 (.take 17 (.ev 12 (.ev 18 (.take 19 (.take 20 (.take 21 (.take 22 (.ev 23 (.take 24 (.take 25 (.take 26 (.take 27 (.take 28 (.ev 29 (.take 30 (.take 31 (.done))) (.stop))))))) (.stop)))))) (.stop)) (.stop))))))))))))))))))) (by kernel_rfl) (by kernel_rfl) (by kernel_rfl) ?_ (fun hHeld => ?_)
        · exact ((Bl.refl _).drew).cell c2
        have HH := Lib.hid hHeld
        clear hHeld c2
        repeat (first | (refine wpWay_take rfl (by rfl) (by intro w hSw; (try dsimp only at hSw); first | (go_simp; done) | (go_simp; with_reducible rfl)) ?_; try simp only [Act.put, List.setIfInBounds_toArray, List.set_cons_zero, List.set_cons_succ]) | (refine wpWay_skip rfl (by rfl) ?_; try simp only [Act.put, List.setIfInBounds_toArray, List.set_cons_zero, List.set_cons_succ]))
        refine wpWay_ev rfl (fun K hK => ?_) wpWay_stop
        go_wp2_with fail
        refine (tall_any _ tt _ (HT2.out.bl (Bl.refl _).drew) (by omega)).mono ?_
        rintro e w3 ⟨u3, rfl, ho, hb⟩
        have HB3 := Lib.hid ((HB2.out.drew).bl hb)
        have HU3 := Lib.hid ho.is
        have HX3 := Lib.hid ((HX2.out.bl (Bl.refl _).drew).bl hb)
        have HT3 := Lib.hid ((HT2.out.bl (Bl.refl _).drew).bl hb)
        have HH3 := Lib.hid (hb.cell HH.out)
        obtain ⟨A9, c9, rfl⟩ := ho.slice
        clear ho hb
        go_wp2_with fail
        refine ⟨HH3.out, ?_⟩
        repeat (first | (refine wpWay_take rfl (by rfl) (by intro w hSw; (try dsimp only at hSw); first | (go_simp; done) | (go_simp; with_reducible rfl)) ?_; try simp only [Act.put, List.setIfInBounds_toArray, List.set_cons_zero, List.set_cons_succ]) | (refine wpWay_skip rfl (by rfl) ?_; try simp only [Act.put, List.setIfInBounds_toArray, List.set_cons_zero, List.set_cons_succ]))
        refine wpWay_ev rfl (fun K hK => ?_) wpWay_stop
        go_wp2_with fail
        refine (sameExt_any _ _ tt.row tt.row _ HU3.out HX3.out).mono ?_
        rintro e w4 ⟨rfl, hb⟩
        rw [show decide (tt.row = tt.row) = true from by simp]
        have HB4 := Lib.hid (HB3.out.bl hb)
        have HT4 := Lib.hid (HT3.out.bl hb)
        have HH4 := Lib.hid (hb.cell HH3.out)
        clear hb
        go_wp2_with fail
        refine ⟨HH4.out, ?_⟩
        repeat (first | (refine wpWay_take rfl (by rfl) (by intro w hSw; (try dsimp only at hSw); first | (go_simp; done) | (go_simp; with_reducible rfl)) ?_; try simp only [Act.put, List.setIfInBounds_toArray, List.set_cons_zero, List.set_cons_succ]) | (refine wpWay_skip rfl (by rfl) ?_; try simp only [Act.put, List.setIfInBounds_toArray, List.set_cons_zero, List.set_cons_succ]))
        refine wpWay_ev rfl (fun K hK => ?_) wpWay_stop
        go_wp2_with fail
        refine (tright_any _ tt.row _ (by have := HT4.out; rw [HT.out] at this; exact this) HV.out).mono ?_
        rintro e w5 ⟨rfl, hb⟩
        have HB5 := Lib.hid (HB4.out.bl hb)
        have HT5 := Lib.hid (HT4.out.bl hb)
        have HH5 := Lib.hid (hb.cell HH4.out)
        clear hb
        go_wp2_with fail
        refine ⟨HH5.out, ?_⟩
        repeat (first | (refine wpWay_take rfl (by rfl) (by intro w hSw; (try dsimp only at hSw); first | (go_simp; done) | (go_simp; with_reducible rfl)) ?_; try simp only [Act.put, List.setIfInBounds_toArray, List.set_cons_zero, List.set_cons_succ]) | (refine wpWay_skip rfl (by rfl) ?_; try simp only [Act.put, List.setIfInBounds_toArray, List.set_cons_zero, List.set_cons_succ]))
        refine wpWay_ev rfl (fun K hK => ?_) wpWay_stop
        go_wp2_with fail
        refine (tend_any _ tt _ HT5.out HV.out).mono ?_
        rintro e w6 ⟨rfl, hb⟩
        have HB6 := Lib.hid (HB5.out.bl hb)
        have HH6 := Lib.hid (hb.cell HH5.out)
        clear hb
        go_wp2_with fail
        refine ⟨HH6.out, ?_⟩
        repeat (first | (refine wpWay_take rfl (by rfl) (by intro w hSw; (try dsimp only at hSw); first | (go_simp; done) | (go_simp; with_reducible rfl)) ?_; try simp only [Act.put, List.setIfInBounds_toArray, List.set_cons_zero, List.set_cons_succ]) | (refine wpWay_skip rfl (by rfl) ?_; try simp only [Act.put, List.setIfInBounds_toArray, List.set_cons_zero, List.set_cons_succ]))
        refine wpWay_done ?_
        go_wp2_with fail
        go_roundg (hs1.length - (k + 1))
        case measure => omega
        case rel => exact ⟨k + 1, by omega, rfl, by go_num, HB6⟩
      · go_wp2_with fail
        go_meet
        exact HB
  case rest =>
  have HB6 := hcut
  clear hcut HB5
  go_wp2_with fail
  refine (stree_any _ s (-1) _ (HS.out.bl HB6.out)).mono ?_
  rintro e w1 ⟨⟨h1, _⟩, hb⟩
  obtain rfl := h1 (by rw [getS_none]; intro t ht; have := (HOK.out.2 t ht).2; omega)
  have HB7 := Lib.hid (HB6.out.bl hb)
  clear h1 hb
  cases hg : getS s 99 with
  | none =>
    have HG := Lib.hid hg
    clear hg
    go_wp2_with fail
    refine (slength_any _ s 99 _ (HS.out.bl HB7.out) HOK.out.1.1.2).mono ?_
    rintro e w2 ⟨⟨h1, _⟩, hb⟩
    obtain rfl := h1 HG.out
    have HB8 := Lib.hid (HB7.out.bl hb)
    clear h1 hb
    go_wp2_with fail
    go_loopg [114, 15, 16] hs1.length (fun g i v15 v16 wr => ∃ k : Nat, k ≤ hs1.length ∧ g = hs1.length - k ∧ i = .int .i64 k ∧ v15 = .bool false ∧ Hid (Bl w wr))
    case atStart => exact ⟨0, by omega, rfl, rfl, rfl, HB8⟩
    case round =>
      obtain ⟨k, hk, rfl, rfl, rfl, HB⟩ := hrel
      by_cases hlt : k < hs1.length
      · go_wp2_with fail
        go_roundg (hs1.length - (k + 1))
        case measure => omega
        case rel => exact ⟨k + 1, by omega, rfl, by go_num, rfl, HB⟩
      · go_wp2_with fail
        go_ret
        exact ⟨rfl, HB.out⟩
  | some t99 =>
    have HG := Lib.hid hg
    have hex : ∃ i, ∃ h : i < s.length, s[i].1 = 99 := by
      rcases findS_get s 99 with ⟨_, g2⟩ | ⟨i, hi, _, g2, _⟩
      · rw [hg] at g2; cases g2
      · exact ⟨i, hi, g2⟩
    obtain ⟨i0, hi0, he0⟩ := hex
    have hi1 : i0 < hs1.length := by have := HL.out; omega
    have HE0 := Lib.hid he0
    clear hg he0
    go_wp2_with fail
    refine (slength_any _ s 99 _ (HS.out.bl HB7.out) HOK.out.1.1.2).mono ?_
    rintro e w2 ⟨⟨_, h1⟩, hb⟩
    obtain rfl := h1 t99 HG.out
    have HB8 := Lib.hid (HB7.out.bl hb)
    clear h1 hb
    go_wp2_with fail
    go_loopg [114, 15, 16] hs1.length (fun g i v15 v16 wr => ∃ (k : Nat) (q : Bool), k ≤ hs1.length ∧ g = hs1.length - k ∧ i = .int .i64 k ∧ v15 = .bool q ∧ Hid (i0 < k → q = false) ∧ Hid (Bl w wr))
    case atStart => exact ⟨0, true, by omega, rfl, rfl, rfl, Lib.hid (fun h => by omega), HB8⟩
    case round =>
      obtain ⟨k, q, hk, rfl, rfl, rfl, HQ, HB⟩ := hrel
      by_cases hlt : k < hs1.length
      · have hks : k < s.length := by have := HL.out; omega
        obtain ⟨ad, rfl, c0, _⟩ := row_at (HA.out.bl HB.out) k hlt
        obtain ⟨_, hR⟩ := HR.out.at k (by rw [rowsOf_len]; exact hks)
        rw [hR.1, rowsOf_at s k hks] at c0
        have HC := Lib.hid (show k = i0 → s[k].1 = 99 from fun e => by subst e; exact HE0.out)
        clear hR
        generalize s[k].1 = x at *
        cases q with
        | false =>
          go_wp2_with fail
          go_roundg (hs1.length - (k + 1))
          case measure => omega
          case rel => exact ⟨k + 1, _, by omega, rfl, by go_num, rfl, Lib.hid (fun _ => rfl), HB⟩
        | true =>
          have hki : ¬ i0 < k := fun h => by have := HQ.out h; cases this
          by_cases hx : x = 99
          · subst hx
            go_wp2_with fail
            go_roundg (hs1.length - (k + 1))
            case measure => omega
            case rel => exact ⟨k + 1, _, by omega, rfl, by go_num, rfl, Lib.hid (fun _ => rfl), HB⟩
          · have hx1 : (x == 99) = false := by simpa using hx
            have hx2 : (x != 99) = true := by simpa using hx
            have HN := Lib.hid (show k ≠ i0 from fun e => hx (HC.out e))
            clear hx
            go_wp2_with fail
            go_roundg (hs1.length - (k + 1))
            case measure => omega
            case rel => exact ⟨k + 1, _, by omega, rfl, by go_num, rfl, Lib.hid (fun h => by have := HN.out; omega), HB⟩
      · have hq : q = false := HQ.out (by omega)
        subst hq
        go_wp2_with fail
        go_ret
        exact ⟨rfl, HB.out⟩
end Go.Proofs.Ytddcjekkimajpaa.ExtW

/- A block of flags: a store into it leaves every other datum as it is. No program in sight. -/
namespace Go.Ov
open Go.RowKit

def notB : Value → Bool
  | .bool _ => false
  | _ => true
/-- every cell that holds no flag stays -/
def KeepB (w w' : World) : Prop := ∀ a v, notB v = true → w.cell? a = some v → w'.cell? a = some v
theorem Blk.keepB {w : World} {B : Nat} {cs : Array Value} {T : TypeId} (h : Blk w B cs T) (hc : ∀ x ∈ cs, notB x = false) (j : Nat) (u : Value) : KeepB w (w.setCell ⟨B, j, none⟩ u) := by
  intro a v hv ha
  by_cases e : a.block = B
  · unfold World.cell? at ha
    rw [e] at ha
    unfold Blk at h
    rw [h] at ha
    dsimp only at ha
    split at ha
    · cases ha
    · have := hc v (Array.mem_of_getElem? ha)
      rw [hv] at this; cases this
  · rw [World.cell?_setCell_other (h := fun h => e (by rw [← h]))]; exact ha
section
variable {α : Type} {E : Enc α}
theorem Enc.At.kb {w w' : World} {A : Option Addr} {xs : List α} (hE : ∀ x u, u ∈ E.c x → notB u = true) (h : E.At w A xs) (hb : KeepB w w') : E.At w' A xs := fun i x hx => by
  obtain ⟨ad, e, hc⟩ := h i x hx
  exact ⟨ad, e, fun j u hu => hb _ _ (hE x u (List.mem_of_getElem? hu)) (hc j u hu)⟩
theorem Enc.Is.kb {w w' : World} {v : Value} {xs : List α} (hE : ∀ x u, u ∈ E.c x → notB u = true) (h : E.Is w v xs) (hb : KeepB w w') : E.Is w' v xs := by
  obtain ⟨A, c, e, hl, hm, hn, hA⟩ := h
  exact ⟨A, c, e, hl, hm, hn, hA.kb hE hb⟩
end
theorem int_nb (x : Int) (u : Value) (h : u ∈ intE.c x) : notB u = true := by simp [intE] at h; subst h; rfl
theorem ext_nb (x : Ext) (u : Value) (h : u ∈ extE.c x) : notB u = true := by change u ∈ Ext.vals x at h; simp only [Ext.vals, List.mem_cons, List.not_mem_nil, or_false] at h; rcases h with rfl | rfl | rfl | rfl | rfl <;> rfl
theorem node_nb (x : NH) (u : Value) (h : u ∈ nodeE.c x) : notB u = true := by simp [nodeE, Head.v] at h; rcases h with rfl | rfl | rfl <;> rfl
theorem track_nb (x : TH) (u : Value) (h : u ∈ trackE.c x) : notB u = true := by simp [trackE] at h; rcases h with rfl | rfl <;> rfl
theorem NodeR.kb {w w' : World} {n : NodeM} {h : NH} (hr : NodeR w n h) (hb : KeepB w w') : NodeR w' n h := by
  induction hr with
  | mk l f p a b c hs h1 h2 h3 h4 _ ih => exact .mk l f p a b c hs (h1.kb ext_nb hb) (h2.kb int_nb hb) (h3.kb node_nb hb) h4 ih
theorem TreeIs.kb {w w' : World} {v : Value} {t : TreeM} (h : TreeIs w v t) (hb : KeepB w w') : TreeIs w' v t := by
  obtain ⟨b, u, n, e, h0, h1, h2, h3, h4, h5⟩ := h
  exact ⟨b, u, n, e, hb _ _ rfl h0, hb _ _ rfl h1, hb _ _ rfl h2, hb _ _ rfl h3, h4.kb ext_nb hb, h5.kb hb⟩
theorem StateIs.kb {w w' : World} {v : Value} {s : StM} (h : StateIs w v s) (hb : KeepB w w') : StateIs w' v s := by
  obtain ⟨b, u, hs, e, h0, h1, h2⟩ := h
  exact ⟨b, u, hs, e, hb _ _ rfl h0, h1.kb track_nb hb, h2.1, fun i x y hx hy => ⟨(h2.2 i x y hx hy).1, (h2.2 i x y hx hy).2.kb hb⟩⟩
end Go.Ov

/- Histories as data; how they lie in memory; a store into a history's own block leaves states as they are. No program in sight. -/
namespace Go.Ov
open Go.RowKit

/-- a pointer to a block's start -/
def ptrE : Enc Nat := ⟨1, fun b => [.pointer (some ⟨b, 0, none⟩)], fun _ => rfl, fun x u h => by simp at h; subst h; rfl⟩
structure HistM where
  now : StM
  undo : List StM
  redo : List StM
/-- a row of pointers to states -/
def SRows (w : World) (bs : List Nat) (ss : List StM) : Prop := bs.length = ss.length ∧ ∀ (i : Nat) (s : StM) (b : Nat), ss[i]? = some s → bs[i]? = some b → StateIs w (.pointer (some ⟨b, 0, none⟩)) s
def isI : Value → Bool
  | .int _ _ => true
  | _ => false
/-- the cells of a history -/
def histC (n : Nat) (u r : Head) : Array Value := #[.pointer (some ⟨n, 0, none⟩), u.v, r.v]
/-- every cell outside a block stays -/
def KeepO (B : Nat) (w w' : World) : Prop := ∀ a v, a.block ≠ B → w.cell? a = some v → w'.cell? a = some v
theorem keepO_set (w : World) (B j : Nat) (u : Value) : KeepO B w (w.setCell ⟨B, j, none⟩ u) := by
  intro a v hv ha
  rw [World.cell?_setCell_other (h := fun h => hv (by rw [← h]))]; exact ha
theorem KeepO.bl {B : Nat} {w w1 w2 : World} (h : KeepO B w w1) (hb : Bl w1 w2) : KeepO B w w2 := fun a v hv ha => hb.cell (h a v hv ha)
theorem KeepO.trans {B : Nat} {w w1 w2 : World} (h : KeepO B w w1) (h2 : KeepO B w1 w2) : KeepO B w w2 := fun a v hv ha => h2 a v hv (h a v hv ha)
theorem hist_cell {w : World} {B n : Nat} {u r : Head} {T : TypeId} (h : Blk w B (histC n u r) T) {a : Addr} {v : Value} (ha : w.cell? a = some v) (e : a.block = B) :
    (a.off = 0 ∧ v = .pointer (some ⟨n, 0, none⟩)) ∨ (a.off = 1 ∧ v = u.v) ∨ (a.off = 2 ∧ v = r.v) := by
  unfold World.cell? at ha
  rw [e] at ha
  unfold Blk at h
  rw [h] at ha
  dsimp only at ha
  split at ha
  · cases ha
  · rcases (show a.off = 0 ∨ a.off = 1 ∨ a.off = 2 ∨ 3 ≤ a.off by omega) with e | e | e | e
    · rw [e] at ha; exact .inl ⟨e, (Option.some.inj ha).symm⟩
    · rw [e] at ha; exact .inr (.inl ⟨e, (Option.some.inj ha).symm⟩)
    · rw [e] at ha; exact .inr (.inr ⟨e, (Option.some.inj ha).symm⟩)
    · rw [Array.getElem?_eq_none (by simp [histC]; omega)] at ha; cases ha
theorem add_block (a : Addr) (k : Nat) : (a.add k).block = a.block := by unfold Addr.add; split <;> rfl
theorem int_ne {w : World} {B n : Nat} {u r : Head} {T : TypeId} (h : Blk w B (histC n u r) T) {a : Addr} {k : IntKind} {x : Int} (ha : w.cell? a = some (.int k x)) : a.block ≠ B := fun e => by
  rcases hist_cell h ha e with ⟨_, q⟩ | ⟨_, q⟩ | ⟨_, q⟩ <;> cases q
theorem atI_kh {w w' : World} {B n : Nat} {u r : Head} {T : TypeId} (h : Blk w B (histC n u r) T) (hk : KeepO B w w') {α : Type} {E : Enc α} {A : Option Addr} {xs : List α} (hE : ∀ x, ∃ k y, (E.c x)[0]? = some (.int k y)) (hA : E.At w A xs) : E.At w' A xs := fun i x hx => by
  obtain ⟨ad, e, hc⟩ := hA i x hx
  obtain ⟨k, y, h0⟩ := hE x
  have hne := int_ne h (hc 0 _ h0)
  rw [add_block] at hne
  exact ⟨ad, e, fun j v hv => hk _ _ (by rw [add_block]; exact hne) (hc j v hv)⟩
theorem isI_kh {w w' : World} {B n : Nat} {u r : Head} {T : TypeId} (h : Blk w B (histC n u r) T) (hk : KeepO B w w') {α : Type} {E : Enc α} {v : Value} {xs : List α} (hE : ∀ x, ∃ k y, (E.c x)[0]? = some (.int k y)) (hA : E.Is w v xs) : E.Is w' v xs := by
  obtain ⟨A, c, e, hl, hm, hn, hA⟩ := hA
  exact ⟨A, c, e, hl, hm, hn, atI_kh h hk hE hA⟩
theorem node_kh {w w' : World} {B n : Nat} {u r : Head} {T : TypeId} (h : Blk w B (histC n u r) T) (hk : KeepO B w w') {v : Value} {xs : List NH} (hA : nodeE.Is w v xs) : nodeE.Is w' v xs := by
  obtain ⟨A, c, e, hl, hm, hn, hA⟩ := hA
  refine ⟨A, c, e, hl, hm, hn, fun i x hx => ?_⟩
  obtain ⟨ad, e, hc⟩ := hA i x hx
  have h0 := hc 0 _ rfl
  have h2 := hc 2 _ rfl
  have hne : ad.block ≠ B := fun e => by
    have a0 := hist_cell h h0 (by rw [add_block]; exact e)
    have a2 := hist_cell h h2 (by rw [add_block]; exact e)
    have o0 : (ad.add (i * nodeE.sz + 0)).off = ad.off + (i * nodeE.sz + 0) := by unfold Addr.add; split <;> simp_all
    have o2 : (ad.add (i * nodeE.sz + 2)).off = ad.off + (i * nodeE.sz + 2) := by unfold Addr.add; split <;> simp_all
    rw [o0] at a0
    rw [o2] at a2
    have hz : ad.off + (i * nodeE.sz + 0) = 0 := by omega
    rcases a0 with ⟨_, q⟩ | ⟨q, _⟩ | ⟨q, _⟩
    · unfold Head.v at q; cases q
    · omega
    · omega
  exact ⟨ad, e, fun j v hv => hk _ _ (by rw [add_block]; exact hne) (hc j v hv)⟩
theorem nodeR_kh {w w' : World} {B n : Nat} {u r : Head} {T : TypeId} (h : Blk w B (histC n u r) T) (hk : KeepO B w w') {m : NodeM} {p : NH} (hr : NodeR w m p) : NodeR w' m p := by
  induction hr with
  | mk l f p a b c hs h1 h2 h3 h4 _ ih => exact .mk l f p a b c hs (isI_kh h hk (fun x => ⟨_, _, rfl⟩) h1) (isI_kh h hk (fun x => ⟨_, _, rfl⟩) h2) (node_kh h hk h3) h4 ih
theorem slice0_ne {w : World} {B n : Nat} {u r : Head} {T : TypeId} (h : Blk w B (histC n u r) T) {b : Nat} {q : Head} (ha : w.cell? ⟨b, 0, none⟩ = some q.v) : b ≠ B := fun e => by
  rcases hist_cell h ha e with ⟨_, q⟩ | ⟨q, _⟩ | ⟨q, _⟩
  · unfold Head.v at q; cases q
  · cases q
  · cases q
theorem tree_kh {w w' : World} {B n : Nat} {u r : Head} {T : TypeId} (h : Blk w B (histC n u r) T) (hk : KeepO B w w') {v : Value} {t : TreeM} (ht : TreeIs w v t) : TreeIs w' v t := by
  obtain ⟨b, u, n, e, h0, h1, h2, h3, h4, h5⟩ := ht
  have hne := slice0_ne h h0
  exact ⟨b, u, n, e, hk _ _ hne h0, hk _ _ hne h1, hk _ _ hne h2, hk _ _ hne h3, isI_kh h hk (fun x => ⟨_, _, rfl⟩) h4, nodeR_kh h hk h5⟩
theorem state_kh {w w' : World} {B n : Nat} {u r : Head} {T : TypeId} (h : Blk w B (histC n u r) T) (hk : KeepO B w w') {v : Value} {s : StM} (hs : StateIs w v s) : StateIs w' v s := by
  obtain ⟨b, u, hs, e, h0, h1, h2⟩ := hs
  have hne := slice0_ne h h0
  exact ⟨b, u, hs, e, hk _ _ hne h0, isI_kh h hk (fun x => ⟨_, _, rfl⟩) h1, h2.1, fun i x y hx hy => ⟨(h2.2 i x y hx hy).1, tree_kh h hk (h2.2 i x y hx hy).2⟩⟩
theorem srows_kh {w w' : World} {B n : Nat} {u r : Head} {T : TypeId} (h : Blk w B (histC n u r) T) (hk : KeepO B w w') {bs : List Nat} {ss : List StM} (hs : SRows w bs ss) : SRows w' bs ss := ⟨hs.1, fun i s b hx hy => state_kh h hk (hs.2 i s b hx hy)⟩
theorem SRows.bl {w w' : World} {bs : List Nat} {ss : List StM} (h : SRows w bs ss) (hb : Bl w w') : SRows w' bs ss := ⟨h.1, fun i s b hx hy => (h.2 i s b hx hy).bl hb⟩
theorem SRows.nil (w : World) : SRows w [] [] := ⟨rfl, fun i s b hx => by simp at hx⟩
theorem SRows.take {w : World} {bs : List Nat} {ss : List StM} (h : SRows w bs ss) (k : Nat) : SRows w (bs.take k) (ss.take k) := by
  refine ⟨by simp [h.1], fun i x y hx hy => ?_⟩
  rw [List.getElem?_take] at hx hy
  split at hx
  · rename_i hi
    rw [if_pos hi] at hy
    exact h.2 i x y hx hy
  · cases hx
theorem SRows.drop {w : World} {bs : List Nat} {ss : List StM} (h : SRows w bs ss) (k : Nat) : SRows w (bs.drop k) (ss.drop k) :=
  ⟨by simp [h.1], fun i x y hx hy => h.2 (k + i) x y (by rw [List.getElem?_drop] at hx; exact hx) (by rw [List.getElem?_drop] at hy; exact hy)⟩
theorem SRows.snoc {w : World} {bs : List Nat} {ss : List StM} {b : Nat} {s : StM} (h : SRows w bs ss) (hs : StateIs w (.pointer (some ⟨b, 0, none⟩)) s) : SRows w (bs ++ [b]) (ss ++ [s]) := by
  refine ⟨by simp [h.1], fun i x y hx hy => ?_⟩
  have hl := h.1
  by_cases hi : i < ss.length
  · rw [List.getElem?_append_left hi] at hx
    rw [List.getElem?_append_left (by omega)] at hy
    exact h.2 i x y hx hy
  · rw [List.getElem?_append_right (by omega)] at hx hy
    have : i - ss.length = 0 := by
      have := (List.getElem?_eq_some_iff.1 hx).1
      simp at this; omega
    rw [this] at hx
    rw [show i - bs.length = 0 by omega] at hy
    simp at hx hy; subst hx; subst hy; exact hs
/-- what the package does -/
def pushL (l : List StM) (s : StM) : List StM := (l ++ [s]).drop (l.length + 1 - 4)
def lastOf (l : List StM) : StM := l.getLastD []
def undoH (h : HistM) : HistM × Int := if h.undo = [] then (h, 5) else (⟨lastOf h.undo, h.undo.dropLast, pushL h.redo h.now⟩, 0)
def redoH (h : HistM) : HistM × Int := if h.redo = [] then (h, 5) else (⟨lastOf h.redo, pushL h.undo h.now, h.redo.dropLast⟩, 0)
end Go.Ov

/- Contracts of package history: push, Now, Undo, Redo, New. -/
namespace Go.Ov
open Go.RowKit
/-- a row of pointers that lies behind a block -/
def FarIs (base : Nat) (w : World) (v : Value) (bs : List Nat) : Prop := ptrE.Is w v bs ∧ ∀ A n c, v = .slice A n c → ∀ ad, A = some ad → base ≤ ad.block
theorem FarIs.bl {base : Nat} {w w' : World} {v : Value} {bs : List Nat} (h : FarIs base w v bs) (hb : Bl w w') : FarIs base w' v bs := ⟨h.1.bl hb, h.2⟩
theorem FarIs.low {base base' : Nat} {w : World} {v : Value} {bs : List Nat} (h : FarIs base w v bs) (hb : base' ≤ base) : FarIs base' w v bs := ⟨h.1, fun A n c e ad q => Nat.le_trans hb (h.2 A n c e ad q)⟩
theorem FarIs.nil (base : Nat) (w : World) : FarIs base w (.slice none 0 0) [] := ⟨Enc.Is.nil _, fun A n c e ad q => by simp at e; rw [← e.1] at q; cases q⟩
theorem FarIs.own {E : TypeId} {base : Nat} {w : World} {v : Value} {bs : List Nat} (h : ptrE.Own E w base v bs) : FarIs base w v bs := by
  refine ⟨h.is, fun A n c e ad q => ?_⟩
  subst e; subst q
  rcases h.parts with ⟨e, _⟩ | ⟨g, c', e, _⟩
  · cases e
  · simp at e
    obtain ⟨rfl, _⟩ := e
    exact (h.lt g rfl).1
theorem FarIs.sub {base : Nat} {w : World} {A : Option Addr} {c : Nat} {bs : List Nat} (h : FarIs base w (.slice A bs.length c) bs) (lo hi : Nat) (h1 : lo ≤ hi) (h2 : hi ≤ bs.length) : FarIs base w (sliced A lo hi c 1) ((bs.take hi).drop lo) := by
  refine ⟨h.1.sub lo hi h1 h2, fun A' n' c' e ad q => ?_⟩
  unfold sliced at e
  cases A with
  | none =>
    obtain ⟨_, _, _, _, _, h3, _⟩ := id h.1
    split at e
    · simp at e; rw [← e.1] at q; cases q
    · simp at e; rw [← e.1] at q; cases q
  | some a =>
    have ha := h.2 _ _ _ rfl a rfl
    split at e
    · simp at e; rw [← e.1] at q; cases q; exact ha
    · simp at e; rw [← e.1] at q; cases q; rw [add_block]; exact ha
/-- a history in block B; its rows lie behind it -/
def HistIs (T : TypeId) (w : World) (B : Nat) (m : HistM) : Prop := ∃ (n : Nat) (u r : Head) (us rs : List Nat), Blk w B (histC n u r) T ∧ StateIs w (.pointer (some ⟨n, 0, none⟩)) m.now ∧
  FarIs (B + 1) w u.v us ∧ FarIs (B + 1) w r.v rs ∧ SRows w us m.undo ∧ SRows w rs m.redo
theorem HistIs.bl {T : TypeId} {w w' : World} {B : Nat} {m : HistM} (h : HistIs T w B m) (hb : Bl w w') : HistIs T w' B m := by
  obtain ⟨n, u, r, us, rs, h0, h1, h2, h3, h4, h5⟩ := h
  exact ⟨n, u, r, us, rs, h0.bl hb, h1.bl hb, h2.bl hb, h3.bl hb, h4.bl hb, h5.bl hb⟩
theorem FarIs.keepO {B : Nat} {w w' : World} {v : Value} {bs : List Nat} (h : FarIs (B + 1) w v bs) (hk : KeepO B w w') : FarIs (B + 1) w' v bs := by
  obtain ⟨⟨A, c, e, h1, h2, h3, hA⟩, hf⟩ := h
  refine ⟨⟨A, c, e, h1, h2, h3, fun i x hx => ?_⟩, hf⟩
  obtain ⟨ad, e2, hc⟩ := hA i x hx
  have := hf _ _ _ e ad e2
  exact ⟨ad, e2, fun j u hu => hk _ _ (by rw [add_block]; omega) (hc j u hu)⟩
end Go.Ov
namespace Go.Proofs.Ytddcjekkimajpaa.ExtW
open Go.RowKit Go.Ov Go.Proofs.Ytddcjekkimajpaa.Need

theorem infoPtr : (Try.prog.info? 23).map (fun i => (i.zero, i.size, i.bytes)) = some (some (.pointer none), 1, 8) := by kernel_rfl

set_option maxHeartbeats 1000000 in
theorem hclone_any (v : Value) (hs : List Nat) (w : World) (h : ptrE.Is w v hs) (hn : hs.length ≤ 1000000) :
    Calls Try.prog 50 #[v] w fun e w' => ∃ u, e = .returned u ∧ ptrE.Own 23 w' w.heap.size u hs ∧ Bl w w' := by
  have HH := Lib.hid h
  obtain ⟨A, c, rfl, h1, h2, h3, h4⟩ := h
  have hE := fun w => Lib.run_eql_slice_nil (P := Try.prog) w 56 23 A hs.length c 0 0 Try.underlying56
  cases A with
  | none =>
    have hc : c = 0 := h3 rfl
    have hl : hs = [] := List.eq_nil_of_length_eq_zero (by omega)
    subst hc; subst hl
    clear h4 h3 h2 h1 hE
    have hE := fun w => Lib.run_eql_slice_nil (P := Try.prog) w 56 23 none 0 0 0 0 Try.underlying56
    go_enter Try.func50, Try.ntmps50
    go_wp2_with fail
    go_ret
    exact ⟨_, rfl, Enc.Own.nil _ _ _, Bl.refl _⟩
  | some ad =>
    clear h4 h3 h2 h1
    go_enter Try.func50, Try.ntmps50
    go_wp2_with (at_builtin; refine Enc.Own.append (E := ptrE) rfl (.tmp 5) (.tmp 6) 56 rfl w.heap.size 23 (.pointer none) 1 8 Try.underlying56 infoPtr rfl rfl (by decide) (by decide) (.slice (some ⟨w.heap.size, 0, none⟩) 0 0) [] rfl (Enc.Own.lit w w.heap.size [] #[] rfl 0 rfl (Nat.le_refl _) (by decide) rfl) (.slice (some ad) hs.length c) hs rfl (HH.out.bl ((Bl.refl _).alloc _)) ?hlen ?hb ?_; (case hlen => simp; omega); (case hb => exact ((Bl.refl w).alloc _).size); intro v1 w1 ho hg)
    go_ret
    exact ⟨_, rfl, by simpa using ho, ((Bl.refl _).alloc _).grown hg (fun k hk => by simp [Value.ownBlock] at hk; omega)⟩

set_option maxHeartbeats 1000000 in
theorem hpush_any (v : Value) (bs : List Nat) (b : Nat) (w : World) (h : ptrE.Is w v bs) (hn : bs.length ≤ 4) :
    Calls Try.prog 49 #[v, .pointer (some ⟨b, 0, none⟩)] w fun e w' => ∃ u, e = .returned u ∧ FarIs w.heap.size w' u ((bs ++ [b]).drop (bs.length + 1 - 4)) ∧ Bl w w' := by
  have HH := Lib.hid h
  clear h
  go_enter Try.func49, Try.ntmps49
  go_wp2_with fail
  refine (hclone_any _ _ _ HH.out (by omega)).mono ?_
  rintro e w1 ⟨u, rfl, ho, hb⟩
  obtain ⟨A, c, rfl⟩ := id ho.slice
  have HO := Lib.hid ho
  have HB := Lib.hid hb
  clear ho hb
  go_wp2_with (at_builtin; refine Enc.Own.append1 (E := ptrE) rfl (.tmp 6) (.tmp 8) 56 rfl w.heap.size 23 (.pointer none) 1 8 Try.underlying56 infoPtr rfl rfl (by decide) (by decide) (.slice A bs.length c) bs rfl HO.out b _ rfl rfl rfl ?hlen ?hbase ?_; (case hlen => omega); (case hbase => exact HB.out.size); intro v1 w4 ho hg; obtain ⟨A5, c5, rfl⟩ := ho.slice)
  all_goals
    have hk : (max 0 ((bs.length : Int) + 1 - 4)).toNat = bs.length - 3 := by omega
    have fi := (FarIs.own ho).sub (bs.length - 3) (bs.length + 1) (by omega) (by simp)
    rw [List.take_of_length_le (by simp)] at fi
    have hB2 := ((HB.out).alloc _).grown hg (fun k hk => (HO.out.lt k hk).1)
    rw [hk] at h ⊢
    unfold sliced at fi
    first | rw [if_neg h] at fi | rw [if_pos h] at fi
    go_ret
    refine ⟨_, rfl, ?_, hB2⟩
    try rw [h] at fi
    simpa using fi

theorem ptr_at {w : World} {A : Option Addr} {xs : List Nat} (h : ptrE.At w A xs) (k : Nat) (hk : k < xs.length) : ∃ ad, A = some ad ∧ w.cell? (ad.add k) = some (.pointer (some ⟨xs[k], 0, none⟩)) := by
  obtain ⟨ad, e, hc⟩ := h k _ (List.getElem?_eq_getElem hk)
  exact ⟨ad, e, by simpa [ptrE] using hc 0 _ rfl⟩

set_option maxHeartbeats 1000000 in
theorem hturn_any (v v' : Value) (bs cs : List Nat) (b : Nat) (w : World) (h : ptrE.Is w v bs) (h' : ptrE.Is w v' cs) (h0 : 0 < bs.length) (hn : bs.length ≤ 4) (hn' : cs.length ≤ 4) :
    Calls Try.prog 48 #[v, v', .pointer (some ⟨b, 0, none⟩)] w fun e w' => ∃ u1 u2, e = .returned (.tuple #[u1, u2, .pointer (some ⟨bs[bs.length - 1]'(by omega), 0, none⟩)]) ∧ FarIs w.heap.size w' u1 (bs.take (bs.length - 1)) ∧
      FarIs w.heap.size w' u2 ((cs ++ [b]).drop (cs.length + 1 - 4)) ∧ Bl w w' := by
  have HF := Lib.hid h
  have HT := Lib.hid h'
  obtain ⟨A, c, rfl, h1, h2, h3, h4⟩ := h
  obtain ⟨A', c', rfl, _⟩ := h'
  obtain ⟨ad, rfl, hc⟩ := ptr_at h4 (bs.length - 1) (by omega)
  obtain ⟨V, hV, hI⟩ := slice_h (E := ptrE) (P := Try.prog) (t := 56) (by kernel_rfl) (fun w => by kernel_rfl) (some ad) c bs ((bs.length : Int) - 1) (by omega) (by omega) h1
  have hI1 := Lib.hid hI
  generalize bs[bs.length - 1] = bl at *
  have hz : ((bs.length : Int) - 1).toNat = bs.length - 1 := by omega
  have hz1 : (0 : Int) ≤ (bs.length : Int) - 1 := by omega
  have hz2 : (bs.length : Int) - 1 < bs.length := by omega
  have hz3 : (1 : Int) ≤ bs.length := by omega
  clear h2 h3 h4 hI
  go_enter Try.func48, Try.ntmps48
  go_wp2_with fail
  refine wp_region_ways (S := (fun w' => w'.cell? (ad.add (bs.length - 1)) = some (.pointer (some ⟨bl, 0, none⟩)))) [0, 1, 2, 4, 5, 7, 8, 9, 10, 11, 12, 13] (y := .take 0 (.take 1 (.take 2 (.take 4 (.take 5 (.take 7 (.take 8 (.take 9 (.take 10 (.ev 3 (.ev 6 (.take 11 (.take 12 (.take 13 (.done)))) (.stop)) (.stop))))))))))) (by kernel_rfl) (by kernel_rfl) (by kernel_rfl) ?_ (fun hHeld => ?_)
  · exact ((Bl.refl w).drew).cell hc
  have HH := Lib.hid hHeld
  repeat (first | (refine wpWay_take rfl (by rfl) (by intro w hSw; (try dsimp only at hSw); first | (go_simp; done) | (go_simp; with_reducible rfl)) ?_; try simp only [Act.put, List.setIfInBounds_toArray, List.set_cons_zero, List.set_cons_succ]) | (refine wpWay_skip rfl (by rfl) ?_; try simp only [Act.put, List.setIfInBounds_toArray, List.set_cons_zero, List.set_cons_succ]))
  clear hHeld
  refine wpWay_ev rfl (fun K hK => ?_) wpWay_stop
  have HV := Lib.hid (hI1.out _ (HF.out.bl (Bl.refl w).drew))
  rw [hz] at HV
  go_wp2_with fail
  refine (hclone_any _ _ _ HV.out (by simp; omega)).mono ?_
  rintro e w1 ⟨u1, rfl, ho, hb⟩
  obtain ⟨A1, c1, rfl⟩ := id ho.slice
  have hfo := (FarIs.own ho).low (base' := w.heap.size) (Nat.le_refl _)
  generalize hn1 : (bs.take (bs.length - 1)).length = n1 at *
  have HO := Lib.hid hfo
  clear hn1 hfo
  have HB := Lib.hid ((Bl.refl w).drew.bl hb)
  replace HH := Lib.hid (hb.cell HH.out)
  clear ho hb
  go_wp2_with fail
  refine ⟨HH.out, ?_⟩
  repeat (first | (refine wpWay_take rfl (by rfl) (by intro w hSw; (try dsimp only at hSw); first | (go_simp; done) | (go_simp; with_reducible rfl)) ?_; try simp only [Act.put, List.setIfInBounds_toArray, List.set_cons_zero, List.set_cons_succ]) | (refine wpWay_skip rfl (by rfl) ?_; try simp only [Act.put, List.setIfInBounds_toArray, List.set_cons_zero, List.set_cons_succ]))
  refine wpWay_ev rfl (fun K hK => ?_) wpWay_stop
  go_wp2_with fail
  refine (hpush_any _ cs b _ (HT.out.bl HB.out) hn').mono ?_
  rintro e w2 ⟨u2, rfl, hf, hb⟩
  obtain ⟨A2, c2, e2, hf1⟩ := id hf.1
  subst e2
  clear hf1
  replace hf := hf.low HB.out.size
  generalize hn2 : ((cs ++ [b]).drop (cs.length + 1 - 4)).length = n2 at *
  have HF2 := Lib.hid hf
  clear hf hn2
  replace HH := Lib.hid (hb.cell HH.out)
  go_wp2_with fail
  refine ⟨HH.out, ?_⟩
  repeat (first | (refine wpWay_take rfl (by rfl) (by intro w hSw; (try dsimp only at hSw); first | (go_simp; done) | (go_simp; with_reducible rfl)) ?_; try simp only [Act.put, List.setIfInBounds_toArray, List.set_cons_zero, List.set_cons_succ]) | (refine wpWay_skip rfl (by rfl) ?_; try simp only [Act.put, List.setIfInBounds_toArray, List.set_cons_zero, List.set_cons_succ]))
  refine wpWay_done ?_
  go_wp2_with fail
  go_ret3
  exact ⟨_, _, rfl, HO.out.bl hb, HF2.out, HB.out.bl hb⟩

set_option maxHeartbeats 1000000 in
theorem hnew_any (w : World) : Calls Try.prog 22 #[] w fun e w' => ∃ B, e = .returned (.pointer (some ⟨B, 0, none⟩)) ∧ w.heap.size ≤ B ∧ HistIs 95 w' B ⟨[], [], []⟩ ∧ Bl w w' := by
  have hu := Try.underlying95
  go_enter Try.func22, Try.ntmps22
  go_wp2_with fail
  refine (snew_any _).mono ?_
  rintro e w1 ⟨u, rfl, hs, hb⟩
  obtain ⟨b0, _, _, rfl, _⟩ := id hs
  go_wp2_with fail
  go_ret
  exact ⟨_, rfl, hb.size, ⟨b0, nilH, nilH, [], [], Blk.new _ _ _, hs.bl ((Bl.refl _).alloc _), FarIs.nil _ _, FarIs.nil _ _, SRows.nil _, SRows.nil _⟩, hb.alloc _⟩

set_option maxHeartbeats 1000000 in
theorem hnow_any (B : Nat) (m : HistM) (w : World) (h : HistIs 95 w B m) :
    Calls Try.prog 25 #[.pointer (some ⟨B, 0, none⟩)] w fun e w' => ∃ u, e = .returned u ∧ StateIs w u m.now ∧ w = w' := by
  obtain ⟨n, u, r, us, rs, h0, h1, _⟩ := h
  have H1 := Lib.hid h1
  have c0 := h0.cell 0
  simp [histC] at c0
  have hu := Try.underlying95
  clear h0 h1
  go_enter Try.func25, Try.ntmps25
  go_wp2_with fail
  go_ret
  exact ⟨_, rfl, H1.out, rfl⟩

set_option maxHeartbeats 1000000 in
theorem hundo_any (B : Nat) (m : HistM) (w : World) (h : HistIs 95 w B m) (hn : m.undo.length ≤ 4) :
    Calls Try.prog 26 #[.pointer (some ⟨B, 0, none⟩)] w fun e w' => ∃ u us, e = .returned u ∧ ptrE.Own 23 w' w.heap.size u us ∧ SRows w' us m.undo ∧ Bl w w' := by
  obtain ⟨n, u, r, us, rs, h0, _, hu1, hr1, hu2, hr2⟩ := h
  have H1 := Lib.hid hu1.1
  have H2 := Lib.hid hu2
  have hl := hu2.1
  have c0 := h0.cell 1
  simp [histC, Head.v] at c0
  have hu := Try.underlying95
  have HN := Lib.hid hn
  clear h0 hu1 hr1 hu2 hr2 hn
  have HL := Lib.hid hl
  clear hl
  go_enter Try.func26, Try.ntmps26
  go_wp2_with fail
  refine (hclone_any _ _ _ H1.out (by have := HL.out; have := HN.out; omega)).mono ?_
  rintro e w1 ⟨q, rfl, ho, hb⟩
  obtain ⟨A, c, rfl⟩ := id ho.slice
  go_wp2_with fail
  go_ret
  exact ⟨_, _, rfl, ho, H2.out.bl hb, hb⟩
set_option maxHeartbeats 1000000 in
theorem hredo_any (B : Nat) (m : HistM) (w : World) (h : HistIs 95 w B m) (hn : m.redo.length ≤ 4) :
    Calls Try.prog 27 #[.pointer (some ⟨B, 0, none⟩)] w fun e w' => ∃ u us, e = .returned u ∧ ptrE.Own 23 w' w.heap.size u us ∧ SRows w' us m.redo ∧ Bl w w' := by
  obtain ⟨n, u, r, us, rs, h0, _, hu1, hr1, hu2, hr2⟩ := h
  have H1 := Lib.hid hr1.1
  have H2 := Lib.hid hr2
  have hl := hr2.1
  have c0 := h0.cell 2
  simp [histC, Head.v] at c0
  have hu := Try.underlying95
  have HN := Lib.hid hn
  clear h0 hu1 hr1 hu2 hr2 hn
  have HL := Lib.hid hl
  clear hl
  go_enter Try.func27, Try.ntmps27
  go_wp2_with fail
  refine (hclone_any _ _ _ H1.out (by have := HL.out; have := HN.out; omega)).mono ?_
  rintro e w1 ⟨q, rfl, ho, hb⟩
  obtain ⟨A, c, rfl⟩ := id ho.slice
  go_wp2_with fail
  go_ret
  exact ⟨_, _, rfl, ho, H2.out.bl hb, hb⟩
end Go.Proofs.Ytddcjekkimajpaa.ExtW

/- StatePlays: a state, its rows, and the elder ones, beside two rows that grow in place. -/
namespace Go.Ov
open Go.RowKit
/-- these blocks, as far as there are any now -/
def cap (G : Nat → Bool) (w : World) : Nat → Bool := fun b => G b && decide (b < w.heap.size)
theorem Sub.cap (w : World) (G : Nat → Bool) : Sub (only w G) (only w (cap G w)) := fun ad v h => by
  obtain ⟨h1, h2⟩ := only_cell h
  exact cell_only (by simp [Go.Ov.cap, h1, World.block_lt_of_cell? w ad h2]) h2
theorem cap_no {G : Nat → Bool} {w : World} {k : Nat} (h : G k = false ∨ w.heap.size ≤ k) : cap G w k = false := by
  unfold cap
  rcases h with h | h
  · rw [h]; rfl
  · simp; intro _; exact h
theorem Sub.push {wr w' : World} {G : Nat → Bool} {o : Obj} {row : Option Nat} (hg : (wr.alloc o).grownBy w' row) (hr : ∀ k, row = some k → G k = false) : Sub (only wr G) (only w' (Go.Ov.cap G wr)) :=
  ((Sub.cap wr G).trans (Sub.bl (((Bl.refl wr).alloc o).only _))).trans (Sub.grown hg fun k hk => cap_no (.inl (hr k hk)))
end Go.Ov
namespace Go.Proofs.Ytddcjekkimajpaa.ExtW
open Go.RowKit Go.Ov Go.Proofs.Ytddcjekkimajpaa.Need

structure PlayR (w wr : World) (G : Nat → Bool) (v5 v6 v7 v8 : Value) (s : StM) (us : List Nat) (hs : List Head) (S : List StM) (a b : Nat) : Prop where
  st : StateIs (only wr G) v5 s
  ln : LnIs (only wr G) v6 (rowsOf s)
  o7 : ptrE.Own 23 wr w.heap.size v7 us
  o8 : headE.Own 62 wr w.heap.size v8 hs
  l7 : us.length = S.length + a
  l8 : hs.length = S.length + b
  each : ∀ (j : Nat) (x : StM) (u : Nat) (h : Head), S[j]? = some x → us[j]? = some u → hs[j]? = some h → StateIs (only wr G) (.pointer (some ⟨u, 0, none⟩)) x ∧ LnIs (only wr G) h.v (rowsOf x) ∧ SOT x
  g7 : ∀ k, v7.ownBlock = some k → G k = false
  g8 : ∀ k, v8.ownBlock = some k → G k = false
  sep : v7.ownBlock = none ∨ v7.ownBlock ≠ v8.ownBlock
  b : Bl w wr
  ok : SOT s
section
variable {w wr : World} {G : Nat → Bool} {v5 v6 v7 v8 : Value} {s : StM} {us : List Nat} {hs : List Head} {S : List StM} {a b : Nat}
theorem PlayR.sub (h : PlayR w wr G v5 v6 v7 v8 s us hs S a b) {wr' : World} {G' : Nat → Bool} (hs' : Sub (only wr G) (only wr' G')) (hb : Bl wr wr') (h7 : ∀ k, v7.ownBlock = some k → G' k = false) (h8 : ∀ k, v8.ownBlock = some k → G' k = false) : PlayR w wr' G' v5 v6 v7 v8 s us hs S a b :=
  ⟨hs'.state h.st, LnIs.sub hs' h.ln, h.o7.bl hb, h.o8.bl hb, h.l7, h.l8, fun j x u q h1 h2 h3 => by obtain ⟨e1, e2, e3⟩ := h.each j x u q h1 h2 h3; exact ⟨hs'.state e1, LnIs.sub hs' e2, e3⟩, h7, h8, h.sep, h.b.bl hb, h.ok⟩
theorem PlayR.bl (h : PlayR w wr G v5 v6 v7 v8 s us hs S a b) {wr' : World} (hb : Bl wr wr') : PlayR w wr' G v5 v6 v7 v8 s us hs S a b := h.sub (Sub.bl (hb.only G)) hb h.g7 h.g8
theorem PlayR.gor (h : PlayR w wr G v5 v6 v7 v8 s us hs S a b) {w2 : World} (h2 : Bl wr w2) {wr' : World} (hb : Bl w2 wr') : PlayR w wr' (gor G w2) v5 v6 v7 v8 s us hs S a b :=
  h.sub ((Sub.bl ((h2.bl hb).only G)).trans (Sub.mono (gor_l G w2))) (h2.bl hb)
    (fun k hk => by have := (h.o7.lt k hk).2; have := h2.size; unfold Go.Ov.gor; rw [h.g7 k hk]; simp; omega)
    (fun k hk => by have := (h.o8.lt k hk).2; have := h2.size; unfold Go.Ov.gor; rw [h.g8 k hk]; simp; omega)
theorem PlayR.turn (h : PlayR w wr G v5 v6 v7 v8 s us hs S a b) {v5' v6' : Value} {s' : StM} (h1 : StateIs (only wr G) v5' s') (h2 : LnIs (only wr G) v6' (rowsOf s')) (h3 : SOT s') : PlayR w wr G v5' v6' v7 v8 s' us hs S a b :=
  ⟨h1, h2, h.o7, h.o8, h.l7, h.l8, h.each, h.g7, h.g8, h.sep, h.b, h3⟩
theorem PlayR.push7 (h : PlayR w wr G v5 v6 v7 v8 s us hs S a b) {w' : World} {v7' : Value} {u : Nat} {o : Obj} (ho : ptrE.Own 23 w' w.heap.size v7' (us ++ [u])) (hg : (wr.alloc o).grownBy w' v7.ownBlock) (hl : Lies (wr.alloc o) v7.ownBlock v7'.ownBlock) :
    PlayR w w' (cap G wr) v5 v6 v7' v8 s (us ++ [u]) hs S (a + 1) b := by
  have hS := Sub.push hg h.g7
  have ha := (Bl.refl wr).alloc o
  have hsz := ha.size
  refine ⟨hS.state h.st, LnIs.sub hS h.ln, ho, (h.o8.bl ha).grown hg ?_, by have := h.l7; simp; omega, h.l8, fun j x u' q h1 h2 h3 => ?_, ?_, fun k hk => cap_no (.inl (h.g8 k hk)), ?_, (h.b.bl ha).grown hg (fun k hk => (h.o7.lt k hk).1), h.ok⟩
  · rcases h.sep with e | e
    · cases h8 : v8.ownBlock with
      | none => exact .inl rfl
      | some k => exact .inr (by rw [e]; simp)
    · exact .inr fun q => e q.symm
  · have hj := (List.getElem?_eq_some_iff.1 h1).1
    rw [List.getElem?_append_left (by have := h.l7; omega)] at h2
    obtain ⟨e1, e2, e3⟩ := h.each j x u' q h1 h2 h3
    exact ⟨hS.state e1, LnIs.sub hS e2, e3⟩
  · intro k hk
    rcases hl with e | ⟨g, e, hge⟩
    · exact cap_no (.inl (h.g7 k (by rw [← e]; exact hk)))
    · rw [e] at hk; injection hk with hk; exact cap_no (.inr (by omega))
  · rcases hl with e | ⟨g, e, hge⟩
    · rw [e]; exact h.sep
    · refine .inr fun q => ?_
      rw [e] at q
      have := (h.o8.lt g q.symm).2
      omega
theorem PlayR.push8 (h : PlayR w wr G v5 v6 v7 v8 s us hs S a b) {w' : World} {v8' : Value} {u : Head} {o : Obj} (ho : headE.Own 62 w' w.heap.size v8' (hs ++ [u])) (hg : (wr.alloc o).grownBy w' v8.ownBlock) (hl : Lies (wr.alloc o) v8.ownBlock v8'.ownBlock) :
    PlayR w w' (cap G wr) v5 v6 v7 v8' s us (hs ++ [u]) S a (b + 1) := by
  have hS := Sub.push hg h.g8
  have ha := (Bl.refl wr).alloc o
  have hsz := ha.size
  refine ⟨hS.state h.st, LnIs.sub hS h.ln, (h.o7.bl ha).grown hg ?_, ho, h.l7, by have := h.l8; simp; omega, fun j x u' q h1 h2 h3 => ?_, fun k hk => cap_no (.inl (h.g7 k hk)), ?_, ?_, (h.b.bl ha).grown hg (fun k hk => (h.o8.lt k hk).1), h.ok⟩
  · exact h.sep
  · have hj := (List.getElem?_eq_some_iff.1 h1).1
    rw [List.getElem?_append_left (by have := h.l8; omega)] at h3
    obtain ⟨e1, e2, e3⟩ := h.each j x u' q h1 h2 h3
    exact ⟨hS.state e1, LnIs.sub hS e2, e3⟩
  · intro k hk
    rcases hl with e | ⟨g, e, hge⟩
    · exact cap_no (.inl (h.g8 k (by rw [← e]; exact hk)))
    · rw [e] at hk; injection hk with hk; exact cap_no (.inr (by omega))
  · rcases hl with e | ⟨g, e, hge⟩
    · rw [e]; exact h.sep
    · rw [e]
      cases h7 : v7.ownBlock with
      | none => exact .inl rfl
      | some k =>
        refine .inr fun q => ?_
        injection q with q
        have := (h.o7.lt k h7).2
        omega
theorem PlayR.done {u : Nat} {q : Head} (h : PlayR w wr G (.pointer (some ⟨u, 0, none⟩)) q.v v7 v8 s (us ++ [u]) (hs ++ [q]) S 1 1) (l7 : us.length = S.length) (l8 : hs.length = S.length) {v5' v6' : Value} {s' : StM} (h1 : StateIs (only wr G) v5' s') (h2 : LnIs (only wr G) v6' (rowsOf s')) (h3 : SOT s') :
    PlayR w wr G v5' v6' v7 v8 s' (us ++ [u]) (hs ++ [q]) (S ++ [s]) 0 0 := by
  refine ⟨h1, h2, h.o7, h.o8, by simp; omega, by simp; omega, fun j x u' q' g1 g2 g3 => ?_, h.g7, h.g8, h.sep, h.b, h3⟩
  by_cases hj : j < S.length
  · rw [List.getElem?_append_left hj] at g1
    exact h.each j x u' q' g1 g2 g3
  · have hlt := (List.getElem?_eq_some_iff.1 g1).1
    have : j = S.length := by simp at hlt; omega
    subst this
    rw [List.getElem?_append_right (Nat.le_refl _)] at g1
    rw [List.getElem?_append_right (by omega), l7] at g2
    rw [List.getElem?_append_right (by omega), l8] at g3
    simp at g1 g2 g3
    subst g1; subst g2; subst g3
    exact ⟨h.st, h.ln, h.ok⟩
end
theorem infoLines : (Try.prog.info? 62).map (fun i => (i.zero, i.size, i.bytes)) = some (some (.slice none 0 0), 1, 24) := by kernel_rfl
theorem SOT.nil : SOT [] := ⟨SOK.nil, fun t h => by cases h⟩
theorem SOT.put {s : StM} (h : SOT s) {id : Int} {l : List Ext} (hv : validFrom 0 l = true) (hz : (putR s id (treeM l)).2 = 0) : SOT (putR s id (treeM l)).1 := by
  refine ⟨h.1.put hv hz, fun t ht => ?_⟩
  unfold putR at *
  split at hz
  · cases hz
  · rename_i hb
    rw [if_neg hb] at ht
    split at hz
    · cases hz
    · rename_i hl
      rw [if_neg hl] at ht
      rcases put_mem ht with rfl | ht
      · exact ⟨rfl, by simp; omega⟩
      · exact h.2 t ht
theorem SOT.apply {s : StM} (h : SOT s) {r : Rec} (hz : (applyR s r).2 = 0) : SOT (applyR s r).1 := by
  refine ⟨h.1.apply hz, ?_⟩
  unfold applyR at *
  split at hz
  · cases hz
  · rename_i h0
    rw [if_neg h0]
    split at hz
    · rename_i h1
      rw [if_pos h1]
      split at hz
      · cases hz
      · rename_i h2
        rw [if_neg h2]
        exact (h.put rfl hz).2
    · rename_i h1
      rw [if_neg h1]
      cases hg : getS s r.track with
      | none => simp only [hg] at hz; cases hz
      | some t =>
        simp only [hg] at hz ⊢
        have hv : validFrom 0 t.row = true := by
          rcases findS_get s r.track with ⟨_, g2⟩ | ⟨i, hi, _, _, g3⟩
          · rw [hg] at g2; cases g2
          · rw [hg] at g3; injection g3 with g3; rw [g3]; exact h.1.1.2 s[i] (List.getElem_mem hi)
        unfold applyT at *
        split at hz
        · rename_i h2
          rw [if_pos h2]; exact fun t ht => h.2 t (List.mem_filter.1 ht).1
        · rename_i h2
          rw [if_neg h2]
          split at hz
          · cases hz
          · rename_i h3
            rw [if_neg h3]
            by_cases h4 : (spliceOf t r).2 = 0
            · rw [if_pos h4] at hz ⊢
              exact (h.put (splice_row_valid hv h4) hz).2
            · rw [if_neg h4] at hz
              exact absurd hz h4
end Go.Proofs.Ytddcjekkimajpaa.ExtW

/- Contract of overdublaw21.Small: it gives a record. -/
namespace Go.Proofs.Ytddcjekkimajpaa.ExtW
open Go.RowKit Go.Ov Go.Proofs.Ytddcjekkimajpaa.Need

def zrec : Array Value := #[.int .i64 0, .int .i64 0, .int .i64 0, .int .i64 0, .slice none 0 0]
def SmallRes (w : World) (e : Ending) (w' : World) : Prop := ∃ u r', e = .returned u ∧ RecIs w' u r' ∧ Bl w w'
/-- a record in block B, its result's block behind it -/
def SmR (w wc : World) (B : Nat) : Prop := ∃ (k t f o : Int) (A : Option Addr) (n c : Nat) (l : List Ext), Blk wc B #[.int .i64 k, .int .i64 t, .int .i64 f, .int .i64 o, .slice A n c] 33 ∧
  Stab wc (some B) (fun w' => Stab w' (some (B + 1)) fun w'' => extE.Is w'' (.slice A n c) l) ∧ Blk wc (B + 1) zrec 33 ∧ Bl w wc ∧ w.heap.size = B

set_option maxRecDepth 100000 in
set_option maxHeartbeats 2000000 in
theorem small21_any (v : Value) (r : Rec) (n : Int) (w : World) (h : RecIs w v r) (hn : -9223372036854775808 ≤ n ∧ n ≤ 9223372036854775807) :
    Calls Try.prog 30 #[v, .int .i64 n] w (SmallRes w) := by
  have HR := Lib.hid h
  obtain ⟨u, rfl, hl⟩ := h
  have HL := Lib.hid hl
  obtain ⟨A, c, rfl, q1, q2, q3, _⟩ := hl
  have hu := Try.underlying33
  by_cases h7 : Int.tmod n 7 = 6
  · have h71 : (Int.tmod n 7 == 6) = true := by rw [h7]; rfl
    clear h7
    go_enter Try.func30, Try.ntmps30
    go_wp2_with fail
    refine (kcutExt_ex A r.l.length c 4 _ q1 q2 q3 (by decide)).mono ?_
    rintro e w1 ⟨rfl, rfl⟩
    have HT := Lib.hid (Enc.Is.take HL.out 4)
    go_wp2_with fail
    refine bodyPost_ret (v := .agg #[.int .i64 r.kind, .int .i64 r.track, .int .i64 r.fr, .int .i64 r.tt, .slice A (min r.l.length 4) c]) (by simp [results, Try.results30, go_sem]) rfl ⟨_, ⟨r.kind, r.track, r.fr, r.tt, r.l.take 4⟩, rfl, ⟨_, rfl, HT.out.bl ?_⟩, ?_⟩
    · exact ((Bl.refl w).alloc _).alloc _
    · exact ((Bl.refl w).alloc _).alloc _
  · have h71 : (Int.tmod n 7 == 6) = false := by simpa using h7
    clear h7
    go_enter Try.func30, Try.ntmps30
    go_wp2_with fail
    refine (right_any _ r _ (HR.out.bl (((Bl.refl _).alloc _).alloc _))).mono ?_
    rintro e w1 ⟨ur, rfl, ⟨u2, rfl, ho⟩, hb⟩
    obtain ⟨A2, c2, rfl⟩ := ho.slice
    have HW := Lib.hid ((((Bl.refl w).alloc (.cells #[.int .i64 r.kind, .int .i64 r.track, .int .i64 r.fr, .int .i64 r.tt, .slice A r.l.length c] 33)).alloc (.cells zrec 33)).bl hb)
    have HK := Lib.hid (((Blk.new w #[.int .i64 r.kind, .int .i64 r.track, .int .i64 r.fr, .int .i64 r.tt, .slice A r.l.length c] 33).bl ((Bl.refl _).alloc (.cells zrec 33))).bl hb)
    have hz := (Blk.new (w.alloc (.cells #[.int .i64 r.kind, .int .i64 r.track, .int .i64 r.fr, .int .i64 r.tt, .slice A r.l.length c] 33)) zrec 33).bl hb
    rw [show (w.alloc (.cells #[.int .i64 r.kind, .int .i64 r.track, .int .i64 r.fr, .int .i64 r.tt, .slice A r.l.length c] 33)).heap.size = w.heap.size + 1 by simp] at hz
    have HZ := Lib.hid hz
    generalize rightM r = rr at *
    obtain ⟨rk, rt, rf, ro, rl⟩ := rr
    dsimp only at ho
    have hS : Stab w1 (some w.heap.size) (fun w' => Stab w' (some (w.heap.size + 1)) fun w'' => extE.Is w'' (.slice A2 rl.length c2) rl) :=
      (Stab.own2 ho (fun g hg => by injection hg with hg; simp; omega) (by simp)).mono fun w' h => h.mono fun w'' h => h.is
    have HS := Lib.hid hS
    obtain ⟨n2, hn2⟩ : ∃ n2, n2 = rl.length := ⟨_, rfl⟩
    rw [← hn2] at HS
    rw [← hn2]
    clear ho hb hz hS hn2
    have f0 := HK.out.frozen 0
    have f1 := HK.out.frozen 1
    have f2 := HK.out.frozen 2
    have f3 := HK.out.frozen 3
    have f4 := HK.out.frozen 4
    have g0 := HK.out.cell 0
    have g1 := HK.out.cell 1
    have g2 := HK.out.cell 2
    have g3 := HK.out.cell 3
    have g4 := HK.out.cell 4
    have l1 := HK.out.lt
    simp at g0 g1 g2 g3 g4
    go_upto_region 5 with fail
    go_cut [] (fun wc => Hid (SmR w wc w.heap.size))
    case first =>
      go_wp2_with fail
      refine (within_any _ _ _ (by decide)).mono ?_
      rintro e x2 ⟨rfl, rfl⟩
      go_wp2_with fail
      clear f0 f1 f2 f3 f4 g0 g1 g2 g3 g4
      go_meet
      exact Lib.hid ⟨rk, _, rf, ro, A2, n2, c2, rl, by simpa using (((((HK.out.set 0 (.int .i64 rk)).set 1 (.int .i64 rt)).set 2 (.int .i64 rf)).set 3 (.int .i64 ro)).set 4 (.slice A2 n2 c2)).set 1 (.int .i64 (within rt 8)), (((((HS.out.set 0 _).set 1 _).set 2 _).set 3 _).set 4 _).set 1 _, (((((HZ.out.set_else _ _ _ (by omega)).set_else _ _ _ (by omega)).set_else _ _ _ (by omega)).set_else _ _ _ (by omega)).set_else _ _ _ (by omega)).set_else _ _ _ (by omega), (((((HW.out.set _ _ _ (Nat.le_refl _)).set _ _ _ (Nat.le_refl _)).set _ _ _ (Nat.le_refl _)).set _ _ _ (Nat.le_refl _)).set _ _ _ (Nat.le_refl _)).set _ _ _ (Nat.le_refl _), rfl⟩
    case rest =>
    clear f0 f1 f2 f3 f4 g0 g1 g2 g3 g4
    clear HK HS HZ HW
    obtain ⟨wy, hwy⟩ : ∃ wy : World, wy = wc := ⟨_, rfl⟩
    subst hwy
    have hSm := hcut.out
    clear hcut
    obtain ⟨k, t, f, o, A1, n1, c1, l, hk, hs, hz, hw, _⟩ := hSm
    have HK := Lib.hid hk
    have HS := Lib.hid hs
    have HZ := Lib.hid hz
    have HW := Lib.hid hw
    clear hk hs hz hw
    go_upto_region 6 with fail
    go_cut [] (fun wc => Hid (SmR w wc w.heap.size))
    case first =>
      obtain ⟨A', c', e3, q1', q2', q3', _⟩ := id HS.out.here.here
      simp only [Value.slice.injEq] at e3
      obtain ⟨rfl, rfl, rfl⟩ := e3
      have f0 := HK.out.frozen 0
      have f1 := HK.out.frozen 1
      have f2 := HK.out.frozen 2
      have f3 := HK.out.frozen 3
      have f4 := HK.out.frozen 4
      have g0 := HK.out.cell 0
      have g1 := HK.out.cell 1
      have g2 := HK.out.cell 2
      have g3 := HK.out.cell 3
      have g4 := HK.out.cell 4
      have l1 := HK.out.lt
      simp at g0 g1 g2 g3 g4
      go_wp2_with fail
      refine (kcutExt_ex _ _ _ 6 _ q1' q2' q3' (by decide)).mono ?_
      rintro e x2 ⟨rfl, rfl⟩
      go_wp2_with fail
      clear f0 f1 f2 f3 f4 g0 g1 g2 g3 g4
      go_meet
      exact Lib.hid ⟨k, t, f, o, A1, _, c1, l.take 6, by simpa using HK.out.set 4 (.slice A1 (min l.length 6) c1), (HS.out.set 4 _).mono fun w' h => h.mono fun w'' h => Enc.Is.take h 6, HZ.out.set_else _ _ _ (by omega), HW.out.set _ _ _ (Nat.le_refl _), rfl⟩
    case rest =>
    clear HK HS HZ HW
    obtain ⟨wy, hwy⟩ : ∃ wy : World, wy = wc := ⟨_, rfl⟩
    subst hwy
    have hSm := hcut.out
    clear hcut
    obtain ⟨k, t, f, o, A1, n1, c1, l, hk, hs, hz, hw, _⟩ := hSm
    have HK := Lib.hid hk
    have HS := Lib.hid hs
    have HZ := Lib.hid hz
    have HW := Lib.hid hw
    clear hk hs hz hw
    have f0 := HK.out.frozen 0
    have f1 := HK.out.frozen 1
    have f2 := HK.out.frozen 2
    have f3 := HK.out.frozen 3
    have f4 := HK.out.frozen 4
    have g0 := HK.out.cell 0
    have g1 := HK.out.cell 1
    have g2 := HK.out.cell 2
    have g3 := HK.out.cell 3
    have g4 := HK.out.cell 4
    have l1 := HK.out.lt
    simp at g0 g1 g2 g3 g4
    go_upto_if 25 with (fail)
    go_cut [] (fun wc => Hid (SmR w wc w.heap.size))
    case first =>
      by_cases hk4 : 4 ≤ k
      · go_wp2_with fail
        clear f0 f1 f2 f3 f4 g0 g1 g2 g3 g4
        go_meet
        exact Lib.hid ⟨k, 0, f, o, A1, n1, c1, l, by simpa using HK.out.set 1 (.int .i64 0), HS.out.set 1 _, HZ.out.set_else _ _ _ (by omega), HW.out.set _ _ _ (Nat.le_refl _), rfl⟩
      · go_wp2_with fail
        clear f0 f1 f2 f3 f4 g0 g1 g2 g3 g4
        go_meet
        exact Lib.hid ⟨k, t, f, o, A1, n1, c1, l, HK.out, HS.out, HZ.out, HW.out, rfl⟩
    case rest =>
    clear f0 f1 f2 f3 f4 g0 g1 g2 g3 g4
    clear HK HS HZ HW
    obtain ⟨wy, hwy⟩ : ∃ wy : World, wy = wc := ⟨_, rfl⟩
    subst hwy
    have hSm := hcut.out
    clear hcut
    obtain ⟨k, t, f, o, A1, n1, c1, l, hk, hs, hz, hw, _⟩ := hSm
    have HK := Lib.hid hk
    have HS := Lib.hid hs
    have HZ := Lib.hid hz
    have HW := Lib.hid hw
    clear hk hs hz hw
    go_upto_region 9 with fail
    go_cut [34] (fun v34 wc => ∃ q : Bool, v34 = .bool q ∧ wc = wy)
    case first =>
      have f0 := HK.out.frozen 0
      have f1 := HK.out.frozen 1
      have f2 := HK.out.frozen 2
      have f3 := HK.out.frozen 3
      have f4 := HK.out.frozen 4
      have g0 := HK.out.cell 0
      have g1 := HK.out.cell 1
      have g2 := HK.out.cell 2
      have g3 := HK.out.cell 3
      have g4 := HK.out.cell 4
      have l1 := HK.out.lt
      simp at g0 g1 g2 g3 g4
      by_cases hk3 : k = 3
      · subst hk3
        go_wp2_with fail
        go_meet
        exact ⟨_, rfl, rfl⟩
      · have e3 : (k == 3) = false := by simpa using hk3
        clear hk3
        go_wp2_with fail
        go_meet
        exact ⟨_, rfl, rfl⟩
    case rest =>
    obtain ⟨q, rfl, rfl⟩ := hcut
    go_upto_if 34 with (fail)
    go_cut [] (fun wc => Hid (SmR w wc w.heap.size))
    case first =>
      cases q with
      | false =>
        go_wp2_with fail
        go_meet
        exact Lib.hid ⟨k, t, f, o, A1, n1, c1, l, HK.out, HS.out, HZ.out, HW.out, rfl⟩
      | true =>
        go_wp2_with fail
        refine wp_region_ways (S := (fun w' => w'.cell? ⟨w.heap.size, 0, none⟩ = some (.int .i64 k))) [0, 3, 6, 7, 9] (y := .take 0 (.take 3 (.ev 1 (.ev 2 (.ev 4 (.take 7 (.ev 5 (.take 6 (.ev 8 (.take 9 (.ev 10 (.done) (.stop))) (.stop))) (.stop))) (.stop)) (.ev 4 (.ev 2 (.take 7 (.ev 5 (.take 6 (.ev 8 (.take 9 (.ev 10 (.done) (.stop))) (.stop))) (.stop))) (.stop)) (.stop))) (.ev 4 (.ev 1 (.ev 2 (.take 7 (.ev 5 (.take 6 (.ev 8 (.take 9 (.ev 10 (.done) (.stop))) (.stop))) (.stop))) (.stop)) (.stop)) (.stop))))) (by kernel_rfl) (by kernel_rfl) (by kernel_rfl) ?_ (fun hHeld => ?_)
        · exact (HK.out.bl (Bl.refl _).drew).cell 0
        repeat (first | (refine wpWay_take rfl (by rfl) (by intro w hSw; (try dsimp only at hSw); first | (go_simp; done) | (go_simp; with_reducible rfl)) ?_; try simp only [Act.put, List.setIfInBounds_toArray, List.set_cons_zero, List.set_cons_succ]) | (refine wpWay_skip rfl (by rfl) ?_; try simp only [Act.put, List.setIfInBounds_toArray, List.set_cons_zero, List.set_cons_succ]))
        have HKd := Lib.hid (HK.out.bl (Bl.refl _).drew)
        have f0 := HK.out.frozen 0
        have f1 := HK.out.frozen 1
        have f2 := HK.out.frozen 2
        have f3 := HK.out.frozen 3
        have f4 := HK.out.frozen 4
        have g0 := HK.out.cell 0
        have g1 := HK.out.cell 1
        have g2 := HK.out.cell 2
        have g3 := HK.out.cell 3
        have g4 := HK.out.cell 4
        have l1 := HK.out.lt
        simp at g0 g1 g2 g3 g4
        clear hHeld
        have hw := within_bd o 200 (by decide)
        refine wpWay_ev rfl (fun K hK => ?_) ?_
        · go_wp2_with fail
          refine ⟨HKd.out.cell 0, ?_⟩
          repeat (first | (refine wpWay_take rfl (by rfl) (by intro w hSw; (try dsimp only at hSw); first | (go_simp; done) | (go_simp; with_reducible rfl)) ?_; try simp only [Act.put, List.setIfInBounds_toArray, List.set_cons_zero, List.set_cons_succ]) | (refine wpWay_skip rfl (by rfl) ?_; try simp only [Act.put, List.setIfInBounds_toArray, List.set_cons_zero, List.set_cons_succ]))
          refine wpWay_ev rfl (fun K hK => ?_) ?_
          · go_wp2_with fail
            refine (within_any _ _ _ (by decide)).mono ?_
            rintro e x2 ⟨rfl, rfl⟩
            go_wp2_with fail
            refine ⟨HKd.out.cell 0, ?_⟩
            repeat (first | (refine wpWay_take rfl (by rfl) (by intro w hSw; (try dsimp only at hSw); first | (go_simp; done) | (go_simp; with_reducible rfl)) ?_; try simp only [Act.put, List.setIfInBounds_toArray, List.set_cons_zero, List.set_cons_succ]) | (refine wpWay_skip rfl (by rfl) ?_; try simp only [Act.put, List.setIfInBounds_toArray, List.set_cons_zero, List.set_cons_succ]))
            refine wpWay_ev rfl (fun K hK => ?_) wpWay_stop
            go_wp2_with fail
            refine ⟨HKd.out.cell 0, ?_⟩
            repeat (first | (refine wpWay_take rfl (by rfl) (by intro w hSw; (try dsimp only at hSw); first | (go_simp; done) | (go_simp; with_reducible rfl)) ?_; try simp only [Act.put, List.setIfInBounds_toArray, List.set_cons_zero, List.set_cons_succ]) | (refine wpWay_skip rfl (by rfl) ?_; try simp only [Act.put, List.setIfInBounds_toArray, List.set_cons_zero, List.set_cons_succ]))
            refine wpWay_ev rfl (fun K hK => ?_) wpWay_stop
            go_wp2_with fail
            refine (within_any _ _ _ (by decide)).mono ?_
            rintro e x2 ⟨rfl, rfl⟩
            go_wp2_with fail
            refine ⟨HKd.out.cell 0, ?_⟩
            repeat (first | (refine wpWay_take rfl (by rfl) (by intro w hSw; (try dsimp only at hSw); first | (go_simp; done) | (go_simp; with_reducible rfl)) ?_; try simp only [Act.put, List.setIfInBounds_toArray, List.set_cons_zero, List.set_cons_succ]) | (refine wpWay_skip rfl (by rfl) ?_; try simp only [Act.put, List.setIfInBounds_toArray, List.set_cons_zero, List.set_cons_succ]))
            refine wpWay_ev rfl (fun K hK => ?_) wpWay_stop
            go_wp2_with fail
            refine ⟨((HK.out.set 2 _).bl (Bl.refl _).drew).cell 0, ?_⟩
            repeat (first | (refine wpWay_take rfl (by rfl) (by intro w hSw; (try dsimp only at hSw); first | (go_simp; done) | (go_simp; with_reducible rfl)) ?_; try simp only [Act.put, List.setIfInBounds_toArray, List.set_cons_zero, List.set_cons_succ]) | (refine wpWay_skip rfl (by rfl) ?_; try simp only [Act.put, List.setIfInBounds_toArray, List.set_cons_zero, List.set_cons_succ]))
            refine wpWay_ev rfl (fun K hK => ?_) wpWay_stop
            go_wp2_with fail
            refine And.intro ?_ ?_
            · have hq := (((HK.out.set 2 (.int .i64 (within f 60))).set 3 (.int .i64 (60 + within o 200))).bl (Bl.refl _).drew).cell 0
              simpa using hq
            refine wpWay_done ?_
            go_wp2_with fail
            clear f0 f1 f2 f3 f4 g0 g1 g2 g3 g4
            go_meet
            refine Lib.hid ⟨k, t, within f 60, 60 + within o 200, A1, n1, c1, l, ?_, ((HS.out.set 2 _).set 3 _).bl (Bl.refl _).drew, ((HZ.out.set_else _ _ _ (by omega)).set_else _ _ _ (by omega)).bl (Bl.refl _).drew, ((HW.out.set _ _ _ (Nat.le_refl _)).set _ _ _ (Nat.le_refl _)).drew, rfl⟩
            exact ((HK.out.set 2 _).set 3 _).bl (Bl.refl _).drew
          · refine wpWay_ev rfl (fun K hK => ?_) wpWay_stop
            go_wp2_with fail
            refine ⟨HKd.out.cell 0, ?_⟩
            repeat (first | (refine wpWay_take rfl (by rfl) (by intro w hSw; (try dsimp only at hSw); first | (go_simp; done) | (go_simp; with_reducible rfl)) ?_; try simp only [Act.put, List.setIfInBounds_toArray, List.set_cons_zero, List.set_cons_succ]) | (refine wpWay_skip rfl (by rfl) ?_; try simp only [Act.put, List.setIfInBounds_toArray, List.set_cons_zero, List.set_cons_succ]))
            refine wpWay_ev rfl (fun K hK => ?_) wpWay_stop
            go_wp2_with fail
            refine (within_any _ _ _ (by decide)).mono ?_
            rintro e x2 ⟨rfl, rfl⟩
            go_wp2_with fail
            refine ⟨HKd.out.cell 0, ?_⟩
            repeat (first | (refine wpWay_take rfl (by rfl) (by intro w hSw; (try dsimp only at hSw); first | (go_simp; done) | (go_simp; with_reducible rfl)) ?_; try simp only [Act.put, List.setIfInBounds_toArray, List.set_cons_zero, List.set_cons_succ]) | (refine wpWay_skip rfl (by rfl) ?_; try simp only [Act.put, List.setIfInBounds_toArray, List.set_cons_zero, List.set_cons_succ]))
            refine wpWay_ev rfl (fun K hK => ?_) wpWay_stop
            go_wp2_with fail
            refine (within_any _ _ _ (by decide)).mono ?_
            rintro e x2 ⟨rfl, rfl⟩
            go_wp2_with fail
            refine ⟨HKd.out.cell 0, ?_⟩
            repeat (first | (refine wpWay_take rfl (by rfl) (by intro w hSw; (try dsimp only at hSw); first | (go_simp; done) | (go_simp; with_reducible rfl)) ?_; try simp only [Act.put, List.setIfInBounds_toArray, List.set_cons_zero, List.set_cons_succ]) | (refine wpWay_skip rfl (by rfl) ?_; try simp only [Act.put, List.setIfInBounds_toArray, List.set_cons_zero, List.set_cons_succ]))
            refine wpWay_ev rfl (fun K hK => ?_) wpWay_stop
            go_wp2_with fail
            refine ⟨((HK.out.set 2 _).bl (Bl.refl _).drew).cell 0, ?_⟩
            repeat (first | (refine wpWay_take rfl (by rfl) (by intro w hSw; (try dsimp only at hSw); first | (go_simp; done) | (go_simp; with_reducible rfl)) ?_; try simp only [Act.put, List.setIfInBounds_toArray, List.set_cons_zero, List.set_cons_succ]) | (refine wpWay_skip rfl (by rfl) ?_; try simp only [Act.put, List.setIfInBounds_toArray, List.set_cons_zero, List.set_cons_succ]))
            refine wpWay_ev rfl (fun K hK => ?_) wpWay_stop
            go_wp2_with fail
            refine And.intro ?_ ?_
            · have hq := (((HK.out.set 2 (.int .i64 (within f 60))).set 3 (.int .i64 (60 + within o 200))).bl (Bl.refl _).drew).cell 0
              simpa using hq
            refine wpWay_done ?_
            go_wp2_with fail
            clear f0 f1 f2 f3 f4 g0 g1 g2 g3 g4
            go_meet
            refine Lib.hid ⟨k, t, within f 60, 60 + within o 200, A1, n1, c1, l, ?_, ((HS.out.set 2 _).set 3 _).bl (Bl.refl _).drew, ((HZ.out.set_else _ _ _ (by omega)).set_else _ _ _ (by omega)).bl (Bl.refl _).drew, ((HW.out.set _ _ _ (Nat.le_refl _)).set _ _ _ (Nat.le_refl _)).drew, rfl⟩
            exact ((HK.out.set 2 _).set 3 _).bl (Bl.refl _).drew
        · refine wpWay_ev rfl (fun K hK => ?_) wpWay_stop
          go_wp2_with fail
          refine ⟨HKd.out.cell 0, ?_⟩
          repeat (first | (refine wpWay_take rfl (by rfl) (by intro w hSw; (try dsimp only at hSw); first | (go_simp; done) | (go_simp; with_reducible rfl)) ?_; try simp only [Act.put, List.setIfInBounds_toArray, List.set_cons_zero, List.set_cons_succ]) | (refine wpWay_skip rfl (by rfl) ?_; try simp only [Act.put, List.setIfInBounds_toArray, List.set_cons_zero, List.set_cons_succ]))
          refine wpWay_ev rfl (fun K hK => ?_) wpWay_stop
          go_wp2_with fail
          refine ⟨HKd.out.cell 0, ?_⟩
          repeat (first | (refine wpWay_take rfl (by rfl) (by intro w hSw; (try dsimp only at hSw); first | (go_simp; done) | (go_simp; with_reducible rfl)) ?_; try simp only [Act.put, List.setIfInBounds_toArray, List.set_cons_zero, List.set_cons_succ]) | (refine wpWay_skip rfl (by rfl) ?_; try simp only [Act.put, List.setIfInBounds_toArray, List.set_cons_zero, List.set_cons_succ]))
          refine wpWay_ev rfl (fun K hK => ?_) wpWay_stop
          go_wp2_with fail
          refine (within_any _ _ _ (by decide)).mono ?_
          rintro e x2 ⟨rfl, rfl⟩
          go_wp2_with fail
          refine ⟨HKd.out.cell 0, ?_⟩
          repeat (first | (refine wpWay_take rfl (by rfl) (by intro w hSw; (try dsimp only at hSw); first | (go_simp; done) | (go_simp; with_reducible rfl)) ?_; try simp only [Act.put, List.setIfInBounds_toArray, List.set_cons_zero, List.set_cons_succ]) | (refine wpWay_skip rfl (by rfl) ?_; try simp only [Act.put, List.setIfInBounds_toArray, List.set_cons_zero, List.set_cons_succ]))
          refine wpWay_ev rfl (fun K hK => ?_) wpWay_stop
          go_wp2_with fail
          refine (within_any _ _ _ (by decide)).mono ?_
          rintro e x2 ⟨rfl, rfl⟩
          go_wp2_with fail
          refine ⟨HKd.out.cell 0, ?_⟩
          repeat (first | (refine wpWay_take rfl (by rfl) (by intro w hSw; (try dsimp only at hSw); first | (go_simp; done) | (go_simp; with_reducible rfl)) ?_; try simp only [Act.put, List.setIfInBounds_toArray, List.set_cons_zero, List.set_cons_succ]) | (refine wpWay_skip rfl (by rfl) ?_; try simp only [Act.put, List.setIfInBounds_toArray, List.set_cons_zero, List.set_cons_succ]))
          refine wpWay_ev rfl (fun K hK => ?_) wpWay_stop
          go_wp2_with fail
          refine ⟨((HK.out.set 2 _).bl (Bl.refl _).drew).cell 0, ?_⟩
          repeat (first | (refine wpWay_take rfl (by rfl) (by intro w hSw; (try dsimp only at hSw); first | (go_simp; done) | (go_simp; with_reducible rfl)) ?_; try simp only [Act.put, List.setIfInBounds_toArray, List.set_cons_zero, List.set_cons_succ]) | (refine wpWay_skip rfl (by rfl) ?_; try simp only [Act.put, List.setIfInBounds_toArray, List.set_cons_zero, List.set_cons_succ]))
          refine wpWay_ev rfl (fun K hK => ?_) wpWay_stop
          go_wp2_with fail
          refine And.intro ?_ ?_
          · have hq := (((HK.out.set 2 (.int .i64 (within f 60))).set 3 (.int .i64 (60 + within o 200))).bl (Bl.refl _).drew).cell 0
            simpa using hq
          refine wpWay_done ?_
          go_wp2_with fail
          clear f0 f1 f2 f3 f4 g0 g1 g2 g3 g4
          go_meet
          refine Lib.hid ⟨k, t, within f 60, 60 + within o 200, A1, n1, c1, l, ?_, ((HS.out.set 2 _).set 3 _).bl (Bl.refl _).drew, ((HZ.out.set_else _ _ _ (by omega)).set_else _ _ _ (by omega)).bl (Bl.refl _).drew, ((HW.out.set _ _ _ (Nat.le_refl _)).set _ _ _ (Nat.le_refl _)).drew, rfl⟩
          exact ((HK.out.set 2 _).set 3 _).bl (Bl.refl _).drew
    case rest =>
    clear HK HS HZ HW
    obtain ⟨wy, hwy⟩ : ∃ wy : World, wy = wc := ⟨_, rfl⟩
    subst hwy
    have hSm := hcut.out
    clear hcut
    obtain ⟨k, t, f, o, A1, n1, c1, l, hk, hs, hz, hw, _⟩ := hSm
    have HK := Lib.hid hk
    have HS := Lib.hid hs
    have HZ := Lib.hid hz
    have HW := Lib.hid hw
    clear hk hs hz hw
    have z0 := HZ.out.frozen 0
    have z1 := HZ.out.frozen 1
    have z2 := HZ.out.frozen 2
    have z3 := HZ.out.frozen 3
    have z4 := HZ.out.frozen 4
    have y0 := HZ.out.cell 0
    have y1 := HZ.out.cell 1
    have y2 := HZ.out.cell 2
    have y3 := HZ.out.cell 3
    have y4 := HZ.out.cell 4
    have ly := HZ.out.lt
    simp [zrec] at y0 y1 y2 y3 y4
    have f0 := HK.out.frozen 0
    have f1 := HK.out.frozen 1
    have f2 := HK.out.frozen 2
    have f3 := HK.out.frozen 3
    have f4 := HK.out.frozen 4
    have g0 := HK.out.cell 0
    have g1 := HK.out.cell 1
    have g2 := HK.out.cell 2
    have g3 := HK.out.cell 3
    have g4 := HK.out.cell 4
    have l1 := HK.out.lt
    simp at g0 g1 g2 g3 g4
    go_wp2_with fail
    clear f0 f1 f2 f3 f4 g0 g1 g2 g3 g4
    refine bodyPost_ret (v := .agg #[.int .i64 k, .int .i64 t, .int .i64 f, .int .i64 o, .slice A1 n1 c1]) (by simp [results, Try.results30, go_sem, y0, y1, y2, y3, y4]) rfl ⟨_, ⟨k, t, f, o, l⟩, rfl, ⟨_, rfl, ?_⟩, ?_⟩
    · exact (((((HS.out.here.set 0 _).set 1 _).set 2 _).set 3 _).set 4 _).here
    · exact ((((HW.out.set _ _ _ (Nat.le_succ _)).set _ _ _ (Nat.le_succ _)).set _ _ _ (Nat.le_succ _)).set _ _ _ (Nat.le_succ _)).set _ _ _ (Nat.le_succ _)
end Go.Proofs.Ytddcjekkimajpaa.ExtW
