/- Contracts of overdubref14's Rise and Sectors. -/
import Derived.Test.YtaedelhdandflaaFindW
import Derived.Test.YtaedelhdandflaaLib2
namespace Go.Proofs.Ytaedelhdandflaa.ExtW
open Go.RowKit Go.Ov Go.Proofs.Ytaedelhdandflaa.Need

set_option maxRecDepth 100000 in
set_option maxHeartbeats 2000000 in
theorem rise_any (v : Value) (l : List Int) (n : Int) (w : World) (h : intE.Is w v l) (hn : l.length ≤ 1000000) :
    Calls Try.prog 55 #[v, .int .i64 n] w fun e w' => ∃ u, e = .returned u ∧ intE.Is w' u (riseM l n) ∧ Bl w w' := by
  obtain ⟨A, c, rfl, h1, h2, h3, h4⟩ := h
  have HI := Lib.hid (show intE.Is w (.slice A l.length c) l from ⟨A, c, rfl, h1, h2, h3, h4⟩)
  have HA := Lib.hid h4
  have HC := Lib.hid h1
  clear h1 h2 h3 h4
  go_enter Try.func55, Try.ntmps55
  go_wp2
  go_loopg [5] l.length (fun g i wr => ∃ (k : Nat), k ≤ l.length ∧ g = k ∧ i = .int .i64 k ∧ Hid (riseM l n = riseK l n k) ∧ wr = w)
  case atStart => exact ⟨l.length, Nat.le_refl _, rfl, rfl, Lib.hid rfl, rfl⟩
  case round =>
    obtain ⟨k, hk, hg, rfl, hv, rfl⟩ := hrel
    obtain rfl : k = gk := hg.symm
    clear hg
    have hsplit : (∃ k', k = k' + 1 ∧ ∃ h : k' < l.length, n ≤ l[k'] ∧ (l[k'] = n ∨ l[k'] ≠ n)) ∨ ((k = 0 ∨ ∃ k', k = k' + 1 ∧ ∃ h : k' < l.length, l[k'] < n)) := by
      cases k with
      | zero => exact .inr (.inl rfl)
      | succ k' =>
        have hk' : k' < l.length := by omega
        by_cases hle : n ≤ l[k']
        · exact .inl ⟨k', rfl, hk', hle, by omega⟩
        · exact .inr (.inr ⟨k', rfl, hk', by omega⟩)
    rcases hsplit with ⟨k', rfl, hk', hle, heq⟩ | hex
    · obtain ⟨ad, rfl, c0⟩ := int_at HA.out k' hk'
      have hd := Lib.hid (show riseK l n (k' + 1) = if l[k'] = n then l else riseK l n k' by simp [riseK, hk', hle])
      generalize l[k'] = x at *
      have hw : wrap64 (((k' + 1 : Nat) : Int) - 1) = k' := by rw [wrap_id (by omega) (by omega)]; omega
      have hw1 : (((k' + 1 : Nat) : Int) - 1).toNat = k' := by omega
      rcases heq with rfl | hne
      · go_wp2
        go_ret
        exact ⟨_, rfl, by rw [hv.out, hd.out, if_pos trivial]; exact HI.out, Bl.refl _⟩
      · go_wp2
        go_roundg k'
        case measure => omega
        case rel => exact ⟨k', by omega, rfl, by go_num, Lib.hid (by rw [hv.out, hd.out, if_neg hne]), rfl⟩
    · have HR := Lib.hid (show riseM l n = l.take k ++ n :: l.drop k by
        rw [hv.out]
        rcases hex with rfl | ⟨k', rfl, hk', hlt⟩
        · rfl
        · have e : l[k']?.getD 0 = l[k'] := by simp [hk']
          unfold riseK; rw [e, if_neg (by omega)])
      clear hv
      have hF := slice_full (E := intE) (P := Try.prog) (t := 22) (by kernel_rfl) (fun w => by kernel_rfl) A c l k hk HC.out
      obtain ⟨V2, hV2, hI2⟩ := slice_l (E := intE) (P := Try.prog) (t := 22) (by kernel_rfl) (fun w => by kernel_rfl) A c l (k : Int) (by omega) (by omega)
      have hFK : ∀ K : Int, K = k → ∀ w, (Instr.slice 22 (.slice A l.length c) none (some (.int .i64 K)) (some (.int .i64 K))).run Try.prog w = .ok (.slice A k k) w := fun K hK w => by rw [hK]; exact hF.1 w
      have hVK : ∀ K : Int, K = k → ∀ w, (Instr.slice 22 (.slice A l.length c) (some (.int .i64 K)) none none).run Try.prog w = .ok V2 w := fun K hK w => by rw [hK]; exact hV2 w
      have HF2 := Lib.hid hF.2
      have HI2 := Lib.hid hI2
      have HVK := Lib.hid hVK
      clear hI2 hV2 hVK
      have hkl : (l.take k).length = k := by rw [List.length_take]; omega
      have hdl : (l.drop k).length ≤ 1000000 := by rw [List.length_drop]; omega
      obtain ⟨X, hX⟩ : ∃ X, X = l.take k := ⟨_, rfl⟩
      obtain ⟨Y, hY⟩ : ∃ Y, Y = l.drop k := ⟨_, rfl⟩
      rw [← hX] at hkl
      rw [← hY] at hdl
      have HX := Lib.hid hX
      have HY := Lib.hid hY
      have hFK' : ∀ K : Int, K = k → ∀ w, (Instr.slice 22 (.slice A l.length c) none (some (.int .i64 K)) (some (.int .i64 K))).run Try.prog w = .ok (.slice A X.length k) w := fun K hK w => by rw [hkl]; exact hFK K hK w
      have HFK := Lib.hid hFK'
      have HKL := Lib.hid hkl
      clear hX hY hFK hFK' hF hkl
      rcases hex with rfl | ⟨k', rfl, hk', hlt⟩
      · have hV2 := HVK.out 0 rfl
        have hF1 := HFK.out 0 rfl
        go_wp2_with fail
        have HOwn := Lib.hid (show intE.Own 3 (wr.alloc (.cells #[.int .i64 n] 3)).drew wr.heap.size (.slice (some ⟨wr.heap.size, 0, none⟩) 1 1) [n] from (Enc.Own.lit (E := intE) wr wr.heap.size [n] #[.int .i64 n] rfl 1 rfl (Nat.le_refl _) (by decide) rfl).bl (Bl.refl _).drew)
        refine wp_region_ways (S := (fun _ => True)) [0, 1, 2, 3, 4, 6, 7, 8, 11] (y := .take 0 (.take 1 (.take 2 (.take 3 (.take 4 (.take 6 (.take 7 (.take 8 (.ev 5 (.ev 9 (.ev 10 (.take 11 (.done)) (.stop)) (.stop)) (.stop)))))))))) (by kernel_rfl) (by kernel_rfl) (by kernel_rfl) ?_ (fun hHeld => ?_)
        · trivial
        repeat (first | (refine wpWay_take rfl (by rfl) (by intro w hSw; (try dsimp only at hSw); first | (go_simp; done) | (go_simp; with_reducible rfl)) ?_; try simp only [Act.put, List.setIfInBounds_toArray, List.set_cons_zero, List.set_cons_succ]) | (refine wpWay_skip rfl (by rfl) ?_; try simp only [Act.put, List.setIfInBounds_toArray, List.set_cons_zero, List.set_cons_succ]))
        refine wpWay_ev rfl (fun K hK => ?_) wpWay_stop
        go_wp2_with fail
        (try refine ⟨trivial, ?_⟩)
        repeat (first | (refine wpWay_take rfl (by rfl) (by intro w hSw; (try dsimp only at hSw); first | (go_simp; done) | (go_simp; with_reducible rfl)) ?_; try simp only [Act.put, List.setIfInBounds_toArray, List.set_cons_zero, List.set_cons_succ]) | (refine wpWay_skip rfl (by rfl) ?_; try simp only [Act.put, List.setIfInBounds_toArray, List.set_cons_zero, List.set_cons_succ]))
        refine wpWay_ev rfl (fun K hK => ?_) wpWay_stop
        go_wp2_with (at_builtin; refine Enc.Own.append (E := intE) rfl (.tmp 34) (.tmp 37) 22 rfl wr.heap.size 3 (.int .i64 0) 1 8 Try.underlying22 infoInt rfl rfl (by decide) (by decide) _ [n] rfl HOwn.out V2 Y rfl (by rw [HY.out]; exact HI2.out _ (HI.out.bl ((Bl.refl _).alloc _).drew)) ?hlen ?hbase ?_; (case hlen => simp only [List.length_cons, List.length_nil]; omega); (case hbase => exact ((Bl.refl _).alloc _).drew.size); intro u1 w6 ho6 hg6)
        (try refine ⟨trivial, ?_⟩)
        repeat (first | (refine wpWay_take rfl (by rfl) (by intro w hSw; (try dsimp only at hSw); first | (go_simp; done) | (go_simp; with_reducible rfl)) ?_; try simp only [Act.put, List.setIfInBounds_toArray, List.set_cons_zero, List.set_cons_succ]) | (refine wpWay_skip rfl (by rfl) ?_; try simp only [Act.put, List.setIfInBounds_toArray, List.set_cons_zero, List.set_cons_succ]))
        have hb6 := (((Bl.refl wr).alloc (.cells #[.int .i64 n] 3)).drew).grown hg6 (fun k hk => (Enc.Own.lt HOwn.out k hk).1)
        refine wpWay_ev rfl (fun K hK => ?_) wpWay_stop
        go_wp2_with (at_builtin; refine Enc.appendFull (E := intE) rfl (.tmp 32) (.tmp 38) 22 rfl 3 (.int .i64 0) 1 8 Try.underlying22 infoInt rfl rfl (by decide) (by decide) _ X _ rfl HKL.out.symm (by have := HF2.out _ (HI.out.bl hb6); rw [← HX.out] at this; rw [HKL.out]; exact this) u1 ([n] ++ Y) rfl ho6.is (by simp) ?hlen ?_; (case hlen => have := HKL.out; simp only [List.length_append, List.length_cons, List.length_nil]; omega); intro u2 w7 ho7 hg7)
        (try refine ⟨trivial, ?_⟩)
        repeat (first | (refine wpWay_take rfl (by rfl) (by intro w hSw; (try dsimp only at hSw); first | (go_simp; done) | (go_simp; with_reducible rfl)) ?_; try simp only [Act.put, List.setIfInBounds_toArray, List.set_cons_zero, List.set_cons_succ]) | (refine wpWay_skip rfl (by rfl) ?_; try simp only [Act.put, List.setIfInBounds_toArray, List.set_cons_zero, List.set_cons_succ]))
        refine wpWay_done ?_
        go_wp2
        go_ret
        refine ⟨_, rfl, ?_, hb6.grown hg7 (fun k hk => by cases hk)⟩
        rw [HR.out, ← HX.out, ← HY.out]
        exact ho7.is
      · obtain ⟨ad, rfl, c0⟩ := int_at HA.out k' hk'
        have hV2 := HVK.out (k' + 1) (by omega)
        have hF1 := HFK.out (k' + 1) (by omega)
        go_wp2_with fail
        have HOwn := Lib.hid (show intE.Own 3 (wr.alloc (.cells #[.int .i64 n] 3)).drew wr.heap.size (.slice (some ⟨wr.heap.size, 0, none⟩) 1 1) [n] from (Enc.Own.lit (E := intE) wr wr.heap.size [n] #[.int .i64 n] rfl 1 rfl (Nat.le_refl _) (by decide) rfl).bl (Bl.refl _).drew)
        refine wp_region_ways (S := (fun _ => True)) [0, 1, 2, 3, 4, 6, 7, 8, 11] (y := .take 0 (.take 1 (.take 2 (.take 3 (.take 4 (.take 6 (.take 7 (.take 8 (.ev 5 (.ev 9 (.ev 10 (.take 11 (.done)) (.stop)) (.stop)) (.stop)))))))))) (by kernel_rfl) (by kernel_rfl) (by kernel_rfl) ?_ (fun hHeld => ?_)
        · trivial
        repeat (first | (refine wpWay_take rfl (by rfl) (by intro w hSw; (try dsimp only at hSw); first | (go_simp; done) | (go_simp; with_reducible rfl)) ?_; try simp only [Act.put, List.setIfInBounds_toArray, List.set_cons_zero, List.set_cons_succ]) | (refine wpWay_skip rfl (by rfl) ?_; try simp only [Act.put, List.setIfInBounds_toArray, List.set_cons_zero, List.set_cons_succ]))
        refine wpWay_ev rfl (fun K hK => ?_) wpWay_stop
        go_wp2_with fail
        (try refine ⟨trivial, ?_⟩)
        repeat (first | (refine wpWay_take rfl (by rfl) (by intro w hSw; (try dsimp only at hSw); first | (go_simp; done) | (go_simp; with_reducible rfl)) ?_; try simp only [Act.put, List.setIfInBounds_toArray, List.set_cons_zero, List.set_cons_succ]) | (refine wpWay_skip rfl (by rfl) ?_; try simp only [Act.put, List.setIfInBounds_toArray, List.set_cons_zero, List.set_cons_succ]))
        refine wpWay_ev rfl (fun K hK => ?_) wpWay_stop
        go_wp2_with (at_builtin; refine Enc.Own.append (E := intE) rfl (.tmp 34) (.tmp 37) 22 rfl wr.heap.size 3 (.int .i64 0) 1 8 Try.underlying22 infoInt rfl rfl (by decide) (by decide) _ [n] rfl HOwn.out V2 Y rfl (by rw [HY.out]; exact HI2.out _ (HI.out.bl ((Bl.refl _).alloc _).drew)) ?hlen ?hbase ?_; (case hlen => simp only [List.length_cons, List.length_nil]; omega); (case hbase => exact ((Bl.refl _).alloc _).drew.size); intro u1 w6 ho6 hg6)
        (try refine ⟨trivial, ?_⟩)
        repeat (first | (refine wpWay_take rfl (by rfl) (by intro w hSw; (try dsimp only at hSw); first | (go_simp; done) | (go_simp; with_reducible rfl)) ?_; try simp only [Act.put, List.setIfInBounds_toArray, List.set_cons_zero, List.set_cons_succ]) | (refine wpWay_skip rfl (by rfl) ?_; try simp only [Act.put, List.setIfInBounds_toArray, List.set_cons_zero, List.set_cons_succ]))
        have hb6 := (((Bl.refl wr).alloc (.cells #[.int .i64 n] 3)).drew).grown hg6 (fun k hk => (Enc.Own.lt HOwn.out k hk).1)
        refine wpWay_ev rfl (fun K hK => ?_) wpWay_stop
        go_wp2_with (at_builtin; refine Enc.appendFull (E := intE) rfl (.tmp 32) (.tmp 38) 22 rfl 3 (.int .i64 0) 1 8 Try.underlying22 infoInt rfl rfl (by decide) (by decide) _ X _ rfl HKL.out.symm (by have := HF2.out _ (HI.out.bl hb6); rw [← HX.out] at this; rw [HKL.out]; exact this) u1 ([n] ++ Y) rfl ho6.is (by simp) ?hlen ?_; (case hlen => have := HKL.out; simp only [List.length_append, List.length_cons, List.length_nil]; omega); intro u2 w7 ho7 hg7)
        (try refine ⟨trivial, ?_⟩)
        repeat (first | (refine wpWay_take rfl (by rfl) (by intro w hSw; (try dsimp only at hSw); first | (go_simp; done) | (go_simp; with_reducible rfl)) ?_; try simp only [Act.put, List.setIfInBounds_toArray, List.set_cons_zero, List.set_cons_succ]) | (refine wpWay_skip rfl (by rfl) ?_; try simp only [Act.put, List.setIfInBounds_toArray, List.set_cons_zero, List.set_cons_succ]))
        refine wpWay_done ?_
        go_wp2
        go_ret
        refine ⟨_, rfl, ?_, hb6.grown hg7 (fun k hk => by cases hk)⟩
        rw [HR.out, ← HX.out, ← HY.out]
        exact ho7.is

set_option maxRecDepth 100000 in
set_option maxHeartbeats 1000000 in
theorem rsectors_any (v : Value) (l : List Ext) (w : World) (h : extE.Is w v l) (hn : l.length ≤ 100000) :
    Calls Try.prog 48 #[v] w fun e w' => ∃ u, e = .returned u ∧ intE.Is w' u (sortedM (l.map Ext.sector)) ∧ Bl w w' := by
  obtain ⟨A, c, rfl, h1, h2, h3, h4⟩ := h
  have HA := Lib.hid h4
  have hu := Try.underlying34
  clear h1 h2 h3 h4
  go_enter Try.func48, Try.ntmps48
  go_wp2
  go_loopg [3, 7] l.length (fun g s i wr => ∃ (k : Nat), k ≤ l.length ∧ g = l.length - k ∧ i = .int .i64 k ∧ Hid (intE.Is wr s (((l.take k).map Ext.sector).foldl riseM [])) ∧ Bl w wr)
  case atStart => exact ⟨0, by omega, rfl, rfl, Lib.hid (Enc.Is.nil _), Bl.refl _⟩
  case round =>
    obtain ⟨k, hk, rfl, rfl, HO, hbl⟩ := hrel
    have HB := Lib.hid hbl
    clear hbl
    by_cases hlt : k < l.length
    · obtain ⟨ad, rfl, c0, c1, c2, c3, c4⟩ := ext_at (HA.out.bl HB.out) k hlt
      have hst := Lib.hid (show ((l.take (k + 1)).map Ext.sector).foldl riseM [] = riseM (((l.take k).map Ext.sector).foldl riseM []) l[k].sector by
        rw [List.take_succ_eq_append_getElem hlt, List.map_append, List.foldl_append]; rfl)
      have hlen := (rises_spec ((l.take k).map Ext.sector) [] (by simp)).2.2
      rw [List.length_map, List.length_take] at hlen
      generalize ((l.take k).map Ext.sector).foldl riseM [] = xs at *
      generalize l[k] = x at *
      obtain ⟨x0, x1, x2, x3, x4⟩ := x
      dsimp only at c0 c1 c2 c3 c4
      have HLEN := Lib.hid hlen
      clear hlen
      go_wp2_with fail
      refine (rise_any _ _ _ _ HO.out (by have := HLEN.out; simp only [List.length_nil] at this; omega)).mono ?_
      rintro e w1 ⟨u, rfl, ho, hb⟩
      have HO2 := Lib.hid ho
      have HB2 := Lib.hid (HB.out.bl hb)
      clear ho hb
      go_wp2
      go_roundg (l.length - (k + 1))
      case measure => omega
      case rel => exact ⟨k + 1, by omega, rfl, by go_num, Lib.hid (by rw [hst.out]; exact HO2.out), HB2.out⟩
    · go_wp2
      go_ret
      refine ⟨_, rfl, ?_, HB.out⟩
      have := HO.out
      rw [List.take_of_length_le (by omega)] at this
      rw [← rises_sorted]; exact this
end Go.Proofs.Ytaedelhdandflaa.ExtW
