/- Contract of disk.Write. -/
import Derived.Test.YtoocebghlchcoaaGreatDiskW
namespace Go.Proofs.YtoocebghlchcoaaGreat.ExtW
open Go.RowKit Go.Ov Go.Proofs.YtoocebghlchcoaaGreat.Need
theorem range_of_is {w : World} {G : Nat → Bool} {g o c : Nat} {l : List Int} (h : byteE.Is (only w G) (.slice (some ⟨g, o, none⟩) l.length c) l) : w.rangeAt g o (l.map (.int .u8)) := fun j v hv => by
  have hj : j < l.length := by have := (List.getElem?_eq_some_iff.1 hv).1; simpa using this
  obtain ⟨ad, e, hc⟩ := byte_is_cells h j hj
  injection e with e
  rw [← e, addr_add] at hc
  rw [(only_cell hc).2, ← hv]
  simp [hj]
theorem aaddD_any (a : Addr) (x d : Int) (w : World) (h : w.cell? a = some (.int .i64 x)) (f : w.frozen? a = false) :
    Calls Tryz.prog 70 #[.pointer (some a), .int .i64 d] w fun e w' => e = .returned (.int .i64 (wrap64 (x + d))) ∧ w' = w.setCell a (.int .i64 (wrap64 (x + d))) := by
  have hadd := run_call_add (P := Tryz.prog) Tryz.func106 (by kernel_rfl) (by kernel_rfl) (by kernel_rfl) .i64 (by kernel_rfl) (y := d) (s := wrap64 (x + d)) h f (by simp [go_sem, IntKind.wrap_i64]; unfold wrap64; rfl)
  go_enter Tryz.func70, Tryz.ntmps70
  go_wp2
  go_ret
  exact ⟨rfl, rfl⟩
theorem infoWait : (Tryz.prog.info? 153).map (fun i => (i.zero, i.size, i.bytes)) = some (some (.agg (#[.int .i64 0] ++ rowB (List.replicate 128 0))), 129, 136) := by kernel_rfl
theorem built_wait (i : Int) (C : Array Value) (h : C.size = 128) : Tryz.prog.built 153 [(0, .int .i64 i), (1, .agg C)] = some (#[.int .i64 i] ++ C) := by
  have e : Tryz.prog.built 153 [(0, .int .i64 i), (1, .agg C)] = Instr.fill (#[(0, 1), (1, 128)][·]?) (#[.int .i64 0] ++ rowB (List.replicate 128 0)) [(0, .int .i64 i), (1, .agg C)] := by kernel_rfl
  rw [e]
  exact fill_two _ _ _ _ rfl rfl rfl h (by kernel_rfl)
def WrP (w w' : World) (base D K : Nat) (vw : Value) (m : DiskM) (n : Nat) (i : Int) (l : List Int) (e : Ending) : Prop := e = .returned (.int .i64 (writeM n m i l).2) ∧ ∃ vw', DIs w' base D K vw' (writeM n m i l).1 n ∧ DStep w w' D K vw vw'
set_option maxRecDepth 100000 in
set_option maxHeartbeats 1000000 in
theorem dWrite_any {base D K : Nat} {vw vb : Value} {m : DiskM} {n : Nat} (i : Int) (l : List Int) (w : World) (h : DIs w base D K vw m n) (hb : byteE.Is (only w (nbs (dFoot D K vw))) vb l) (ho : okB l) (hl : l.length ≤ 1000000) (hwl : m.waits.length ≤ 900000) :
    Calls Tryz.prog 45 #[.pointer (some ⟨D, 0, none⟩), .int .i64 i, vb] w fun e w' => WrP w w' base D K vw m n i l e := by
  have HD := Lib.hid h
  have HX := Lib.hid hb
  have HO := Lib.hid ho
  have HWl := Lib.hid hwl
  obtain ⟨A, c, rfl, h1, h2, h3, h4⟩ := hb
  clear h h1 h2 h3 h4 ho hwl
  go_enter Tryz.func45, Tryz.ntmps45
  go_wp2_with fail
  refine (dmay_any i _ HD.out).mono ?_
  rintro e w' ⟨rfl, rfl⟩
  by_cases hin : 0 ≤ i ∧ i < n
  · rw [decide_eq_true hin.1, decide_eq_true hin.2]
    by_cases h128 : l.length = 128
    · have hn : (l.length : Int) = 128 := by omega
      have HE := Lib.hid (show writeM n m i l = if (stepM m).dead then (stepM m, 9) else ({ m with pos := if m.stops then m.pos - 1 else m.pos, waits := m.waits ++ [(i.toNat, l)] }, 0) by
        unfold writeM; rw [if_neg (by omega)])
      go_wp2_with fail
      refine (dstep_any _ HD.out).mono ?_
      rintro e w1 ⟨rfl, hd1, hs1⟩
      have HD1 := Lib.hid hd1
      have HS1 := Lib.hid hs1
      clear hd1 hs1
      cases hdd : (stepM m).dead
      · have HM := Lib.hid (show stepM m = m ∧ m.dead = false by
          unfold stepM at hdd ⊢
          split at hdd
          · cases hdd
          · rename_i hq
            rw [if_neg hq]
            exact ⟨rfl, hdd⟩)
        replace HE := Lib.hid (show writeM n m i l = ({ m with pos := if m.stops then m.pos - 1 else m.pos, waits := m.waits ++ [(i.toNat, l)] }, 0) from HE.out.trans (by rw [hdd]; rfl))
        rw [HM.out.1] at HD1
        obtain ⟨r, wr, fl, hk⟩ := HD1.out.dsk
        obtain ⟨pp, hpp⟩ : ∃ p, p = (if m.stops then m.pos - 1 else m.pos) := ⟨_, rfl⟩
        have hpos : m.stops = true → 1 ≤ m.pos := fun hst => by
          have h1 := HD1.out.ok.pb.1
          have h2 := HM.out.1
          rcases (show m.pos = 0 ∨ 1 ≤ m.pos by omega) with h0 | h0
          · have : (stepM m).dead = true := by unfold stepM; rw [hst, h0]; rfl
            rw [hdd] at this; cases this
          · exact h0
        have HPB := Lib.hid (show 0 ≤ pp ∧ pp ≤ 4611686018427387903 by
          have h1 := HD1.out.ok.pb
          rw [hpp]
          split
          · rename_i hst; have := hpos hst; omega
          · exact h1)
        rw [← hpp] at HE
        have HPP := Lib.hid hpp
        obtain ⟨g, hg⟩ : ∃ g o, A = some ⟨g, o, none⟩ := by
          obtain ⟨ad, e, hc⟩ := byte_is_cells HX.out 0 (by omega)
          have := spot_none (only_cell hc).2
          have hz : ad.add 0 = ad := by unfold Addr.add; exact if_pos rfl
          rw [hz] at this
          exact ⟨_, _, by rw [e]; exact congrArg some this⟩
        obtain ⟨o, rfl⟩ := hg
        have c3 := hk.cell 3
        have c4 := hk.cell 4
        have f4 := hk.frozen 4
        simp at c3 c4
        have HK := Lib.hid hk
        clear hk hpp
        have hpw : m.stops = true → IntKind.i64.wrap (m.pos - 1) = m.pos - 1 := fun h => IntWalk.i64_in _ (by have := HD1.out.ok.pb; have := hpos h; omega)
        go_upto_if 22 with (fail)
        go_cut [] (fun wc => Hid (Blk wc D #[.slice (some ⟨K, 0, none⟩) n n, vw, .bool m.dead, .bool m.stops, .int .i64 pp, .int .i64 r, .int .i64 wr, .int .i64 fl] 107) ∧ Hid (Blk wc K (rowB m.img) 114) ∧ Hid (waitE.Own 153 wc base vw m.waits) ∧ Hid (DStep w' wc D K vw vw))
        case first =>
          cases hst : m.stops
          · rw [hst] at c3
            go_wp2_with fail
            go_meet
            exact ⟨Lib.hid (by have := HK.out; rw [HPP.out, hst]; simpa [hst] using this), Lib.hid HD1.out.kept, Lib.hid HD1.out.wait, HS1⟩
          · rw [hst] at c3
            have hpw2 := hpw hst
            clear hpw
            go_wp2_with fail
            go_meet
            refine ⟨Lib.hid ?_, Lib.hid (HD1.out.kept.set_else _ _ _ (blk_ne HK.out HD1.out.kept (by decide))), Lib.hid (HD1.out.wait.grown (setCell_grown _ _ _ _) (.inr (own_blk_ne HD1.out.wait HK.out (by decide)))), Lib.hid (HS1.out.trans ⟨Kp.of_gb (setCell_grown _ _ _ _) (fun k hk => nbs_not (by rw [← hk]; simp)), LiesN.refl _ _⟩)⟩
            have := HK.out.set 4 (.int .i64 (m.pos - 1))
            rw [HPP.out, hst]
            simpa [hst] using this
        case rest =>
        clear c3 c4 f4 hpw
        obtain ⟨HB, HKe, HWa, HS⟩ := hcut
        have HXc := Lib.hid (HS.out.sub.is HX.out)
        have HXr := Lib.hid (show wc.rangeAt g o (l.map (.int .u8)) from fun j v hv => by
          have hj : j < l.length := by have := (List.getElem?_eq_some_iff.1 hv).1; simpa using this
          obtain ⟨ad, e, hc⟩ := byte_is_cells HXc.out j hj
          injection e with e
          rw [← e, addr_add] at hc
          rw [(only_cell hc).2, ← hv]
          simp [hj])
        have c1 := HB.out.cell 1
        have f1 := HB.out.frozen 1
        simp at c1
        go_wp2_with fail
        refine wp_region_ways (S := (fun w' => w'.rangeAt g o (l.map (.int .u8)))) [0, 1, 2, 3, 5, 6, 7, 8, 9, 12, 13] (y := .take 0 (.take 1 (.take 2 (.take 3 (.take 5 (.take 6 (.take 7 (.take 8 (.take 9 (.ev 4 (.ev 10 (.ev 11 (.take 12 (.take 13 (.ev 14 (.done) (.stop)))) (.stop)) (.stop)) (.ev 10 (.ev 4 (.ev 11 (.take 12 (.take 13 (.ev 14 (.done) (.stop)))) (.stop)) (.stop)) (.stop)))))))))))) (by kernel_rfl) (by kernel_rfl) (by kernel_rfl) ?_ (fun hHeld => ?_)
        · exact (World.rangeAt_drew _ _ _ _).2 HXr.out
        clear hHeld
        repeat (first | (refine wpWay_take rfl (by rfl) (by intro w hSw; (try dsimp only at hSw); first | (go_simp; done) | (go_simp; with_reducible rfl)) ?_; try simp only [Act.put, List.setIfInBounds_toArray, List.set_cons_zero, List.set_cons_succ]) | (refine wpWay_skip rfl (by rfl) ?_; try simp only [Act.put, List.setIfInBounds_toArray, List.set_cons_zero, List.set_cons_succ]))
        refine wpWay_take (v := .pointer (some ⟨g, o, none⟩)) rfl (by rfl) (by intro w _; kernel_rfl) ?_
        try simp only [Act.put, List.setIfInBounds_toArray, List.set_cons_zero, List.set_cons_succ]
        refine ⟨_, _, nth_ops (i := 8) rfl, yieldsIf_load_mid rfl 114 (.tmp 37) rfl g o rfl (l.map (.int .u8)) _ (fun w h => h) Tryz.underlying114 rfl (by rw [List.length_map, h128]; kernel_rfl), ?_⟩
        try simp only [Act.put, List.setIfInBounds_toArray, List.set_cons_zero, List.set_cons_succ]
        refine ⟨_, _, nth_ops (i := 9) rfl, yields_build rfl 153 #[(0, .tmp 35), (1, .tmp 38)] rfl (#[Value.int .i64 i] ++ rowB l) (by
          simp only [List.map_toArray, List.map_cons, List.map_nil]
          exact built_wait i (rowB l) (by rw [rowB_size]; exact h128)), ?_⟩
        try simp only [Act.put, List.setIfInBounds_toArray, List.set_cons_zero, List.set_cons_succ]
        replace HB := Lib.hid (HB.out.drew)
        replace HKe := Lib.hid (HKe.out.drew)
        replace HWa := Lib.hid (HWa.out.bl (Bl.refl _).drew)
        replace HS := Lib.hid (HS.out.trans ⟨Kp.of_bl (Bl.refl _).drew, LiesN.refl _ _⟩)
        replace HXr := Lib.hid ((World.rangeAt_drew _ _ _ _).2 HXr.out)
        replace HXc := Lib.hid ((Sub.bl (((Bl.refl wc).drew).only _)).is HXc.out)
        generalize wc.drew = wd at *
        clear c1 f1
        have hcell : (#[Value.int .i64 i] ++ rowB l).toList = waitE.c (i.toNat, l) := by
          rw [wait_c _ _ h128, Array.toList_append, rowB_list, Int.toNat_of_nonneg hin.1]; rfl
        have hcsz : (#[Value.int .i64 i] ++ rowB l).size = 129 := by rw [Array.size_append, rowB_size, h128]; rfl
        generalize #[Value.int .i64 i] ++ rowB l = cells at *
        have HCe := Lib.hid hcell
        have HCs := Lib.hid hcsz
        clear hcell hcsz
        obtain ⟨ie, hie, hzz⟩ := Option.map_eq_some_iff.1 infoWait
        simp only [Prod.mk.injEq] at hzz
        obtain ⟨hz, hs, -⟩ := hzz
        have hfill : Instr.fill (fun i => some (i * ie.size, ie.size)) ((Array.range (1 * ie.size)).map ((Value.agg (#[.int .i64 0] ++ rowB (List.replicate 128 0))).cells[· % (Value.agg (#[.int .i64 0] ++ rowB (List.replicate 128 0))).cells.size]!)) [(0, .agg cells)] = some cells := by
          rw [hs]
          have := Great.fill_whole (s := 129) (by decide) [.agg cells] ((Array.range (1 * 129)).map ((Value.agg (#[.int .i64 0] ++ rowB (List.replicate 128 0))).cells[· % (Value.agg (#[.int .i64 0] ++ rowB (List.replicate 128 0))).cells.size]!)) (fun v hv => by simp at hv; subst hv; exact HCs.out) (by rw [Array.size_map, Array.size_range]; rfl)
          refine this.trans ?_
          simp [Value.cells]
        have HFi := Lib.hid hfill
        have HS1' := Lib.hid (show ¬ 1 * ie.size > 2 ^ 24 by rw [hs]; decide)
        have HS2' := Lib.hid (show ¬ 1 * ie.size = 0 by rw [hs]; decide)
        have HIE := Lib.hid hie
        have HZI := Lib.hid hz
        clear hfill hie hz hs
        refine wpWay_ev rfl (fun K hK => ?_) ?_
        · have c1 := HB.out.cell 1
          simp at c1
          go_wp2_with fail
          refine ⟨HXr.out, ?_⟩
          clear c1
          repeat (first | (refine wpWay_take rfl (by rfl) (by intro w hSw; (try dsimp only at hSw); first | (go_simp; done) | (go_simp; with_reducible rfl)) ?_; try simp only [Act.put, List.setIfInBounds_toArray, List.set_cons_zero, List.set_cons_succ]) | (refine wpWay_skip rfl (by rfl) ?_; try simp only [Act.put, List.setIfInBounds_toArray, List.set_cons_zero, List.set_cons_succ]))
          refine wpWay_ev rfl (fun K hK => ?_) wpWay_stop
          go_wp2_with (refine wpList_buildSlice rfl 100 153 1 _ rfl cells ie _ Tryz.underlying100 HIE.out HZI.out HS1'.out HS2'.out (by simp only [List.map_toArray, List.map_cons, List.map_nil]; exact HFi.out) ?_)
          have HLi := Lib.hid (Enc.Is.lit1 (E := waitE) (e := 153) wd (i.toNat, l) cells HCe.out rfl)
          have hb := (Bl.refl wd).alloc (.cells cells 153)
          replace HXr := Lib.hid (World.rangeAt_alloc HXr.out (.cells cells 153))
          replace HB := Lib.hid (HB.out.bl hb)
          replace HKe := Lib.hid (HKe.out.bl hb)
          replace HWa := Lib.hid (HWa.out.bl hb)
          replace HS := Lib.hid (HS.out.trans ⟨Kp.of_bl hb, LiesN.refl _ _⟩)
          refine ⟨HXr.out, ?_⟩
          clear hb
          generalize wd.alloc (.cells cells 153) = w5 at *
          repeat (first | (refine wpWay_take rfl (by rfl) (by intro w hSw; (try dsimp only at hSw); first | (go_simp; done) | (go_simp; with_reducible rfl)) ?_; try simp only [Act.put, List.setIfInBounds_toArray, List.set_cons_zero, List.set_cons_succ]) | (refine wpWay_skip rfl (by rfl) ?_; try simp only [Act.put, List.setIfInBounds_toArray, List.set_cons_zero, List.set_cons_succ]))
          refine wpWay_ev rfl (fun K hK => ?_) wpWay_stop
          go_wp2_with (at_builtin; refine Enc.Own.appendL (E := waitE) rfl (.tmp 34) (.tmp 40) 100 rfl base 153 _ 129 136 Tryz.underlying100 infoWait rfl (by kernel_rfl) (by decide) (by decide) vw m.waits rfl HWa.out _ _ rfl HLi.out (by simp) (by have := HWl.out; simp; omega) (Nat.le_trans HD.out.lowD (Nat.le_of_lt HB.out.lt)) ?_; intro v6 w6 ho6 hg6 hl6; obtain ⟨L, hL⟩ : ∃ L, L = m.waits ++ [(i.toNat, l)] := ⟨_, rfl⟩; rw [← hL] at ho6; have HLL := Lib.hid hL; clear hL; obtain ⟨A6, ca6, rfl⟩ := ho6.slice)
          have HB6 := Lib.hid (HB.out.grown hg6 (own_blk_ne HWa.out HB.out (by decide)))
          have HK6 := Lib.hid (HKe.out.grown hg6 (own_blk_ne HWa.out HKe.out (by decide)))
          have HS6 := Lib.hid (HS.out.trans ⟨Kp.of_gb hg6 (fun k hk => nbs_not (by rw [← hk]; simp)), hl6.n⟩)
          have HX6 := Lib.hid (range_of_is (HS6.out.sub.is HX.out))
          have HO6 := Lib.hid ho6
          clear ho6 hg6 hl6 HB HKe HWa HS HXr HXc
          refine ⟨HX6.out, ?_⟩
          repeat (first | (refine wpWay_take rfl (by rfl) (by intro w hSw; (try dsimp only at hSw); first | (go_simp; done) | (go_simp; with_reducible rfl)) ?_; try simp only [Act.put, List.setIfInBounds_toArray, List.set_cons_zero, List.set_cons_succ]) | (refine wpWay_skip rfl (by rfl) ?_; try simp only [Act.put, List.setIfInBounds_toArray, List.set_cons_zero, List.set_cons_succ]))
          have c1 := HB6.out.cell 1
          have f1 := HB6.out.frozen 1
          simp at c1
          refine wpWay_ev rfl (fun K hK => ?_) wpWay_stop
          go_wp2_with fail
          have hDK := blk_ne HB6.out HK6.out (by decide)
          have HB7 := Lib.hid (HB6.out.set 1 (.slice A6 L.length ca6))
          have HK7 := Lib.hid (HK6.out.set_else D 1 (.slice A6 L.length ca6) hDK)
          have HO7 := Lib.hid (HO6.out.grown (setCell_grown _ D 1 (.slice A6 L.length ca6)) (.inr (own_blk_ne HO6.out HB6.out (by decide))))
          have HS7 := Lib.hid (HS6.out.trans ⟨Kp.of_gb (setCell_grown w6 D 1 (.slice A6 L.length ca6)) (fun k hk => nbs_not (by rw [← hk]; simp)), LiesN.refl _ _⟩)
          have HX7 := Lib.hid (range_of_is (HS7.out.sub.is HX.out))
          clear HB6 HK6 HO6 HS6 HX6 c1 f1
          generalize w6.setCell ⟨D, 1, none⟩ (.slice A6 L.length ca6) = w7 at *
          refine ⟨HX7.out, ?_⟩
          refine wpWay_done ?_
          have c6 := HB7.out.cell 6
          have f6 := HB7.out.frozen 6
          simp at c6
          go_wp2_with fail
          refine (aaddD_any ⟨D, 6, none⟩ _ 1 _ c6 f6).mono ?_
          rintro e w8 ⟨rfl, rfl⟩
          go_wp2
          go_ret
          refine ⟨by rw [HE.out]; rfl, _, ?_, HS7.out.trans ⟨Kp.of_gb (setCell_grown _ D 6 _) (fun k hk => nbs_not (by rw [← hk]; simp)), LiesN.refl _ _⟩⟩
          rw [HE.out, ← HLL.out]
          refine ⟨⟨r, wrap64 (wr + 1), fl, ?_⟩, HK7.out.set_else D 6 _ hDK, HO7.out.grown (setCell_grown _ D 6 _) (.inr (own_blk_ne HO7.out HB7.out (by decide))), ⟨HD.out.ok.len, HD.out.ok.n1, HD.out.ok.n2, HD.out.ok.ok, fun p hp => ?_, ?_, ?_⟩, HD.out.lowD, HD.out.lowK⟩
          · have := HB7.out.set 6 (.int .i64 (wrap64 (wr + 1)))
            simpa [HPP.out] using this
          · have hp : p ∈ m.waits ++ [(i.toNat, l)] := by rw [← HLL.out]; exact hp
            rcases List.mem_append.1 hp with q | q
            · exact HD.out.ok.wt p q
            · simp at q
              subst q
              exact ⟨by have := hin; omega, h128, HO.out⟩
          · show L.length ≤ 1000000
            rw [HLL.out]; have := HWl.out; simp; omega
          · exact HPB.out
        · refine wpWay_ev rfl (fun K hK => ?_) wpWay_stop
          go_wp2_with (refine wpList_buildSlice rfl 100 153 1 _ rfl cells ie _ Tryz.underlying100 HIE.out HZI.out HS1'.out HS2'.out (by simp only [List.map_toArray, List.map_cons, List.map_nil]; exact HFi.out) ?_)
          have HLi := Lib.hid (Enc.Is.lit1 (E := waitE) (e := 153) wd (i.toNat, l) cells HCe.out rfl)
          have hb := (Bl.refl wd).alloc (.cells cells 153)
          replace HXr := Lib.hid (World.rangeAt_alloc HXr.out (.cells cells 153))
          replace HB := Lib.hid (HB.out.bl hb)
          replace HKe := Lib.hid (HKe.out.bl hb)
          replace HWa := Lib.hid (HWa.out.bl hb)
          replace HS := Lib.hid (HS.out.trans ⟨Kp.of_bl hb, LiesN.refl _ _⟩)
          refine ⟨HXr.out, ?_⟩
          clear hb
          generalize wd.alloc (.cells cells 153) = w5 at *
          repeat (first | (refine wpWay_take rfl (by rfl) (by intro w hSw; (try dsimp only at hSw); first | (go_simp; done) | (go_simp; with_reducible rfl)) ?_; try simp only [Act.put, List.setIfInBounds_toArray, List.set_cons_zero, List.set_cons_succ]) | (refine wpWay_skip rfl (by rfl) ?_; try simp only [Act.put, List.setIfInBounds_toArray, List.set_cons_zero, List.set_cons_succ]))
          refine wpWay_ev rfl (fun K hK => ?_) wpWay_stop
          have c1 := HB.out.cell 1
          simp at c1
          go_wp2_with fail
          refine ⟨HXr.out, ?_⟩
          clear c1
          repeat (first | (refine wpWay_take rfl (by rfl) (by intro w hSw; (try dsimp only at hSw); first | (go_simp; done) | (go_simp; with_reducible rfl)) ?_; try simp only [Act.put, List.setIfInBounds_toArray, List.set_cons_zero, List.set_cons_succ]) | (refine wpWay_skip rfl (by rfl) ?_; try simp only [Act.put, List.setIfInBounds_toArray, List.set_cons_zero, List.set_cons_succ]))
          refine wpWay_ev rfl (fun K hK => ?_) wpWay_stop
          go_wp2_with (at_builtin; refine Enc.Own.appendL (E := waitE) rfl (.tmp 34) (.tmp 40) 100 rfl base 153 _ 129 136 Tryz.underlying100 infoWait rfl (by kernel_rfl) (by decide) (by decide) vw m.waits rfl HWa.out _ _ rfl HLi.out (by simp) (by have := HWl.out; simp; omega) (Nat.le_trans HD.out.lowD (Nat.le_of_lt HB.out.lt)) ?_; intro v6 w6 ho6 hg6 hl6; obtain ⟨L, hL⟩ : ∃ L, L = m.waits ++ [(i.toNat, l)] := ⟨_, rfl⟩; rw [← hL] at ho6; have HLL := Lib.hid hL; clear hL; obtain ⟨A6, ca6, rfl⟩ := ho6.slice)
          have HB6 := Lib.hid (HB.out.grown hg6 (own_blk_ne HWa.out HB.out (by decide)))
          have HK6 := Lib.hid (HKe.out.grown hg6 (own_blk_ne HWa.out HKe.out (by decide)))
          have HS6 := Lib.hid (HS.out.trans ⟨Kp.of_gb hg6 (fun k hk => nbs_not (by rw [← hk]; simp)), hl6.n⟩)
          have HX6 := Lib.hid (range_of_is (HS6.out.sub.is HX.out))
          have HO6 := Lib.hid ho6
          clear ho6 hg6 hl6 HB HKe HWa HS HXr HXc
          refine ⟨HX6.out, ?_⟩
          repeat (first | (refine wpWay_take rfl (by rfl) (by intro w hSw; (try dsimp only at hSw); first | (go_simp; done) | (go_simp; with_reducible rfl)) ?_; try simp only [Act.put, List.setIfInBounds_toArray, List.set_cons_zero, List.set_cons_succ]) | (refine wpWay_skip rfl (by rfl) ?_; try simp only [Act.put, List.setIfInBounds_toArray, List.set_cons_zero, List.set_cons_succ]))
          have c1 := HB6.out.cell 1
          have f1 := HB6.out.frozen 1
          simp at c1
          refine wpWay_ev rfl (fun K hK => ?_) wpWay_stop
          go_wp2_with fail
          have hDK := blk_ne HB6.out HK6.out (by decide)
          have HB7 := Lib.hid (HB6.out.set 1 (.slice A6 L.length ca6))
          have HK7 := Lib.hid (HK6.out.set_else D 1 (.slice A6 L.length ca6) hDK)
          have HO7 := Lib.hid (HO6.out.grown (setCell_grown _ D 1 (.slice A6 L.length ca6)) (.inr (own_blk_ne HO6.out HB6.out (by decide))))
          have HS7 := Lib.hid (HS6.out.trans ⟨Kp.of_gb (setCell_grown w6 D 1 (.slice A6 L.length ca6)) (fun k hk => nbs_not (by rw [← hk]; simp)), LiesN.refl _ _⟩)
          have HX7 := Lib.hid (range_of_is (HS7.out.sub.is HX.out))
          clear HB6 HK6 HO6 HS6 HX6 c1 f1
          generalize w6.setCell ⟨D, 1, none⟩ (.slice A6 L.length ca6) = w7 at *
          refine ⟨HX7.out, ?_⟩
          refine wpWay_done ?_
          have c6 := HB7.out.cell 6
          have f6 := HB7.out.frozen 6
          simp at c6
          go_wp2_with fail
          refine (aaddD_any ⟨D, 6, none⟩ _ 1 _ c6 f6).mono ?_
          rintro e w8 ⟨rfl, rfl⟩
          go_wp2
          go_ret
          refine ⟨by rw [HE.out]; rfl, _, ?_, HS7.out.trans ⟨Kp.of_gb (setCell_grown _ D 6 _) (fun k hk => nbs_not (by rw [← hk]; simp)), LiesN.refl _ _⟩⟩
          rw [HE.out, ← HLL.out]
          refine ⟨⟨r, wrap64 (wr + 1), fl, ?_⟩, HK7.out.set_else D 6 _ hDK, HO7.out.grown (setCell_grown _ D 6 _) (.inr (own_blk_ne HO7.out HB7.out (by decide))), ⟨HD.out.ok.len, HD.out.ok.n1, HD.out.ok.n2, HD.out.ok.ok, fun p hp => ?_, ?_, ?_⟩, HD.out.lowD, HD.out.lowK⟩
          · have := HB7.out.set 6 (.int .i64 (wrap64 (wr + 1)))
            simpa [HPP.out] using this
          · have hp : p ∈ m.waits ++ [(i.toNat, l)] := by rw [← HLL.out]; exact hp
            rcases List.mem_append.1 hp with q | q
            · exact HD.out.ok.wt p q
            · simp at q
              subst q
              exact ⟨by have := hin; omega, h128, HO.out⟩
          · show L.length ≤ 1000000
            rw [HLL.out]; have := HWl.out; simp; omega
          · exact HPB.out
      · have HE2 := Lib.hid (show writeM n m i l = (stepM m, 9) from HE.out.trans (by rw [hdd]; rfl))
        go_wp2
        go_ret
        exact ⟨by rw [HE2.out]; rfl, vw, by rw [HE2.out]; exact HD1.out, HS1.out⟩
    · have hn : ¬ (l.length : Int) = 128 := by omega
      have HE := Lib.hid (show writeM n m i l = (m, 1) by unfold writeM; rw [if_pos (by omega)])
      go_wp2
      go_ret
      exact ⟨by rw [HE.out]; rfl, vw, by rw [HE.out]; exact HD.out, DStep.refl _ _ _ _⟩
  · have HF := Lib.hid (show (decide (0 ≤ i) && decide (i < n)) = false by
      rcases (show ¬ 0 ≤ i ∨ ¬ i < n by omega) with h | h
      · rw [decide_eq_false h]; rfl
      · rw [decide_eq_false h, Bool.and_false])
    rw [HF.out]
    have HE := Lib.hid (show writeM n m i l = (m, 1) by unfold writeM; rw [if_pos (by omega)])
    go_wp2
    go_ret
    exact ⟨by rw [HE.out]; rfl, vw, by rw [HE.out]; exact HD.out, DStep.refl _ _ _ _⟩
end Go.Proofs.YtoocebghlchcoaaGreat.ExtW
