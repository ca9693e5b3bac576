/- Contracts of disk.Flush, Image. -/
import Derived.Test.YtoocebghlchcoaaGreatDiskX
import Derived.Deep.WholeRow
namespace Go.Proofs.YtoocebghlchcoaaGreat.ExtW
open Go.RowKit Go.Ov Go.Proofs.YtoocebghlchcoaaGreat.Need
def flushM (m : DiskM) : DiskM × Int := if (stepM m).dead then (stepM m, 9) else ({ m with img := flushI m.img m.waits, waits := [] }, 0)
def FlP (w w' : World) (base D K : Nat) (vw : Value) (m : DiskM) (n : Nat) (e : Ending) : Prop := e = .returned (.int .i64 (flushM m).2) ∧ ∃ vw', DIs w' base D K vw' (flushM m).1 n ∧ DStep w w' D K vw vw'
set_option maxRecDepth 100000 in
set_option maxHeartbeats 1000000 in
theorem dFlush_any {base D Kb : Nat} {vw : Value} {m : DiskM} {n : Nat} (w : World) (h : DIs w base D Kb vw m n) :
    Calls Tryz.prog 46 #[.pointer (some ⟨D, 0, none⟩)] w fun e w' => FlP w w' base D Kb vw m n e := by
  have HD := Lib.hid h
  clear h
  go_enter Tryz.func46, Tryz.ntmps46
  go_wp2_with fail
  refine (dstep_any _ HD.out).mono ?_
  rintro e w1 ⟨rfl, hd1, hs1⟩
  have HD1 := Lib.hid hd1
  have HS1 := Lib.hid hs1
  clear hd1 hs1
  cases hdd : (stepM m).dead
  · have HM := Lib.hid (show stepM m = m by
      unfold stepM at hdd ⊢
      split at hdd
      · cases hdd
      · rename_i hq
        rw [if_neg hq])
    have HE := Lib.hid (show flushM m = ({ m with img := flushI m.img m.waits, waits := [] }, 0) by unfold flushM; rw [hdd]; rfl)
    rw [HM.out] at HD1
    obtain ⟨r, q, fl, hk⟩ := HD1.out.dsk
    have HK := Lib.hid hk
    obtain ⟨A, c, rfl⟩ := HD1.out.wait.slice
    have hwl := HD1.out.ok.wl
    have c1 := hk.cell 1
    simp at c1
    clear hk
    go_wp2_with fail
    go_loopg [13] m.waits.length (fun gk i wc => ∃ (k : Nat), k ≤ m.waits.length ∧ gk = m.waits.length - k ∧ i = .int .i64 k ∧ Hid (Blk wc D #[.slice (some ⟨Kb, 0, none⟩) n n, .slice A m.waits.length c, .bool m.dead, .bool m.stops, .int .i64 m.pos, .int .i64 r, .int .i64 q, .int .i64 fl] 107) ∧ Hid (Blk wc Kb (rowB (flushI m.img (m.waits.take k))) 114) ∧ Hid (waitE.Own 153 wc base (.slice A m.waits.length c) m.waits) ∧ Hid (DStep w1 wc D Kb (.slice A m.waits.length c) (.slice A m.waits.length c)))
    case atStart => exact ⟨0, by omega, rfl, rfl, HK, Lib.hid HD1.out.kept, Lib.hid HD1.out.wait, Lib.hid (DStep.refl _ _ _ _)⟩
    case round =>
      obtain ⟨k, hk, hgk, rfl, HB, HKe, HWa, HS⟩ := hrel
      by_cases hlt : k < m.waits.length
      · have hlti : (k : Int) < m.waits.length := by omega
        obtain ⟨g, rfl⟩ : ∃ g, A = some ⟨g, 0, none⟩ := by
          rcases HWa.out.2 with ⟨_, e⟩ | ⟨g, c', cur, e, _⟩
          · omega
          · simp only [Value.slice.injEq] at e; exact ⟨g, e.1⟩
        obtain ⟨p, hp⟩ : ∃ p, p = m.waits[k] := ⟨_, rfl⟩
        have hpk : m.waits[k]? = some p := by rw [hp]; exact List.getElem?_eq_getElem hlt
        have HR := Lib.hid (range_own HWa.out.is rfl k p hpk)
        have HPw := Lib.hid (HD1.out.ok.wt p (by rw [hp]; exact List.getElem_mem hlt))
        have HTk := Lib.hid (show m.waits.take (k + 1) = m.waits.take k ++ [p] by rw [hp]; exact List.take_succ_eq_append_getElem hlt)
        clear hp hpk
        obtain ⟨pi, ps⟩ := p
        have hcl : (waitE.c (pi, ps)).length = 129 := waitE.len _
        have HCw := Lib.hid (wait_c pi ps HPw.out.2.1)
        generalize waitE.c (pi, ps) = cw at *
        have hone : cw.toArray.all (·.oneCell') = true := all_oneCell_toArray (fun v hv => by
          rw [HCw.out] at hv
          rcases List.mem_cons.1 hv with rfl | hv
          · rfl
          · obtain ⟨x, -, rfl⟩ := List.mem_map.1 hv; rfl)
        have HOn := Lib.hid hone
        have HCl := Lib.hid hcl
        clear hone hcl
        have hst : (storeCells ⟨wr.heap.size, 0, none⟩ cw).run Tryz.prog (wr.alloc (.cells Tryz.zeroCells153 153)) = .ok () (wr.alloc (.cells cw.toArray 153)) := by
          have := run_storeCells_new (P := Tryz.prog) wr 153 Tryz.zeroCells153 cw.toArray (by rw [show cw.toArray.size = 129 by simp [HCl.out]]; kernel_rfl) (by rw [show cw.toArray.size = 129 by simp [HCl.out]]; kernel_rfl) HOn.out
          simpa using this
        go_wp2_with (refine wpList_load_mid rfl 153 (.tmp 15) rfl g (k * 129) rfl cw _ HR.out Tryz.underlying153 rfl (by rw [HCl.out]; kernel_rfl) ?_)
        clear hst
        have hb := (Bl.refl wr).alloc (.cells cw.toArray 153)
        have HN := Lib.hid (Blk.new wr cw.toArray 153)
        have hN := wr.heap.size
        replace HB := Lib.hid (HB.out.bl hb)
        replace HKe := Lib.hid (HKe.out.bl hb)
        replace HWa := Lib.hid (HWa.out.bl hb)
        replace HS := Lib.hid (HS.out.trans ⟨Kp.of_bl hb, LiesN.refl _ _⟩)
        generalize wr.alloc (.cells cw.toArray 153) = wd at *
        generalize wr.heap.size = N at *
        clear hb hN
        have hN0 : wd.cell? ⟨N, 0, none⟩ = some (.int .i64 pi) := by rw [HN.out.cell 0, HCw.out]; rfl
        have hNr : wd.rangeAt N 1 (ps.map (.int .u8)) := fun j v hv => by
          rw [HN.out.cell (1 + j), HCw.out, List.getElem?_toArray, Nat.add_comm, List.getElem?_cons_succ]; exact hv
        have c0 := HB.out.cell 0
        simp at c0
        refine wp_region_ways (S := (fun w' => w'.cell? ⟨D, 0, none⟩ = some (.slice (some ⟨Kb, 0, none⟩) n n) ∧ w'.cell? ⟨N, 0, none⟩ = some (.int .i64 pi) ∧ w'.rangeAt N 1 (ps.map (.int .u8)))) [0, 1, 2, 3, 4, 5, 6, 7, 8] (y := .take 0 (.take 1 (.take 2 (.take 3 (.take 4 (.take 5 (.take 6 (.take 7 (.take 8 (.ev 9 (.done) (.stop))))))))))) (by kernel_rfl) (by kernel_rfl) (by kernel_rfl) ?_ (fun hHeld => ?_)
        · exact ⟨c0, hN0, (World.rangeAt_drew _ _ _ _).2 hNr⟩
        clear hHeld
        have hpi : pi < n := HPw.out.1
        have hpii : (pi : Int) < n := by omega
        repeat (first | (refine wpWay_take rfl (by rfl) (by intro w hSw; (try dsimp only at hSw); first | (go_simp; done) | (go_simp; with_reducible rfl)) ?_; try simp only [Act.put, List.setIfInBounds_toArray, List.set_cons_zero, List.set_cons_succ]) | (refine wpWay_skip rfl (by rfl) ?_; try simp only [Act.put, List.setIfInBounds_toArray, List.set_cons_zero, List.set_cons_succ]))
        refine ⟨_, _, nth_ops (i := 7) rfl, yieldsIf_load_mid rfl 114 (.tmp 23) rfl N 1 rfl (ps.map (.int .u8)) _ (fun w h => h.2.2) Tryz.underlying114 rfl (by rw [List.length_map, HPw.out.2.1]; kernel_rfl), ?_⟩
        try simp only [Act.put, List.setIfInBounds_toArray, List.set_cons_zero, List.set_cons_succ]
        repeat (first | (refine wpWay_take rfl (by rfl) (by intro w hSw; (try dsimp only at hSw); first | (go_simp; done) | (go_simp; with_reducible rfl)) ?_; try simp only [Act.put, List.setIfInBounds_toArray, List.set_cons_zero, List.set_cons_succ]) | (refine wpWay_skip rfl (by rfl) ?_; try simp only [Act.put, List.setIfInBounds_toArray, List.set_cons_zero, List.set_cons_succ]))
        replace HB := Lib.hid (HB.out.drew)
        replace HKe := Lib.hid (HKe.out.drew)
        replace HN := Lib.hid (HN.out.drew)
        replace HWa := Lib.hid (HWa.out.bl (Bl.refl _).drew)
        replace HS := Lib.hid (HS.out.trans ⟨Kp.of_bl (Bl.refl _).drew, LiesN.refl _ _⟩)
        generalize wd.drew = we at *
        have hIl := flush_len (m.waits.take k) m.img HD1.out.ok.len (fun p hp => HD1.out.ok.wt p (List.mem_of_mem_take hp))
        refine wpWay_ev rfl (fun K hK => ?_) wpWay_stop
        go_wp2_with (refine wpList_storeB rfl 114 (.tmp 25) (.tmp 24) rfl Kb (pi * 128) (flushI m.img (m.waits.take k)) ps 114 rfl rfl HKe.out (by rw [hIl, HPw.out.2.1]; omega) (by rw [HPw.out.2.1]; kernel_rfl) ?_)
        have hDK := blk_ne HB.out HKe.out (by decide)
        have hNK := blk_ne HN.out HKe.out (by decide)
        have hgS := setRow_grown we Kb (rowB (lay (flushI m.img (m.waits.take k)) (pi * 128) ps))
        have HB2 := Lib.hid (HB.out.grown hgS (fun e => hDK (Option.some.inj e).symm))
        have HN2 := Lib.hid (HN.out.grown hgS (fun e => hNK (Option.some.inj e).symm))
        have HK2 := Lib.hid (show Blk (we.setRow Kb (rowB (lay (flushI m.img (m.waits.take k)) (pi * 128) ps))) Kb (rowB (flushI m.img (m.waits.take (k + 1)))) 114 by
          rw [HTk.out]
          unfold flushI
          rw [List.foldl_append]
          rw [Nat.mul_comm pi 128]
          exact blk_setRow HKe.out)
        have HW2 := Lib.hid (HWa.out.grown hgS (.inr (own_blk_ne HWa.out HKe.out (by decide))))
        have HS2 := Lib.hid (HS.out.trans ⟨Kp.of_gb hgS (fun k hk => nbs_not (by rw [← hk]; simp)), LiesN.refl _ _⟩)
        have hN0 : (we.setRow Kb (rowB (lay (flushI m.img (m.waits.take k)) (pi * 128) ps))).cell? ⟨N, 0, none⟩ = some (.int .i64 pi) := by rw [HN2.out.cell 0, HCw.out]; rfl
        have hNr : (we.setRow Kb (rowB (lay (flushI m.img (m.waits.take k)) (pi * 128) ps))).rangeAt N 1 (ps.map (.int .u8)) := fun j v hv => by
          rw [HN2.out.cell (1 + j), HCw.out, List.getElem?_toArray, Nat.add_comm, List.getElem?_cons_succ]; exact hv
        refine ⟨⟨HB2.out.cell 0, hN0, hNr⟩, ?_⟩
        clear hN0 hNr hgS HB HKe HWa HS HN
        generalize we.setRow Kb (rowB (lay (flushI m.img (m.waits.take k)) (pi * 128) ps)) = wf at *
        refine wpWay_done ?_
        go_wp2_with fail
        go_roundg (m.waits.length - (k + 1))
        case measure => omega
        case rel => exact ⟨k + 1, by omega, rfl, by go_num, HB2, HK2, HW2, HS2⟩
      · obtain rfl : k = m.waits.length := by omega
        have HK2 := Lib.hid (show Blk wr Kb (rowB (flushI m.img m.waits)) 114 by have := HKe.out; rwa [List.take_length] at this)
        have f1 := HB.out.frozen 1
        have c1 := HB.out.cell 1
        simp at c1
        have hDK := blk_ne HB.out HK2.out (by decide)
        have HB3 := Lib.hid (HB.out.set 1 (.slice none 0 0))
        have HK3 := Lib.hid (HK2.out.set_else D 1 (.slice none 0 0) hDK)
        have HS3 := Lib.hid (HS.out.trans (v2 := .slice none 0 0) ⟨Kp.of_gb (setCell_grown wr D 1 (.slice none 0 0)) (fun k hk => nbs_not (by rw [← hk]; simp)), LiesN.none _ _⟩)
        have c7 := HB3.out.cell 7
        have f7 := HB3.out.frozen 7
        simp at c7
        go_wp2_with fail
        refine (aaddD_any ⟨D, 7, none⟩ _ 1 _ c7 f7).mono ?_
        rintro e w8 ⟨rfl, rfl⟩
        go_wp2
        go_ret
        refine ⟨by rw [HE.out]; rfl, .slice none 0 0, ?_, (HS1.out.trans HS3.out).trans ⟨Kp.of_gb (setCell_grown _ D 7 _) (fun k hk => nbs_not (by rw [← hk]; simp)), LiesN.refl _ _⟩⟩
        rw [HE.out]
        refine ⟨⟨r, q, wrap64 (fl + 1), ?_⟩, HK3.out.set_else D 7 _ hDK, Enc.Own.nil _ _ _, ⟨flush_len _ _ HD1.out.ok.len HD1.out.ok.wt, HD1.out.ok.n1, HD1.out.ok.n2, flush_ok _ _ HD1.out.ok.ok (fun p hp => (HD1.out.ok.wt p hp).2.2), by simp, by simp, HD1.out.ok.pb⟩, HD1.out.lowD, HD1.out.lowK⟩
        have := HB3.out.set 7 (.int .i64 (wrap64 (fl + 1)))
        simpa using this
  · have HE := Lib.hid (show flushM m = (stepM m, 9) by unfold flushM; rw [hdd]; rfl)
    go_wp2
    go_ret
    exact ⟨by rw [HE.out]; rfl, vw, by rw [HE.out]; exact HD1.out, HS1.out⟩
end Go.Proofs.YtoocebghlchcoaaGreat.ExtW
