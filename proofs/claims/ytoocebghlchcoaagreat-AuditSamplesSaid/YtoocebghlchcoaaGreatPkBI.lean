/- Several texts joined (see each one's head). -/
import Derived.Test.YtoocebghlchcoaaGreatPkBH
import Derived.Test.YtoocebghlchcoaaGreatPkAW
import Derived.Test.YtoocebghlchcoaaGreatPkAZ
import Derived.Test.YtoocebghlchcoaaGreatPkBC
import Derived.Test.YtoocebghlchcoaaGreatPkBE
import Derived.Test.YtoocebghlchcoaaGreatPkBF
/- audit's law: its wakes. -/
namespace Go.Proofs.YtoocebghlchcoaaGreat.ExtW
open Go.RowKit Go.Ov Go.Proofs.YtoocebghlchcoaaGreat.Need
set_option maxRecDepth 100000 in
set_option maxHeartbeats 2000000 in
theorem wakes26_any (w : World) : Calls Tryz.prog 11 #[] w fun e w' => e = .returned (.bool true) ∧ Bl w w' := by
  go_enter Tryz.func11, Tryz.ntmps11
  go_wp2_with fail
  refine (dNew_any 40 _ (by decide) (by decide)).mono ?_
  rintro e w1 ⟨D, rfl, hb1, Kb, hd⟩
  have HB1 := Lib.hid hb1
  have HD := Lib.hid hd
  clear hb1 hd
  go_wp2_with fail
  refine (sFormat_any 8 _ HD.out (by decide) (by decide) (by decide)).mono ?_
  rintro e w2 ⟨rfl, v2, hd2, hs2⟩
  obtain ⟨img, himg⟩ : ∃ img, img = formatM (List.replicate (128 * 40) 0) 8 := ⟨_, rfl⟩
  rw [← himg] at hd2
  have HI := Lib.hid himg
  have HD2 := Lib.hid hd2
  have HB2 := Lib.hid (hs2.kp.bl HB1.out fun i hi => nbs_iff.2 fun hm => by
    simp only [List.mem_cons, List.not_mem_nil, or_false] at hm
    rcases hm with e | e | e
    · injection e with e; have := HD.out.lowD; omega
    · injection e with e; have := HD.out.lowK; omega
    · cases e)
  clear himg hd2 hs2 HD HB1
  go_wp2_with fail
  refine (dImage_any _ HD2.out).mono ?_
  rintro e w3 ⟨u3, rfl, ho3, hb3⟩
  have HO3 := Lib.hid ho3
  have HB3 := Lib.hid (HB2.out.trans hb3)
  have HD3 := Lib.hid (HD2.out.bl hb3)
  clear ho3 hb3 HD2 HB2
  go_wp2_with fail
  refine (aReach_zero u3 _ (found_format u3 img 40 8 _ HO3.out.is HI.out (by decide) (by decide) (by decide) (by decide))).mono ?_
  rintro e w4 ⟨rfl, hb4⟩
  have HB4 := Lib.hid (HB3.out.trans hb4)
  have HD4 := Lib.hid (HD3.out.bl hb4)
  clear hb4 HO3 HD3 HB3
  go_wp2_with fail
  refine (dImage_any _ HD4.out).mono ?_
  rintro e w5 ⟨u5, rfl, ho5, hb5⟩
  have HO5 := Lib.hid ho5
  have HB5 := Lib.hid (HB4.out.trans hb5)
  clear ho5 hb5 HD4 HB4
  go_wp2_with fail
  refine (aShow_zero u5 _ (found_format u5 img 40 8 _ HO5.out.is HI.out (by decide) (by decide) (by decide) (by decide))).mono ?_
  rintro e w6 ⟨rfl, hb6⟩
  have HB6 := Lib.hid (HB5.out.trans hb6)
  clear hb6 HO5 HB5
  unfold viewC
  go_wp2
  go_ret
  exact ⟨rfl, HB6.out.alloc _⟩
end Go.Proofs.YtoocebghlchcoaaGreat.ExtW

/- The walk of overdublaw26.AuditSamples. -/
namespace Go.Proofs.YtoocebghlchcoaaGreat.ExtW
open Go.RowKit Go.Ov Go.Proofs.YtoocebghlchcoaaGreat.Need
/-- counts as cells -/
def cntC (cs : List Int) : Array Value := (cs.map (Value.int .i64)).toArray
theorem cntC_at (cs : List Int) (i : Nat) (h : i < cs.length) : (cntC cs)[i]? = some (.int .i64 cs[i]) := by simp [cntC, h]
theorem cntC_set (cs : List Int) (i : Nat) (x : Int) : (cntC cs).setIfInBounds i (.int .i64 x) = cntC (cs.set i x) := by
  apply Array.toList_inj.1
  simp [cntC, List.map_set]
theorem chk_of {x : List Int} (h : x.all okS = true) (hl : x.length ≤ 64) : chkM x = 0 := by unfold chkM; rw [if_pos h, if_neg (by omega)]
/-- an image of 20 sectors in a block, counts in another one -/
def LawSt (w wr : World) (GB GC : Nat) : Prop := ∃ (img cs : List Int), img.length = 2560 ∧ okB img ∧ cs.length = 20 ∧ (∀ c ∈ cs, 0 ≤ c ∧ c ≤ 64) ∧ Blk wr GB (rowB img) 5 ∧ Blk wr GC (cntC cs) 26 ∧ Bl w wr
theorem LawSt.bl {w wr wr' : World} {GB GC : Nat} (h : LawSt w wr GB GC) (hb : Bl wr wr') : LawSt w wr' GB GC := by
  obtain ⟨img, cs, a1, a2, a3, a4, a5, a6, a7⟩ := h
  exact ⟨img, cs, a1, a2, a3, a4, a5.bl hb, a6.bl hb, a7.trans hb⟩
theorem LawSt.grown {w a b : World} {GB GC base : Nat} {row : Option Nat} (h : LawSt w a GB GC) (hg : a.grownBy b row) (hr : ∀ k, row = some k → base ≤ k) (h1 : w.heap.size ≤ base) (h2 : GC < base) (h3 : GB < GC := by omega) : LawSt w b GB GC := by
  obtain ⟨img, cs, a1, a2, a3, a4, a5, a6, a7⟩ := h
  exact ⟨img, cs, a1, a2, a3, a4, a5.grown hg (fun e => by have := hr _ e; omega), a6.grown hg (fun e => by have := hr _ e; omega), a7.grown hg (fun k hk => by have := hr k hk; omega)⟩
set_option maxRecDepth 100000 in
set_option maxHeartbeats 8000000 in
theorem auditSamples_walk (v0 : Value) (xs : List (List Int)) (v1 : Value) (l : List Ext) (v2 : Value) (at_ : List Int) (raw : Bool) (cut : Int) (w : World) (h0 : ArgIntss w v0 xs) (h1 : ArgExts w v1 l) (h2 : ArgInts w v2 at_) (_ : -9223372036854775808 ≤ cut ∧ cut ≤ 9223372036854775807) :
    Calls Tryz.prog 3 #[v0, v1, v2, .bool raw, .int .i64 cut] w fun e w' => e = .returned (.bool true) ∧ Bl w w' := by
  obtain ⟨A0, c0, hs, rfl, q1, q2, hA0, hR0⟩ := h0
  have HA0 := Lib.hid hA0
  have HR0 := Lib.hid hR0
  have HL1 := Lib.hid h1.1
  obtain ⟨A2, c2, rfl, -, -, -, hA2⟩ := h2.1
  have HA2 := Lib.hid hA2
  have hat : at_.length ≤ 9223372036854775807 := by have := h2.2.1; omega
  clear h2 hA2
  have hhs : hs.length ≤ 9223372036854775807 := by unfold maxLen at q2; omega
  obtain ⟨Z, hZ⟩ : ∃ Z, Z = rowB (List.replicate 2560 0) := ⟨_, rfl⟩
  have hmk : ∀ w, (Instr.makeSlice 25 (.int .i64 2560) (.int .i64 2560)).run Tryz.prog w = .ok (.slice (some ⟨w.heap.size, 0, none⟩) 2560 2560) (w.alloc (.cells Z 5)) := fun w => by
    have := run_make_row' (P := Tryz.prog) 25 5 (.int .u8 0) 1 Tryz.underlying25 infoByte rfl .i64 .i64 2560 (by omega) (by omega) w
    rw [hZ, ← row_made]; exact this
  have HB1 := Lib.hid ((Bl.refl w).alloc (.cells Z 5))
  have HZ := Lib.hid (show Blk (w.alloc (.cells Z 5)) w.heap.size (rowB (List.replicate 2560 0)) 5 by rw [← hZ]; exact Blk.new _ _ _)
  clear hA0 hR0 h1 q1 q2 hZ
  have HS1 := Lib.hid (fun cells (hc : cells = cntC (List.replicate 20 0)) => (show LawSt w ((w.alloc (.cells Z 5)).alloc (.cells cells 26)) w.heap.size (w.heap.size + 1) from by
    have e : (w.alloc (.cells Z 5)).heap.size = w.heap.size + 1 := by simp
    refine ⟨List.replicate 2560 0, List.replicate 20 0, by simp, (fun c hc => by rw [(List.mem_replicate.1 hc).2]; omega), by simp, (fun c hc => by rw [(List.mem_replicate.1 hc).2]; omega), HZ.out.bl ((Bl.refl _).alloc _), ?_, HB1.out.alloc _⟩
    rw [← e]
    exact Blk.newC _ _ hc))
  clear HZ HB1
  go_enter Tryz.func3, Tryz.ntmps3
  go_wp2_with fail
  have HS0 := Lib.hid (HS1.out _ rfl)
  clear HS1 hmk
  generalize hGB : w.heap.size = GB at *
  have HGB := Lib.hid hGB
  clear hGB
  go_loopg [13] 6 (fun gk i wr => ∃ j : Nat, j ≤ 6 ∧ gk = 6 - j ∧ i = .int .i64 j ∧ Hid (LawSt w wr GB (GB + 1)))
  case atStart => exact ⟨0, by omega, rfl, rfl, HS0⟩
  case round =>
    obtain ⟨j, hj, hgj, rfl, HS⟩ := hrel
    go_upto_region 4 with (fail)
    go_cut [38] (fun v38 wc => ∃ b : Bool, v38 = .bool b ∧ Hid (b = true → j < hs.length ∧ j < 6) ∧ wc = wr)
    case first =>
      rcases (show ¬ ((j : Int) < hs.length) ∨ ((j : Int) < hs.length ∧ ¬ (j : Int) < 6) ∨ ((j : Int) < hs.length ∧ (j : Int) < 6) by omega) with h | ⟨h, h'⟩ | ⟨h, h'⟩
      · go_wp2_with fail
        go_meet
        exact ⟨false, rfl, Lib.hid (fun h => by cases h), rfl⟩
      · go_wp2_with fail
        go_meet
        exact ⟨false, rfl, Lib.hid (fun h => by cases h), rfl⟩
      · go_wp2_with fail
        go_meet
        exact ⟨true, rfl, Lib.hid (fun _ => by omega), rfl⟩
    case rest =>
    obtain ⟨bb, rfl, HBB, hwc⟩ := hcut
    obtain rfl : wr = wc := hwc.symm
    obtain ⟨img, cs, hi1, hi2, hc1, hc2, hbi, hbc, hbl⟩ := HS.out
    have HB := Lib.hid hbl
    cases bb with
    | true =>
      obtain ⟨hjn, hj6⟩ := HBB.out rfl
      clear HBB
      have hjni : (j : Int) < hs.length := by omega
      have hj6i : (j : Int) < 6 := by omega
      obtain ⟨ad, rfl, d0⟩ := head_at (HA0.out.bl HB.out) j hjn
      have hlx : j < xs.length := by rw [← HR0.out.1]; exact hjn
      obtain ⟨p1, p2, p3, p4, p5⟩ := HR0.out.2 j _ _ (List.getElem?_eq_getElem hjn) (List.getElem?_eq_getElem hlx)
      generalize hs[j] = hd at *
      generalize xs[j] = x at *
      obtain ⟨Ah, nh, ch⟩ := hd
      dsimp only [Head.v] at d0 p1 p2 p3 p4 p5
      subst p1
      have HX := Lib.hid (show intE.Is wr (.slice Ah x.length ch) x from ⟨Ah, ch, rfl, p2, p3, p4, p5.bl hbl⟩)
      have hxl : x.length ≤ 9223372036854775807 := by unfold maxLen at p3; omega
      have HI := Lib.hid (show img.length = 2560 ∧ okB img ∧ cs.length = 20 ∧ (∀ c ∈ cs, 0 ≤ c ∧ c ≤ 64) from ⟨hi1, hi2, hc1, hc2⟩)
      have HBi := Lib.hid hbi
      have HBc := Lib.hid hbc
      clear p2 p3 p4 p5 hi1 hi2 hc1 hc2 hbi hbc hbl HS
      go_wp2_with fail
      refine (ksamples_any _ x 64 _ HX.out hxl (by decide)).mono ?_
      rintro e w3 ⟨u3, rfl, y, hyo, hyl, hys, hb3⟩
      have HY := Lib.hid hyo.is
      have HCk := Lib.hid (chk_of hys (by omega))
      have HB3 := Lib.hid (HB.out.trans hb3)
      have HBi3 := Lib.hid (HBi.out.bl hb3)
      have HBc3 := Lib.hid (HBc.out.bl hb3)
      have hy64 : y.length ≤ 64 := by omega
      clear hyo hyl hys hb3 HBi HBc
      go_wp2_with fail
      refine (q5Pack_any u3 y _ HY.out HCk.out).mono ?_
      rintro e w4 ⟨hb4, u4, m, c4, rfl, hc4⟩
      have HC4 := Lib.hid hc4
      have HB4 := Lib.hid (HB3.out.trans hb4)
      have HBi4 := Lib.hid (HBi3.out.bl hb4)
      have HBc4 := Lib.hid (HBc3.out.bl hb4)
      have hw3 : IntKind.i64.wrap ((j : Int) * 3) = (j : Int) * 3 := IntWalk.i64_in _ (by omega)
      clear hc4 hb4 HBi3 HBc3
      go_wp2_with fail
      refine (within_any ((j : Int) * 3) 19 _ (by omega)).mono ?_
      rintro e w5 ⟨rfl, rfl⟩
      have hwb := within_bd ((j : Int) * 3) 19 (by decide)
      generalize within ((j : Int) * 3) 19 = t at *
      obtain ⟨k, hk⟩ : ∃ k : Nat, (k : Int) = 1 + t := ⟨(1 + t).toNat, by omega⟩
      have hwk : IntKind.i64.wrap (1 + t) = (k : Int) := by rw [IntWalk.i64_in _ (by omega)]; exact hk.symm
      have hk20 : 1 ≤ k ∧ k ≤ 19 := by omega
      clear hk hwb
      by_cases hc0 : c4 = 0
      · subst hc0
        obtain ⟨hm1, hm2, s, hs4, hs128, hso⟩ := HC4.out rfl
        obtain ⟨As, cas, rfl⟩ : ∃ A c, u4 = .slice A 128 c := by obtain ⟨A, c, e, _⟩ := hs4; exact ⟨A, c, by rw [← hs128]; exact e⟩
        have hi1 := HI.out.1
        obtain ⟨p, hp⟩ : ∃ p, p = k * 128 := ⟨_, rfl⟩
        have hp2 : p + 128 ≤ 2560 := by omega
        have hwp : IntKind.i64.wrap ((k : Int) * 128) = (p : Int) := by rw [IntWalk.i64_in _ (by omega)]; omega
        have hsl : ∀ w, (Instr.slice 25 (.slice (some ⟨GB, 0, none⟩) 2560 2560) (some (.int .i64 (p : Int))) none none).run Tryz.prog w = .ok (.slice (some ⟨GB, p, none⟩) (2560 - p) (2560 - p)) w := fun w => by
          have hsz : ∀ w, (sizeOf (Tryz.prog.elem 25)).run Tryz.prog w = .ok 1 w := fun w => by kernel_rfl
          rw [run_slice_l w 25 (some ⟨GB, 0, none⟩) 2560 2560 (by kernel_rfl) .i64 (p : Int) (by omega) (by omega), hsz, Result.andThen_ok]
          simp only [sliced, Int.toNat_natCast, Option.map_some]
          rw [if_neg (by omega), Nat.mul_one, add_zero_block]
        obtain ⟨R, hRr⟩ : ∃ R, R = rowB (lay img p s) := ⟨_, rfl⟩
        have hcp : ∀ ty, (Builtin.copy_ #[25, 25] ty #[.slice (some ⟨GB, p, none⟩) (2560 - p) (2560 - p), .slice As 128 cas]).run Tryz.prog w4 = .ok (goInt (128 : Nat)) (w4.setRow GB R) := fun ty => by
          have e := byte_copy (P := Tryz.prog) w4 25 25 ty 5 GB p (2560 - p) (2560 - p) As cas img s _ Tryz.underlying25 (by kernel_rfl) HBi4.out (by rw [hs128]; exact hs4) (by intro e; rw [e] at hs128; cases hs128) (by omega)
          rw [hs128, Nat.min_eq_left (show 128 ≤ 2560 - p by omega), List.take_of_length_le (by omega)] at e
          rw [hRr]
          exact e
        have HP := Lib.hid (show Blk (w4.setRow GB R) GB (rowB (lay img p s)) 5 by rw [hRr]; exact blk_setRow HBi4.out)
        have HPl := Lib.hid (show (lay img p s).length = 2560 ∧ okB (lay img p s) from ⟨by rw [lay_len _ _ _ (by omega)]; exact hi1, fun c hc => by
          unfold lay at hc
          rcases List.mem_append.1 hc with hc | hc
          · rcases List.mem_append.1 hc with hc | hc
            · exact HI.out.2.1 c (List.mem_of_mem_take hc)
            · exact hso c hc
          · exact HI.out.2.1 c (List.mem_of_mem_drop hc)⟩)
        have HBc5 := Lib.hid (show Blk (w4.setRow GB R) (GB + 1) (cntC cs) 26 by
          have := HBc4.out
          unfold Blk at this ⊢
          rw [setRow_other _ _ _ _ (by omega)]
          exact this)
        have HB5 := Lib.hid (show Bl w (w4.setRow GB R) from ⟨HB4.out.os, HB4.out.tape, HB4.out.output, by rw [setRow_size]; exact HB4.out.size, fun k hk => by rw [setRow_other _ _ _ _ (by have := HGB.out; omega)]; exact HB4.out.block k hk⟩)
        have hc20 := HI.out.2.2.1
        have hk20i : (k : Int) < 20 := by omega
        clear hi1 hRr hs4 hp
        generalize w4.setRow GB R = w6 at *
        obtain ⟨ck, hck⟩ : ∃ ck, (cntC cs)[k]? = some ck := ⟨_, cntC_at cs k (by omega)⟩
        have e1 := (HBc5.out.cell k).trans hck
        have e2 := HBc5.out.frozen k
        go_wp2_with fail
        have HBf := Lib.hid (HBc5.out.set k (.int .i64 m))
        rw [cntC_set] at HBf
        go_roundg (6 - (j + 1))
        case measure => omega
        case rel => exact ⟨j + 1, by omega, rfl, by go_num, Lib.hid ⟨_, cs.set k m, HPl.out.1, HPl.out.2, by rw [List.length_set]; exact hc20, fun c hc => by
          rcases List.mem_or_eq_of_mem_set hc with h | h
          · exact HI.out.2.2.2 c h
          · omega, HP.out.set_else _ _ _ (by omega), HBf.out, HB5.out.set _ _ _ (by have := HGB.out; omega)⟩⟩
      · go_wp2_with fail
        go_roundg (6 - (j + 1))
        case measure => omega
        case rel => exact ⟨j + 1, by omega, rfl, by go_num, Lib.hid ⟨img, cs, HI.out.1, HI.out.2.1, HI.out.2.2.1, HI.out.2.2.2, HBi4.out, HBc4.out, HB4.out⟩⟩
    | false =>
      have HS1 := HS
      clear HS HBB hi1 hi2 hc1 hc2 hbi hbc hbl HB
      go_upto_if 67 with (fail)
      go_cut [19] (fun v19 wc => ∃ row, Hid (extE.Is wc v19 row) ∧ Hid (LawSt w wc GB (GB + 1)))
      case first =>
        cases raw with
        | true =>
          obtain ⟨_, _, _, _, _, _, _, _, hbl⟩ := HS1.out
          have HB := Lib.hid hbl
          clear hbl
          go_wp2_with fail
          refine (kcutExt_any _ _ 6 _ (HL1.out.bl HB.out) (by decide)).mono ?_
          rintro e w3 ⟨s0, rfl, ho, rfl⟩
          have HS0 := Lib.hid ho
          clear ho
          go_wp2_with fail
          refine (copyExt_any _ _ _ HS0.out (by rw [List.length_take]; omega)).mono ?_
          rintro e w4 ⟨s, rfl, ho, hb⟩
          have HSs := Lib.hid ho.is
          go_wp2_with fail
          go_meet
          exact ⟨_, HSs, Lib.hid (HS1.out.bl hb)⟩
        | false =>
          have HLt := Lib.hid (show GB + 1 < wr.heap.size by
            obtain ⟨_, _, _, _, _, _, _, h6, _⟩ := HS1.out
            exact h6.lt)
          have HLw := Lib.hid (show w.heap.size ≤ wr.heap.size by
            obtain ⟨_, _, _, _, _, _, _, _, h7⟩ := HS1.out
            exact h7.size)
          obtain ⟨base, hbase⟩ : ∃ base, base = wr.heap.size := ⟨_, rfl⟩
          rw [← hbase] at HLt HLw
          have HBase := Lib.hid hbase
          clear hbase
          go_wp2_with fail
          go_loopg [19, 20, 21] 6 (fun gk vrow vpos vi wr2 => ∃ (j2 : Nat) (row : List Ext) (pos : Int), j2 ≤ 6 ∧ gk = 6 - j2 ∧ vi = .int .i64 j2 ∧ vpos = .int .i64 pos ∧ Hid (row.length ≤ j2) ∧ Hid (extE.Own 34 wr2 base vrow row) ∧ Hid (LawSt w wr2 GB (GB + 1)) ∧ Hid (base ≤ wr2.heap.size))
          case atStart => exact ⟨0, [], 0, by omega, rfl, rfl, rfl, Lib.hid (by simp), Lib.hid (Enc.Own.nil _ _ _), HS1, Lib.hid (by rw [HBase.out]; exact Nat.le_refl _)⟩
          case round =>
            obtain ⟨j2, row, pos, hj2, hgj2, rfl, rfl, HRl, HRo, HSt, HSz⟩ := hrel
            by_cases hjj2 : j2 < at_.length ∧ j2 < 6
            · obtain ⟨hjn2, hj62⟩ := hjj2
              have hjn2i : (j2 : Int) < at_.length := by omega
              have hj62i : (j2 : Int) < 6 := by omega
              obtain ⟨img, cs, hi1, hi2, hc1, hc2, hbi, hbc, hbl⟩ := HSt.out
              obtain ⟨ad2, rfl, d0⟩ := int_at HA2.out j2 hjn2
              replace d0 := hbl.cell d0
              generalize at_[j2] = x at *
              have HBc := Lib.hid hbc
              have HC2 := Lib.hid hc2
              clear hi1 hi2 hc2 hbi hbc hbl
              go_wp2_with fail
              refine (within_any x 22 _ (by omega)).mono ?_
              rintro e w5 ⟨rfl, rfl⟩
              have hwb := within_bd x 22 (by decide)
              obtain ⟨kk, hkk⟩ : ∃ kk : Nat, (kk : Int) = within x 22 := ⟨(within x 22).toNat, by omega⟩
              rw [← hkk]
              have hk22 : kk < 22 := by omega
              clear hwb hkk
              go_upto_region 21 with (fail)
              go_cut [93] (fun v93 wc => ∃ b : Bool, v93 = .bool b ∧ Hid (b = true → ∃ ck : Int, 0 < ck ∧ ck ≤ 64 ∧ kk < 20 ∧ wr.cell? ⟨GB + 1, kk, none⟩ = some (.int .i64 ck)) ∧ wc = wr)
              case first =>
                by_cases hk20 : kk < 20
                · have hk20i : (kk : Int) < 20 := by omega
                  obtain ⟨ck, hck⟩ : ∃ ck, ck = cs[kk]'(by omega) := ⟨_, rfl⟩
                  have e1 := (HBc.out.cell kk).trans (cntC_at cs kk (by omega))
                  rw [← hck] at e1
                  have hcb : 0 ≤ ck ∧ ck ≤ 64 := by rw [hck]; exact HC2.out _ (List.getElem_mem _)
                  clear hck
                  have HE1 := Lib.hid e1
                  by_cases hcp : 0 < ck
                  · go_wp2_with fail
                    go_meet
                    exact ⟨true, rfl, Lib.hid (fun _ => ⟨ck, by omega, by omega, by omega, HE1.out⟩), rfl⟩
                  · go_wp2_with fail
                    go_meet
                    exact ⟨false, rfl, Lib.hid (fun h => by cases h), rfl⟩
                · have hk20i : ¬ (kk : Int) < 20 := by omega
                  go_wp2_with fail
                  go_meet
                  exact ⟨false, rfl, Lib.hid (fun h => by cases h), rfl⟩
              case rest =>
              obtain ⟨bb, rfl, hbb, rfl⟩ := hcut
              go_upto_if 93 with (fail)
              go_cut [23] (fun v23 wd => ∃ n : Int, v23 = .int .i64 n ∧ (1 ≤ n ∧ n ≤ 64) ∧ wd = wc)
              case first =>
                cases bb with
                | true =>
                  obtain ⟨ck, b1, b2, b3, e1⟩ := hbb.out rfl
                  have b3i : (kk : Int) < 20 := by omega
                  go_wp2_with fail
                  go_meet
                  exact ⟨ck, rfl, ⟨by omega, by omega⟩, rfl⟩
                | false =>
                  go_wp2_with fail
                  go_meet
                  exact ⟨5, rfl, ⟨by omega, by omega⟩, rfl⟩
              case rest =>
              obtain ⟨n, rfl, hn, rfl⟩ := hcut
              by_cases hk1 : kk < 1
              · have hk1i : (kk : Int) < 1 := by omega
                go_wp2_with fail
                go_roundg (6 - (j2 + 1))
                case measure => omega
                case rel => exact ⟨j2 + 1, row, pos, by omega, rfl, by go_num, rfl, Lib.hid (by have := HRl.out; omega), HRo, HSt, HSz⟩
              · have hk1i : ¬ (kk : Int) < 1 := by omega
                go_wp2_with fail
                refine (within_any _ n _ (by omega)).mono ?_
                rintro e w6 ⟨rfl, rfl⟩
                have hwb := within_bd (wrap64 (x.tdiv 22)) n hn.1
                generalize within (wrap64 (x.tdiv 22)) n = s at *
                have hw1 : IntKind.i64.wrap (n - s) = n - s := IntWalk.i64_in _ (by omega)
                go_wp2_with fail
                refine (within_any _ (n - s) _ (by omega)).mono ?_
                rintro e w7 ⟨rfl, rfl⟩
                generalize within _ (n - s) = tk at *
                generalize htk : IntKind.i64.wrap (1 + tk) = tk1 at *
                have hal := (Bl.refl wc).alloc (.cells #[.int .i64 pos, .int .i64 kk, .int .i64 n, .int .i64 s, .int .i64 tk1] 34)
                have HBe := Lib.hid ((Blk.new wc #[.int .i64 pos, .int .i64 kk, .int .i64 n, .int .i64 s, .int .i64 tk1] 34).bl ((Bl.refl _).alloc (.cells #[.int .i64 pos, .int .i64 kk, .int .i64 n, .int .i64 s, .int .i64 tk1] 34)))
                have HNe := Lib.hid (fun (e : u19.ownBlock = some wc.heap.size) => (show False by have := (HRo.out.lt _ e).2; omega))
                go_wp2_with (at_builtin; refine Enc.Own.append1 (E := extE) rfl (.tmp 121) (.tmp 123) 23 rfl base 34 (.agg #[.int .i64 0, .int .i64 0, .int .i64 0, .int .i64 0, .int .i64 0]) 5 40 Tryz.underlying23 infoExt rfl rfl (by decide) (by decide) _ row rfl (HRo.out.bl ((Bl.refl _).alloc _)) ⟨pos, kk, n, s, tk1⟩ _ rfl (by simp) rfl ?hlen ?hbase ?_; (case hlen => have := HRl.out; omega); (case hbase => exact Nat.le_trans HSz.out hal.size); intro u8 w8 ho hg; have e4 := (HBe.out.grown hg HNe.out).cell 4; simp at e4)
                have HSt8 := Lib.hid (((HSt.out.bl hal).bl ((Bl.refl _).alloc _)).grown hg (fun k hk => (HRo.out.lt k hk).1) HLw.out HLt.out)
                have HRo8 := Lib.hid ho
                have HSz8 := Lib.hid (Nat.le_trans HSz.out (Nat.le_trans hal.size (Nat.le_trans ((Bl.refl _).alloc _).size hg.size)))
                clear ho hg hal
                go_roundg (6 - (j2 + 1))
                case measure => omega
                case rel => exact ⟨j2 + 1, _, _, by omega, rfl, by go_num, rfl, Lib.hid (by rw [List.length_append]; have := HRl.out; simp; omega), HRo8, HSt8, HSz8⟩
            · have HSt1 := HSt
              rcases (show ¬ ((j2 : Int) < at_.length) ∨ ((j2 : Int) < at_.length ∧ ¬ (j2 : Int) < 6) by omega) with h2 | ⟨h2, h2'⟩
              · go_wp2_with fail
                go_meet
                exact ⟨row, Lib.hid HRo.out.is, HSt⟩
              · go_wp2_with fail
                go_meet
                exact ⟨row, Lib.hid HRo.out.is, HSt⟩
      case rest =>
        obtain ⟨row, HRow, HSt⟩ := hcut
        obtain ⟨img, cs, hi1, hi2, -, -, hbi, -, hbl⟩ := HSt.out
        have HB := Lib.hid hbl
        have HOw := Lib.hid (own_row hbi (show w.heap.size ≤ GB by rw [HGB.out]; exact Nat.le_refl _) (n := 2560) hi1.symm (by unfold maxLen; omega)).is
        have HI1 := Lib.hid hi1
        have HI2 := Lib.hid hi2
        obtain ⟨V, hV, hVI⟩ := slice_h (E := byteE) (P := Tryz.prog) (t := 25) (by kernel_rfl) (fun w => by kernel_rfl) (some ⟨GB, 0, none⟩) 2560 img 2559 (by omega) (by omega) (by omega)
        rw [hi1] at hV
        have HV := Lib.hid (show byteE.Is wc V (img.take 2559) from hVI _ (by rw [hi1]; exact HOw.out))
        clear hVI hi1 hi2 hbi hbl HSt
        go_upto_if 131 with (fail)
        go_cut [11] (fun v11 wd => ∃ im, Hid (byteE.Is wd v11 im) ∧ Hid (im.length ≤ 2560 ∧ okB im) ∧ wd = wc)
        case first =>
          rcases (show cut.tmod 4 = 1 ∨ (¬ cut.tmod 4 = 1 ∧ cut.tmod 4 = 2) ∨ (¬ cut.tmod 4 = 1 ∧ ¬ cut.tmod 4 = 2) by omega) with h1 | ⟨h1, h2⟩ | ⟨h1, h2⟩
          · go_wp2_with fail
            go_meet
            exact ⟨_, HV, Lib.hid ⟨by rw [List.length_take]; omega, fun c hc => HI2.out c (List.mem_of_mem_take hc)⟩, rfl⟩
          · go_wp2_with fail
            go_meet
            exact ⟨[], Lib.hid (Enc.Is.nil _), Lib.hid ⟨by simp, fun c hc => by cases hc⟩, rfl⟩
          · go_wp2_with fail
            go_meet
            exact ⟨img, HOw, Lib.hid ⟨by rw [HI1.out]; exact Nat.le_refl _, HI2.out⟩, rfl⟩
        case rest =>
        obtain ⟨im, HIm, HIl, rfl⟩ := hcut
        obtain ⟨Ai, ci, ei, -⟩ := id HIm.out
        subst ei
        have hil := HIl.out.1
        clear HOw HV hV HI1 HI2
        go_wp2_with fail
        refine (aSamples_any _ _ im row _ HIm.out (by omega) HIl.out.2 HRow.out).mono ?_
        rintro e w3 ⟨ux, rfl, hux, hb3⟩
        obtain ⟨r1, r2, hr⟩ : ∃ r1 r2, sampR im row = (r1, r2) := ⟨_, _, rfl⟩
        rw [hr] at hux ⊢
        obtain ⟨Ax, cx, rfl⟩ := hux.slice
        have HR := Lib.hid hr
        have HX := Lib.hid hux.is
        have HB3 := Lib.hid (HB.out.trans hb3)
        have HRow3 := Lib.hid (HRow.out.bl hb3)
        have HIm3 := Lib.hid (HIm.out.bl hb3)
        clear hr hux hb3
        by_cases hlen : im.length = 0 ∨ ¬ im.length % 128 = 0
        · have e : (([] : List Int), (1 : Int)) = (r1, r2) := by
            rw [← HR.out]
            unfold sampR
            rw [if_pos]
            unfold sectorsM
            split <;> omega
          injection e with e1 e2
          subst e1
          subst e2
          have hmd : (im.length : Int).tmod 128 = ((im.length % 128 : Nat) : Int) := by rw [Int.tmod_eq_emod_of_nonneg (by omega)]; omega
          generalize hq : im.length % 128 = q at *
          generalize im.length = n at *
          clear hq
          rcases (show n = 0 ∨ (¬ n = 0 ∧ ¬ q = 0) by omega) with h1 | ⟨h1, h2⟩
          · subst h1
            go_wp2_with fail
            refine (wakes26_any _).mono ?_
            rintro e w9 ⟨rfl, hb9⟩
            have HB9 := Lib.hid (HB3.out.trans hb9)
            clear hb9
            go_wp2
            go_ret
            exact ⟨rfl, HB9.out⟩
          · have h1i : ¬ (n : Int) = 0 := by omega
            have h2i : ¬ (q : Int) = 0 := by omega
            have h1b : ((n : Int) == 0) = false := by simpa using h1
            have h2b : ((q : Int) != 0) = true := by simpa using h2
            go_wp2_with fail
            refine (wakes26_any _).mono ?_
            rintro e w9 ⟨rfl, hb9⟩
            have HB9 := Lib.hid (HB3.out.trans hb9)
            clear hb9
            go_wp2
            go_ret
            exact ⟨rfl, HB9.out⟩
        · have hs0 : ¬ sectorsM im = 0 := by
            unfold sectorsM
            rw [if_neg (by omega)]
            omega
          have HR2 := Lib.hid (HR.out.symm.trans (show sampR im row = _ by unfold sampR; rw [if_neg hs0]))
          have h1b : ((im.length : Int) == 0) = false := by rw [beq_eq_false_iff_ne]; omega
          have h1i : ¬ (im.length : Int) = 0 := by omega
          have h2i : (im.length : Int).tmod 128 = 0 := by rw [Int.tmod_eq_emod_of_nonneg (by omega)]; omega
          clear hs0 HR hlen
          go_wp2_with fail
          refine (rvalid_any _ row _ HRow3.out).mono ?_
          rintro e w4 ⟨rfl, hb4⟩
          have HB4 := Lib.hid (HB3.out.trans hb4)
          have HRow4 := Lib.hid (HRow3.out.bl hb4)
          have HIm4 := Lib.hid (HIm3.out.bl hb4)
          have HX4 := Lib.hid (HX.out.bl hb4)
          clear hb4
          cases hv : validFrom 0 row
          · have e := HR2.out
            rw [hv] at e
            injection e with e1 e2
            subst e1
            subst e2
            go_wp2_with fail
            refine (wakes26_any _).mono ?_
            rintro e w9 ⟨rfl, hb9⟩
            have HB9 := Lib.hid (HB4.out.trans hb9)
            clear hb9
            go_wp2
            go_ret
            exact ⟨rfl, HB9.out⟩
          · have hbd := validFrom_bd row 0 (by decide) hv
            have hrl : row.length ≤ 1000 := by omega
            have hones := valid_ones row 0 hv
            have e := HR2.out
            rw [hv] at e
            have HE := Lib.hid (e.trans (if_pos rfl))
            clear HR2 e hbd
            go_wp2_with fail
            refine (q20Samples_any _ _ im row _ HIm4.out (by omega) HIl.out.2 HRow4.out hrl hones).mono ?_
            rintro e w5 ⟨hp, hb5⟩
            have HB5 := Lib.hid (HB4.out.trans hb5)
            have HX5 := Lib.hid (HX4.out.bl hb5)
            clear hb5
            cases hs : smpO im [] row with
            | none =>
              rw [hs] at hp
              obtain rfl := hp
              have e := HE.out
              rw [hs] at e
              injection e with e1 e2
              subst e1
              subst e2
              go_wp2_with fail
              refine (wakes26_any _).mono ?_
              rintro e w9 ⟨rfl, hb9⟩
              have HB9 := Lib.hid (HB5.out.trans hb9)
              clear hb9
              go_wp2
              go_ret
              exact ⟨rfl, HB9.out⟩
            | some y =>
              rw [hs] at hp
              obtain ⟨uy, rfl, hy⟩ := hp
              have HY := Lib.hid hy.is
              have e := HE.out
              rw [hs] at e
              injection e with e1 e2
              subst e1
              subst e2
              clear hy
              go_wp2_with fail
              refine (sameInt_any _ _ r1 r1 _ HX5.out HY.out).mono ?_
              rintro e w6 ⟨rfl, hb6⟩
              rw [decide_eq_true rfl]
              have HB6 := Lib.hid (HB5.out.trans hb6)
              clear hb6
              go_wp2_with fail
              refine (wakes26_any _).mono ?_
              rintro e w9 ⟨rfl, hb9⟩
              have HB9 := Lib.hid (HB6.out.trans hb9)
              clear hb9
              go_wp2
              go_ret
              exact ⟨rfl, HB9.out⟩
end Go.Proofs.YtoocebghlchcoaaGreat.ExtW
