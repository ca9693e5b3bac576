/- Several texts joined (see each one's head). -/
import Derived.Test.YtoocebghlchcoaaGreatPkBG
import Derived.Test.YtoocebghlchcoaaGreatPkAR
import Derived.Test.YtoocebghlchcoaaGreatPkAV
/- Contract of disk.Image. -/
namespace Go.Proofs.YtoocebghlchcoaaGreat.ExtW
open Go.RowKit Go.Ov Go.Proofs.YtoocebghlchcoaaGreat.Need
theorem sec_step (img : List Int) (k : Nat) : img.take (128 * (k + 1)) = img.take (128 * k) ++ (img.drop (128 * k)).take 128 := by
  rw [show 128 * (k + 1) = 128 * k + 128 by omega, List.take_add]
set_option maxRecDepth 100000 in
set_option maxHeartbeats 1000000 in
theorem dImage_any {base D Kb : Nat} {vw : Value} {m : DiskM} {n : Nat} (w : World) (h : DIs w base D Kb vw m n) :
    Calls Tryz.prog 26 #[.pointer (some ⟨D, 0, none⟩)] w fun e w' => ∃ u, e = .returned u ∧ byteE.Own 5 w' w.heap.size u m.img ∧ Bl w w' := by
  have HD := Lib.hid h
  obtain ⟨r, q, fl, hk⟩ := h.dsk
  have c0 := hk.cell 0
  simp at c0
  have hlen := h.ok.len
  have hn2 := h.ok.n2
  clear h hk
  go_enter Tryz.func26, Tryz.ntmps26
  go_wp2_with fail
  go_loopg [3, 11] n (fun gk u i wc => ∃ (k : Nat), k ≤ n ∧ gk = n - k ∧ i = .int .i64 k ∧ Hid (byteE.Own 5 wc w.heap.size u (m.img.take (128 * k))) ∧ Hid (Bl w wc))
  case atStart => exact ⟨0, by omega, rfl, rfl, Lib.hid (Enc.Own.nil _ _ _), Lib.hid (Bl.refl _)⟩
  case round =>
    obtain ⟨k, hk, hgk, rfl, HO, HB⟩ := hrel
    by_cases hlt : k < n
    · have hlti : (k : Int) < n := by omega
      have HK := Lib.hid (HD.out.kept.bl HB.out)
      have HSt := Lib.hid (sec_step m.img k)
      obtain ⟨s, hs⟩ : ∃ s, s = (m.img.drop (128 * k)).take 128 := ⟨_, rfl⟩
      have hsl : s.length = 128 := by rw [hs, List.length_take, List.length_drop]; omega
      have HR := Lib.hid (show wr.rangeAt Kb (k * 128) (s.map (.int .u8)) by rw [Nat.mul_comm, hs]; exact row_range HK.out (by omega))
      rw [← hs] at HSt
      clear hs
      have HSl := Lib.hid hsl
      have hone : (rowB s).all (·.oneCell') = true := all_oneCell_toArray (fun v hv => by obtain ⟨x, -, rfl⟩ := List.mem_map.1 hv; rfl)
      have hst : (storeCells ⟨wr.heap.size, 0, none⟩ (s.map (.int .u8))).run Tryz.prog (wr.alloc (.cells Tryz.zeroCells114 114)) = .ok () (wr.alloc (.cells (rowB s) 114)) := by
        have := run_storeCells_new (P := Tryz.prog) wr 114 Tryz.zeroCells114 (rowB s) (by rw [rowB_size, HSl.out]; kernel_rfl) (by rw [rowB_size, HSl.out]; kernel_rfl) hone
        rw [rowB_list] at this
        exact this
      clear hone hsl
      have HIs : ∀ w1 : World, Blk w1 wr.heap.size (rowB s) 114 → byteE.Is w1 (.slice (some ⟨wr.heap.size, 0, none⟩) 128 128) s := fun w1 hb => by
        refine ⟨_, 128, by rw [HSl.out], by rw [HSl.out]; exact Nat.le_refl _, by decide, (fun h => by cases h), fun i x hx => ⟨_, rfl, fun j u hu => ?_⟩⟩
        have hj : j = 0 := by have := (List.getElem?_eq_some_iff.1 hu).1; simp [byteE] at this; exact this
        subst hj
        have hi := (List.getElem?_eq_some_iff.1 hx)
        rw [addr_add0, show i * byteE.sz + 0 = i by simp [byteE], hb.cell i, rowB_at _ _ hi.1, hi.2]
        simp [byteE] at hu
        rw [hu]
      have HNew := Lib.hid (HIs _ (Blk.new wr (rowB s) 114))
      have HBn := Lib.hid (HB.out.alloc (.cells (rowB s) 114))
      have HOn := Lib.hid (HO.out.bl ((Bl.refl wr).alloc (.cells (rowB s) 114)))
      have hol : (m.img.take (128 * k)).length ≤ 600000 := by rw [List.length_take]; omega
      generalize wr.alloc (.cells (rowB s) 114) = wn at *
      generalize m.img.take (128 * k) = pre at *
      clear HIs
      go_wp2_with (first | (refine wpList_load_mid rfl 114 (.tmp 13) rfl Kb (k * 128) rfl _ _ HR.out Tryz.underlying114 rfl (by rw [List.length_map, HSl.out]; kernel_rfl) ?_) | (at_builtin; refine Enc.Own.append (E := byteE) rfl (.tmp 15) (.tmp 16) 25 rfl w.heap.size 5 (.int .u8 0) 1 1 Tryz.underlying25 infoByte rfl rfl (by decide) (by decide) _ pre rfl HOn.out _ s rfl HNew.out (by rw [HSl.out]; omega) HBn.out.size ?_; intro u1 w1 ho hg))
      go_roundg (n - (k + 1))
      case measure => omega
      case rel => exact ⟨k + 1, by omega, rfl, by go_num, Lib.hid (by rw [HSt.out]; exact ho), Lib.hid (HBn.out.grown hg (fun g hgk => (HOn.out.lt g hgk).1))⟩
    · obtain rfl : k = n := by omega
      have HO2 := Lib.hid (show byteE.Own 5 wr w.heap.size u3 m.img by have := HO.out; rwa [List.take_of_length_le (by omega)] at this)
      go_wp2
      go_ret
      exact ⟨_, rfl, HO2.out, HB.out⟩
end Go.Proofs.YtoocebghlchcoaaGreat.ExtW

/- Contract of session.Format, on a disk that does not stop. -/
namespace Go.Proofs.YtoocebghlchcoaaGreat.ExtW
open Go.RowKit Go.Ov Go.Proofs.YtoocebghlchcoaaGreat.Need
/-- the noughts that are written into a journal's cells -/
def cellW (k : Nat) : List (Nat × List Int) := (List.range k).map fun j => (2 + j, List.replicate 128 0)
def formatM (img : List Int) (c : Nat) : List Int := flushI (flushI img (cellW c)) [(0, packSuper ⟨1, 1, 0, 0⟩ c), (1, List.replicate 128 0)]
theorem write_ok {n : Nat} {m : DiskM} {i : Nat} {b : List Int} (hd : m.dead = false) (hs : m.stops = false) (hi : i < n) (hb : b.length = 128) : writeM n m i b = ({ m with waits := m.waits ++ [(i, b)] }, 0) := by
  unfold writeM stepM
  rw [if_neg (by omega), hs]
  simp [hd]
theorem flush_okM {m : DiskM} (hd : m.dead = false) (hs : m.stops = false) : flushM m = ({ m with img := flushI m.img m.waits, waits := [] }, 0) := by
  unfold flushM stepM
  rw [hs]
  simp [hd]
set_option maxRecDepth 100000 in
set_option maxHeartbeats 1000000 in
theorem sFormat_any {base D Kb : Nat} {vw : Value} {img : List Int} {pos : Int} {n : Nat} (c : Nat) (w : World) (h : DIs w base D Kb vw ⟨img, [], false, false, pos⟩ n) (h4 : 4 ≤ c) (h256 : c ≤ 256) (hn : c + 12 ≤ n) :
    Calls Tryz.prog 25 #[.pointer (some ⟨D, 0, none⟩), .int .i64 c] w fun e w' => e = .returned (.int .i64 0) ∧ ∃ vw', DIs w' base D Kb vw' ⟨formatM img c, [], false, false, pos⟩ n ∧ DStep w w' D Kb vw vw' := by
  have HD := Lib.hid h
  clear h
  have g1 : ¬ (c : Int) < 4 := by omega
  have g2 : ¬ (256 : Int) < c := by omega
  have g3 : ¬ (n : Int) < (c : Int) + 12 := by omega
  have hn2 := HD.out.ok.n2
  have hw1 : IntKind.i64.wrap ((c : Int) + 12) = (c : Int) + 12 := IntWalk.i64_in _ (by omega)
  obtain ⟨Z, hZ⟩ : ∃ Z, Z = rowB (List.replicate 128 0) := ⟨_, rfl⟩
  have hmk : ∀ w, (Instr.makeSlice 25 (.int .i64 128) (.int .i64 128)).run Tryz.prog w = .ok (.slice (some ⟨w.heap.size, 0, none⟩) 128 128) (w.alloc (.cells Z 5)) := fun w => by
    have := run_make_row' (P := Tryz.prog) 25 5 (.int .u8 0) 1 Tryz.underlying25 infoByte rfl .i64 .i64 128 (by omega) (by omega) w
    rw [hZ, ← row_made]; exact this
  have HB1 := Lib.hid ((Bl.refl w).alloc (.cells Z 5))
  have HZ := Lib.hid (show byteE.Own 5 (w.alloc (.cells Z 5)) w.heap.size (.slice (some ⟨w.heap.size, 0, none⟩) 128 128) (List.replicate 128 0) by
    rw [hZ]; exact own_row (Blk.new _ _ _) (Nat.le_refl _) (by simp) (by decide))
  obtain ⟨zs, hzs⟩ : ∃ zs : List Int, zs = List.replicate 128 0 := ⟨_, rfl⟩
  rw [← hzs] at HZ
  have HZs := Lib.hid hzs
  have hzl : zs.length = 128 := by rw [hzs, List.length_replicate]
  have hzo : okB zs := by rw [hzs]; exact zeros_ok _
  have HZl := Lib.hid hzl
  have HZo := Lib.hid hzo
  clear hZ hzs hzl hzo
  go_enter Tryz.func25, Tryz.ntmps25
  go_wp2_with (go_at_call 44; refine (dLen_any _ HD.out).mono ?_; rintro e w' ⟨rfl, rfl⟩)
  generalize hW1 : w'.alloc (.cells Z 5) = wa at *
  generalize hN : w'.heap.size = N at *
  have HZm := Lib.hid (show byteE.Is (only wa (nbs (dFoot D Kb vw))) (.slice (some ⟨N, 0, none⟩) 128 128) zs from HZ.out.isM fun k hk => nbs_iff.2 fun hm => by
    simp only [List.mem_cons, List.not_mem_nil, or_false] at hm
    obtain ⟨r, q, fl, hkk⟩ := HD.out.dsk
    rcases hm with e | e | e
    · injection e with e; have := hkk.lt; omega
    · injection e with e; have := HD.out.kept.lt; omega
    · have := (HD.out.wait.lt k e.symm).2; omega)
  have HDa := Lib.hid (HD.out.bl HB1.out)
  have HSa := Lib.hid (show DStep w' wa D Kb vw vw from ⟨Kp.of_bl HB1.out, LiesN.refl _ _⟩)
  clear hmk hW1
  go_loopg [28] c (fun gk i wr => ∃ (k : Nat) (v : Value), k ≤ c ∧ gk = c - k ∧ i = .int .i64 k ∧ Hid (DIs wr base D Kb v ⟨img, cellW k, false, false, pos⟩ n) ∧ Hid (DStep wa wr D Kb vw v))
  case atStart => exact ⟨0, vw, by omega, rfl, rfl, HDa, Lib.hid (DStep.refl wa _ _ _)⟩
  case round =>
    obtain ⟨k, v, hk, hgk, rfl, HDk, HSk⟩ := hrel
    by_cases hlt : k < c
    · have hlti : (k : Int) < c := by omega
      have hk2 : (2 : Int) + k = ((2 + k : Nat) : Int) := by omega
      have hw2 : IntKind.i64.wrap (2 + (k : Int)) = ((2 + k : Nat) : Int) := by rw [IntWalk.i64_in _ (by omega)]; omega
      have HE := Lib.hid (write_ok (n := n) (m := ⟨img, cellW k, false, false, pos⟩) (i := 2 + k) (b := zs) rfl rfl (by omega) HZl.out)
      have HC := Lib.hid (show cellW (k + 1) = cellW k ++ [(2 + k, zs)] by unfold cellW; rw [List.range_succ, List.map_append, HZs.out]; rfl)
      have hcl : (cellW k).length ≤ 900000 := by unfold cellW; simp; omega
      generalize hkk : ((2 + k : Nat) : Int) = kk at *
      go_wp2_with fail
      refine (dWrite_any kk zs _ HDk.out (HSk.out.sub.is HZm.out) HZo.out (by have := HZl.out; omega) hcl).mono ?_
      rintro e w2 ⟨he, v2, hd2, hs2⟩
      rw [HE.out] at he hd2
      have HD2 := Lib.hid (show DIs w2 base D Kb v2 ⟨img, cellW (k + 1), false, false, pos⟩ n by rw [HC.out]; exact hd2)
      have HS2 := Lib.hid (HSk.out.trans hs2)
      subst he
      clear hd2 hs2
      go_wp2
      go_roundg (c - (k + 1))
      case measure => omega
      case rel => exact ⟨k + 1, v2, by omega, rfl, by go_num, HD2, HS2⟩
    · obtain rfl : k = c := by omega
      go_wp2_with fail
      refine (dFlush_any _ HDk.out).mono ?_
      rintro e w2 ⟨he, v2, hd2, hs2⟩
      rw [flush_okM rfl rfl] at he hd2
      subst he
      have HD2 := Lib.hid hd2
      have HS2 := Lib.hid (HSk.out.trans hs2)
      have HSk2 := Lib.hid (HSa.out.trans HS2.out)
      clear hd2 hs2 HDk HSk
      go_wp2_with fail
      refine (suPack_any 1 1 0 0 k _ (by decide) (by decide) (by decide) (by decide) (by omega)).mono ?_
      rintro e w3 ⟨u, rfl, hu, hb3⟩
      have HB3 := Lib.hid hb3
      obtain ⟨P, hP⟩ : ∃ P, P = packSuper ⟨1, 1, 0, 0⟩ k := ⟨_, rfl⟩
      rw [← hP] at hu
      have HP := Lib.hid hP
      have HPl := Lib.hid (show P.length = 128 by rw [hP]; exact seal_len (by rw [superB_len]; decide))
      have HPo := Lib.hid (show okB P by rw [hP]; exact seal_ok (superB_ok _ _))
      clear hP
      obtain ⟨U, cu, rfl⟩ := hu.slice
      have HU := Lib.hid (show byteE.Is (only w3 (nbs (dFoot D Kb v2))) (.slice U P.length cu) P from hu.isM fun k' hk' => nbs_iff.2 fun hm => by
        simp only [List.mem_cons, List.not_mem_nil, or_false] at hm
        obtain ⟨r, q, fl, hkk⟩ := HD2.out.dsk
        rcases hm with e | e | e
        · injection e with e; have := hkk.lt; omega
        · injection e with e; have := HD2.out.kept.lt; omega
        · have := (HD2.out.wait.lt k' e.symm).2; omega)
      clear hb3
      go_wp2_with fail
      have hb := (Bl.refl w3).alloc (.cells #[.slice U P.length cu, .slice (some ⟨N, 0, none⟩) 128 128] 25)
      have HC0 := Lib.hid (Blk.new w3 #[.slice U P.length cu, .slice (some ⟨N, 0, none⟩) 128 128] 25)
      have HD4 := Lib.hid ((HD2.out.bl HB3.out).bl hb)
      have HS23 := Lib.hid (show DStep w2 (w3.alloc (.cells #[.slice U P.length cu, .slice (some ⟨N, 0, none⟩) 128 128] 25)) D Kb v2 v2 from ⟨Kp.of_bl (HB3.out.trans hb), LiesN.refl _ _⟩)
      have HU4 := Lib.hid (show byteE.Is (only (w3.alloc (.cells #[.slice U P.length cu, .slice (some ⟨N, 0, none⟩) 128 128] 25)) (nbs (dFoot D Kb v2))) (.slice U P.length cu) P from (DStep.sub (vw := v2) (vw' := v2) ⟨Kp.of_bl hb, LiesN.refl _ _⟩).is HU.out)
      have HZ4 := Lib.hid ((HS2.out.trans HS23.out).sub.is HZm.out)
      have hCl : ∀ k, (dFoot D Kb v2).contains (some k) = true → k < w3.heap.size := fun k hk => by
        have hm : some k ∈ dFoot D Kb v2 := List.contains_iff_mem.1 hk
        have hz := HB3.out.size
        simp only [List.mem_cons, List.not_mem_nil, or_false] at hm
        obtain ⟨r, q, fl, hkk⟩ := HD2.out.dsk
        rcases hm with e | e | e
        · injection e with e; have := hkk.lt; omega
        · injection e with e; have := HD2.out.kept.lt; omega
        · have := (HD2.out.wait.lt k e.symm).2; omega
      have HCn := Lib.hid (show some w3.heap.size ∉ dFoot D Kb v2 from fun hm => by have := hCl _ (List.contains_iff_mem.2 hm); omega)
      have HS4 := Lib.hid (HSk2.out.trans HS23.out)
      clear hCl hb hu HU HS23
      generalize w3.alloc (.cells #[.slice U P.length cu, .slice (some ⟨N, 0, none⟩) 128 128] 25) = w4 at *
      generalize w3.heap.size = C at *
      go_loopg [52] 2 (fun gk i wr => ∃ (j : Nat) (v : Value), j ≤ 2 ∧ gk = 2 - j ∧ i = .int .i64 j ∧ Hid (DIs wr base D Kb v ⟨flushI img (cellW k), [(0, P), (1, zs)].take j, false, false, pos⟩ n) ∧ Hid (DStep w4 wr D Kb v2 v) ∧ Hid (Blk wr C #[.slice U P.length cu, .slice (some ⟨N, 0, none⟩) 128 128] 25))
      case atStart => exact ⟨0, v2, by omega, rfl, rfl, HD4, Lib.hid (DStep.refl w4 _ _ _), HC0⟩
      case round =>
        obtain ⟨j, vv, hj, hgj, rfl, HDj, HSj, HCj⟩ := hrel
        by_cases hlt2 : j < 2
        · have hlti : (j : Int) < 2 := by omega
          obtain ⟨A, m, cc, b, hcell, hbI, hbo, hbl, hbt⟩ : ∃ (A : Option Addr) (m c : Nat) (b : List Int), wr.cell? ⟨C, j, none⟩ = some (.slice A m c) ∧ byteE.Is (only wr (nbs (dFoot D Kb vv))) (.slice A m c) b ∧ okB b ∧ b.length = 128 ∧ [(0, P), (1, zs)].take (j + 1) = [(0, P), (1, zs)].take j ++ [(j, b)] := by
            have q0 := HCj.out.cell 0
            have q1 := HCj.out.cell 1
            simp at q0 q1
            rcases (show j = 0 ∨ j = 1 by omega) with rfl | rfl
            · exact ⟨_, _, _, P, q0, HSj.out.sub.is HU4.out, HPo.out, HPl.out, rfl⟩
            · exact ⟨_, _, _, zs, q1, HSj.out.sub.is HZ4.out, HZo.out, HZl.out, rfl⟩
          have HbI := Lib.hid hbI
          have Hbt := Lib.hid hbt
          have HE := Lib.hid (write_ok (n := n) (m := ⟨flushI img (cellW k), [(0, P), (1, zs)].take j, false, false, pos⟩) (i := j) (b := b) rfl rfl (by omega) hbl)
          clear hbI hbt
          go_wp2_with fail
          refine (dWrite_any j b _ HDj.out HbI.out hbo (by omega) (by simp; omega)).mono ?_
          rintro e w5 ⟨he, v5, hd5, hs5⟩
          rw [HE.out] at he hd5
          subst he
          have HD5 := Lib.hid (show DIs w5 base D Kb v5 ⟨flushI img (cellW k), [(0, P), (1, zs)].take (j + 1), false, false, pos⟩ n by rw [Hbt.out]; exact hd5)
          have HS5 := Lib.hid (HSj.out.trans hs5)
          have HC5 := Lib.hid (HS5.out.kp.blk HC0.out (nbs_iff.2 HCn.out))
          clear hd5 hs5
          go_wp2
          go_roundg (2 - (j + 1))
          case measure => omega
          case rel => exact ⟨j + 1, v5, by omega, rfl, by go_num, HD5, HS5, HC5⟩
        · obtain rfl : j = 2 := by omega
          go_wp2_with fail
          refine (dFlush_any _ HDj.out).mono ?_
          rintro e w6 ⟨he, v6, hd6, hs6⟩
          rw [flush_okM rfl rfl] at he hd6
          subst he
          go_wp2
          go_ret
          refine ⟨rfl, v6, ?_, (HS4.out.trans HSj.out).trans hs6⟩
          have hf : formatM img k = flushI (flushI img (cellW k)) [(0, P), (1, zs)] := by rw [HP.out, HZs.out]; rfl
          rw [hf]
          exact hd6
end Go.Proofs.YtoocebghlchcoaaGreat.ExtW

/- audit's law: what noughts and a disk that is new hold. -/
namespace Go.Proofs.YtoocebghlchcoaaGreat.ExtW
open Go.RowKit Go.Ov Go.Proofs.YtoocebghlchcoaaGreat.Need
set_option maxRecDepth 100000 in
theorem zero_unwhole : whole (List.replicate 128 0) = false := by kernel_rfl
set_option maxRecDepth 100000 in
theorem unp_zero : unpS (List.replicate 128 0) = (⟨0, 0, 0, 0⟩, 0, false) := by
  unfold unpS unpackSuper
  rw [zero_unwhole]
  rfl
theorem unp_nil : unpS [] = (⟨0, 0, 0, 0⟩, 0, false) := by
  unfold unpS unpackSuper whole
  rfl
theorem rd_zero (n : Nat) (i : Nat) : rdM (List.replicate (128 * n) 0) i = if i < n then List.replicate 128 0 else [] := by
  unfold rdM secM
  simp only [List.length_replicate, Int.toNat_natCast, List.drop_replicate, List.take_replicate]
  by_cases h : i < n
  · rw [if_neg (by omega), if_pos h]
    congr 1
    omega
  · rw [if_pos (by omega), if_neg h]
theorem choose_zero (n : Nat) : chooseM (rdM (List.replicate (128 * n) 0) 0) (rdM (List.replicate (128 * n) 0) 1) = (⟨0, 0, 0, 0⟩, 0, 0, false) := by
  have h0 := rd_zero n 0
  have h1 := rd_zero n 1
  simp only [Int.natCast_zero, Int.natCast_one] at h0 h1
  have e : ∀ i, unpS (if i < n then List.replicate 128 0 else []) = (⟨0, 0, 0, 0⟩, 0, false) := fun i => by
    split
    · exact unp_zero
    · exact unp_nil
  rw [h0, h1]
  unfold chooseM
  rw [e, e]
  rfl
theorem two_secs (X P Z : List Int) (hP : P.length = 128) (hZ : Z.length = 128) (hX : 256 ≤ X.length) : secM (flushI X [(0, P), (1, Z)]) 0 = P ∧ secM (flushI X [(0, P), (1, Z)]) 1 = Z := by
  have e : flushI X [(0, P), (1, Z)] = P ++ (Z ++ (lay X 0 P).drop 256) := by
    show lay (lay X 0 P) 128 Z = _
    conv => lhs; unfold lay
    rw [hZ]
    have : (X.take 0 ++ P ++ X.drop (0 + P.length)).take 128 = P := by
      rw [List.take_zero, List.nil_append, List.take_append_of_le_length (by omega), List.take_of_length_le (by omega)]
    rw [this, List.append_assoc]
    rfl
  rw [e]
  unfold secM
  constructor
  · rw [Nat.mul_zero, List.drop_zero, List.take_append_of_le_length (by omega), List.take_of_length_le (by omega)]
  · rw [Nat.mul_one, List.drop_append_of_le_length (by omega), List.drop_of_length_le (by omega), List.nil_append, List.take_append_of_le_length (by omega), List.take_of_length_le (by omega)]
theorem cellW_ok (k n : Nat) (h : k + 2 ≤ n) : ∀ p ∈ cellW k, p.1 < n ∧ p.2.length = 128 ∧ okB p.2 := fun p hp => by
  unfold cellW at hp
  obtain ⟨j, hj, rfl⟩ := List.mem_map.1 hp
  have := List.mem_range.1 hj
  exact ⟨by show 2 + j < n; omega, List.length_replicate, zeros_ok _⟩
theorem format_len (n c : Nat) (h : c + 12 ≤ n) : (formatM (List.replicate (128 * n) 0) c).length = 128 * n := by
  refine flush_len _ _ (flush_len _ _ List.length_replicate (cellW_ok c n (by omega))) fun p hp => ?_
  rcases List.mem_cons.1 hp with rfl | hp
  · exact ⟨by show 0 < n; omega, seal_len (by rw [superB_len]; decide), seal_ok (superB_ok _ _)⟩
  · obtain rfl := List.mem_singleton.1 hp
    exact ⟨by show 1 < n; omega, List.length_replicate, zeros_ok _⟩
theorem format_ok (n c : Nat) (h : c + 12 ≤ n) : okB (formatM (List.replicate (128 * n) 0) c) := by
  refine flush_ok _ _ (flush_ok _ _ (zeros_ok _) fun p hp => (cellW_ok c n (by omega) p hp).2.2) fun p hp => ?_
  rcases List.mem_cons.1 hp with rfl | hp
  · exact seal_ok (superB_ok _ _)
  · obtain rfl := List.mem_singleton.1 hp
    exact zeros_ok _
set_option maxRecDepth 100000 in
theorem choose_format (n c : Nat) (h : c + 12 ≤ n) (h1 : 1 ≤ c) (h2 : c ≤ 1024) : chooseM (rdM (formatM (List.replicate (128 * n) 0) c) 0) (rdM (formatM (List.replicate (128 * n) 0) c) 1) = ((⟨1, 1, 0, 0⟩, (c : Int), 0, true) : SuperM × Int × Int × Bool) := by
  have hl := format_len n c h
  have hX := flush_len (n := n) (cellW c) (List.replicate (128 * n) 0) List.length_replicate (cellW_ok c n (by omega))
  have hs := two_secs (flushI (List.replicate (128 * n) 0) (cellW c)) (packSuper ⟨1, 1, 0, 0⟩ c) (List.replicate 128 0) (seal_len (by rw [superB_len]; decide)) List.length_replicate (by omega)
  have e0 : rdM (formatM (List.replicate (128 * n) 0) c) 0 = packSuper ⟨1, 1, 0, 0⟩ c := by
    unfold rdM
    rw [if_neg (by rw [hl]; omega)]
    exact hs.1
  have e1 : rdM (formatM (List.replicate (128 * n) 0) c) 1 = List.replicate 128 0 := by
    unfold rdM
    rw [if_neg (by rw [hl]; omega)]
    exact hs.2
  rw [e0, e1]
  have e2 : unpS (packSuper ⟨1, 1, 0, 0⟩ c) = ((⟨1, 1, 0, 0⟩, (c : Int), true) : SuperM × Int × Bool) := by
    unfold unpS
    rw [super_back _ _ (by unfold okSuper; simp; omega)]
  unfold chooseM
  rw [e2, unp_zero]
  rfl
theorem sectors_of {l : List Int} {n : Nat} (h : l.length = 128 * n) (hn : n ≤ 4096) : sectorsM l = n := by
  unfold sectorsM
  rw [h, if_neg (by omega)]
  omega
theorem FoundErr.bl {v : Value} {w w' : World} {c : Int} (h : FoundErr v w c) (hb : Bl w w') : FoundErr v w' c := fun w1 h1 => h w1 (hb.trans h1)
theorem found_zero (v : Value) (l : List Int) (n : Nat) (w : World) (h : byteE.Is w v l) (hl : l = List.replicate (128 * n) 0) (h1 : 1 ≤ n) (hn : n ≤ 4096) : FoundErr v w 2 := fun w1 hb => by
  have hc := choose_zero n
  rw [← hl] at hc
  have hlen : l.length = 128 * n := by rw [hl, List.length_replicate]
  exact afound_bad v l w1 n 0 0 0 0 0 0 false (h.bl hb) (by omega) (by rw [hl]; exact zeros_ok _) (sectors_of hlen hn) (by omega) hn hc (by omega) (.inl rfl)
theorem found_format (v : Value) (l : List Int) (n c : Nat) (w : World) (h : byteE.Is w v l) (hl : l = formatM (List.replicate (128 * n) 0) c) (hc : c + 12 ≤ n) (h1 : 1 ≤ c) (h2 : c ≤ 1024) (hn : n ≤ 4096) : FoundZero v w := fun w1 hb => by
  have hch := choose_format n c hc h1 h2
  rw [← hl] at hch
  have hlen : l.length = 128 * n := by rw [hl]; exact format_len n c hc
  refine (afound_zero v l w1 n 1 1 0 c 0 (h.bl hb) (by omega) (by rw [hl]; exact format_ok n c hc) (sectors_of hlen hn) (by omega) hn hch (by omega) (by omega)).mono ?_
  rintro e w2 ⟨F, M, rfl, hb2, hF⟩
  exact ⟨F, M, 1, 1, 0, c, rfl, hb2, hF⟩
theorem found_arg (v : Value) (l : List Int) (w : World) (h : byteE.Is w v l) (hl : l.length ≤ 1000000) (hs : sectorsM l = 0) : FoundErr v w 1 := fun w1 hb => afound_arg v l w1 (h.bl hb) hl hs
end Go.Proofs.YtoocebghlchcoaaGreat.ExtW
