/- Several texts joined (see each one's head). -/
import Derived.Test.YtoocebghlchcoaaGreatPkAN
import Derived.Test.YtoocebghlchcoaaGreatPkAE
import Derived.Test.YtoocebghlchcoaaGreatPkAO
import Derived.Test.YtoocebghlchcoaaGreatPkAR
import Derived.Test.YtoocebghlchcoaaGreatPkAY
import Derived.Test.YtoocebghlchcoaaGreatPkAV
/- Contracts of the document's own checksum (overdubref01): Add, Sum. -/
namespace Go.Proofs.YtoocebghlchcoaaGreat.ExtW
open Go.RowKit Go.Ov Go.Proofs.YtoocebghlchcoaaGreat.Need
theorem crcAdd_take (s : BitVec 32) (l : List Int) (j : Nat) (h : j < l.length) : crcAdd s (l.take (j + 1)) = stepC 8 (crcAdd s (l.take j) ^^^ (BitVec.ofNat 32 l[j].toNat <<< 24)) := by
  unfold crcAdd
  rw [List.take_succ_eq_append_getElem h, List.foldl_append]
  rfl
theorem shl24 (c : Int) (h : 0 ≤ c ∧ c < 256) : ((BitVec.ofNat 32 c.toNat <<< 24).toNat : Int) = c * 16777216 := by
  obtain ⟨n, rfl⟩ := Int.eq_ofNat_of_zero_le h.1
  rw [Int.toNat_natCast, BitVec.toNat_shiftLeft, BitVec.toNat_ofNat, Nat.shiftLeft_eq]
  omega
set_option maxHeartbeats 1000000 in
theorem q1Add_any (s : BitVec 32) (v : Value) (l : List Int) (w : World) (h : byteE.Is w v l) (hl : l.length ≤ 1000000) (ho : okB l) :
    Calls Tryz.prog 100 #[.int .u32 s.toNat, v] w fun e w' => e = .returned (.int .u32 (crcAdd s l).toNat) ∧ w' = w := by
  obtain ⟨A, c, rfl, h1, h2, h3, h4⟩ := h
  have HA := Lib.hid h4
  have HO := Lib.hid ho
  obtain ⟨r, hr⟩ : ∃ r, r = crcAdd s l := ⟨_, rfl⟩
  rw [← hr]
  have HR := Lib.hid hr
  clear h1 h2 h3 h4 ho hr
  go_enter Tryz.func100, Tryz.ntmps100
  go_wp2_with fail
  go_loopg [0, 10] l.length (fun gk v i wr => ∃ (j : Nat) (t : BitVec 32), j ≤ l.length ∧ gk = l.length - j ∧ i = .int .i64 j ∧ v = .int .u32 t.toNat ∧ Hid (t = crcAdd s (l.take j)) ∧ wr = w)
  case atStart => exact ⟨0, s, by omega, rfl, rfl, rfl, Lib.hid rfl, rfl⟩
  case round =>
    obtain ⟨j, t, hj, hgj, rfl, rfl, HT, hw⟩ := hrel
    obtain rfl : w = wr := hw.symm
    by_cases hjn : j < l.length
    · have hji : (j : Int) < l.length := by omega
      obtain ⟨ad, rfl, c0⟩ := byte_at HA.out j hjn
      have hcb := HO.out _ (List.getElem_mem hjn)
      have HC := Lib.hid (crcAdd_take s l j hjn)
      generalize l[j] = x at *
      have HX := Lib.hid (xor_u32 t (BitVec.ofNat 32 x.toNat <<< 24))
      have HS24 := Lib.hid (shl24 x hcb)
      have hw1 : IntKind.u32.wrap x = x := by rw [wrap_u32v]; omega
      have hw2 : IntKind.u32.wrap (x * 16777216) = x * 16777216 := by rw [wrap_u32v]; omega
      obtain ⟨q, hq⟩ : ∃ q, q = t ^^^ (BitVec.ofNat 32 x.toNat <<< 24) := ⟨_, rfl⟩
      have hx : bits .xor .u32 (t.toNat : Int) (x * 16777216) = (q.toNat : Int) := by rw [hq, ← HX.out, HS24.out]
      have HQ := Lib.hid (show crcAdd s (l.take (j + 1)) = stepC 8 q by rw [HC.out, ← HT.out, hq])
      clear hq HX HC
      go_wp2_with fail
      go_loopg [0, 6] 8 (fun gk v i wr => ∃ (k : Nat) (t : BitVec 32), k ≤ 8 ∧ gk = 8 - k ∧ i = .int .i64 k ∧ v = .int .u32 t.toNat ∧ Hid (stepC (8 - k) t = stepC 8 q) ∧ wr = w)
      case atStart => exact ⟨0, q, by omega, rfl, rfl, (by first | rfl | rw [← hx]), Lib.hid rfl, rfl⟩
      case round =>
        obtain ⟨k, t, hk, hgk, rfl, rfl, HE, hw⟩ := hrel
        obtain rfl : w = wr := hw.symm
        by_cases hlt : k < 8
        · have hlti : (k : Int) < 8 := by omega
          have hm := msb_u32 t
          have HS := Lib.hid (show stepC (8 - k) t = stepC (8 - (k + 1)) (step1 t) by rw [show 8 - k = (8 - (k + 1)) + 1 by omega]; rfl)
          have HL := Lib.hid (shl1_u32 t)
          have HX := Lib.hid (xor_u32 (t <<< 1) polyC)
          cases hb : t.msb
          · rw [hb] at hm
            have H1 := Lib.hid (show step1 t = t <<< 1 by unfold step1; rw [hb]; rfl)
            go_wp2
            go_roundg (8 - (k + 1))
            case measure => omega
            case rel => exact ⟨k + 1, step1 t, by omega, rfl, by go_num, by rw [H1.out, ← HL.out], Lib.hid (by rw [← HS.out, HE.out]), rfl⟩
          · rw [hb] at hm
            have H1 := Lib.hid (show step1 t = (t <<< 1) ^^^ polyC by unfold step1; rw [hb]; rfl)
            go_wp2
            go_roundg (8 - (k + 1))
            case measure => omega
            case rel => exact ⟨k + 1, step1 t, by omega, rfl, by go_num, by rw [H1.out, ← HX.out, ← HL.out]; rfl, Lib.hid (by rw [← HS.out, HE.out]), rfl⟩
        · obtain rfl : k = 8 := by omega
          have HE2 := Lib.hid (show t = stepC 8 q from HE.out)
          go_wp2
          go_roundg (l.length - (j + 1))
          case measure => omega
          case rel => exact ⟨j + 1, t, by omega, rfl, by go_num, rfl, Lib.hid (by rw [HQ.out, HE2.out]), rfl⟩
    · obtain rfl : j = l.length := by omega
      have e : r = t := by rw [HR.out, HT.out, List.take_of_length_le (Nat.le_refl _)]
      subst e
      go_wp2
      go_ret
      exact ⟨rfl, rfl⟩
theorem q1Sum_any (v : Value) (l : List Int) (w : World) (h : byteE.Is w v l) (hl : l.length ≤ 1000000) (ho : okB l) :
    Calls Tryz.prog 65 #[v] w fun e w' => e = .returned (.int .u32 (crcSum l).toNat) ∧ w' = w := by
  have HI := Lib.hid h
  clear h
  obtain ⟨r, hr⟩ : ∃ r, r = crcSum l := ⟨_, rfl⟩
  rw [← hr]
  have HR := Lib.hid hr
  clear hr
  go_enter Tryz.func65, Tryz.ntmps65
  go_wp2_with fail
  refine (q1Add_any (0xFFFFFFFF : BitVec 32) v l _ HI.out hl ho).mono ?_
  rintro e w1 ⟨rfl, rfl⟩
  rw [show crcAdd (0xFFFFFFFF : BitVec 32) l = r from HR.out.symm]
  go_wp2
  go_ret
  exact ⟨rfl, rfl⟩
end Go.Proofs.YtoocebghlchcoaaGreat.ExtW

/- Contracts of the document's own checksum (overdubref01): Summed, Whole. -/
namespace Go.Proofs.YtoocebghlchcoaaGreat.ExtW
open Go.RowKit Go.Ov Go.Proofs.YtoocebghlchcoaaGreat.Need
/-- noughts up to n -/
def padN (l : List Int) (n : Nat) : List Int := l ++ List.replicate (n - l.length) 0
theorem padN_ok {l : List Int} (h : okB l) (n : Nat) : okB (padN l n) := fun c hc => by
  unfold padN at hc
  rcases List.mem_append.1 hc with h1 | h1
  · exact h c h1
  · obtain ⟨_, rfl⟩ := List.mem_replicate.1 h1; omega
theorem padN_len (l : List Int) (n : Nat) : (padN l n).length ≤ l.length + n := by unfold padN; simp
theorem padN_zero (l : List Int) : padN l 0 = l := by unfold padN; simp
set_option maxHeartbeats 1000000 in
theorem q1Summed_any (v : Value) (l : List Int) (n : Nat) (w : World) (h : byteE.Is w v l) (hl : l.length ≤ 100000) (hn : n ≤ 1000) (ho : okB l) :
    Calls Tryz.prog 40 #[v, .int .i64 n] w fun e w' => ∃ u, e = .returned u ∧ byteE.Own 5 w' w.heap.size u (padN l n ++ sum4 (padN l n)) ∧ Bl w w' := by
  have HI := Lib.hid h
  have HO := Lib.hid ho
  clear h ho
  go_enter Tryz.func40, Tryz.ntmps40
  go_wp2_with (at_builtin; refine Enc.Own.append (E := byteE) rfl _ _ 25 rfl w.heap.size 5 (.int .u8 0) 1 1 Tryz.underlying25 infoByte rfl rfl (by decide) (by decide) (.slice none 0 0) [] rfl (Enc.Own.nil _ _ _) v _ rfl HI.out (by simp; omega) (Nat.le_refl _) ?_; intro u1 w1 ho1 hg1)
  have HB1 := Lib.hid ((Bl.refl w).grown hg1 (by simp [Value.ownBlock]))
  have HO1 := Lib.hid (show byteE.Own 5 w1 w.heap.size u1 (l ++ List.replicate 0 0) by simpa using ho1)
  clear ho1 hg1
  go_loopg [5] (n + 1) (fun gk u wr => ∃ (k : Nat) (ys : List Int), k ≤ n - l.length ∧ gk = n + 1 - k ∧ Hid (ys = l ++ List.replicate k 0) ∧ Hid (byteE.Own 5 wr w.heap.size u ys) ∧ Hid (Bl w wr))
  case atStart => exact ⟨0, l ++ List.replicate 0 0, by omega, rfl, Lib.hid rfl, HO1, HB1⟩
  case round =>
    obtain ⟨k, ys, hk, hgk, HY, HU, HB⟩ := hrel
    have hyl : ys.length = l.length + k := by rw [HY.out]; simp
    have hyl2 : ys.length ≤ 101000 := by omega
    obtain ⟨A, c, rfl⟩ := HU.out.slice
    by_cases hlt : k < n - l.length
    · have hlti : (ys.length : Int) < n := by omega
      clear hyl
      go_wp2_with (at_builtin; refine Enc.Own.append1 (E := byteE) rfl (.tmp 13) (.tmp 14) 25 rfl w.heap.size 5 (.int .u8 0) 1 1 Tryz.underlying25 infoByte rfl rfl (by decide) (by decide) _ ys rfl HU.out 0 _ rfl rfl rfl (by omega) HB.out.size ?_; intro u2 w2 ho hg)
      have HO2 := Lib.hid ho
      have HB2 := Lib.hid ((HB.out.alloc _).grown hg (fun k hk => (HU.out.lt k hk).1))
      clear ho hg
      go_roundg (n + 1 - (k + 1))
      case measure => omega
      case rel => exact ⟨k + 1, ys ++ [0], by omega, rfl, Lib.hid (by rw [HY.out, List.append_assoc, List.replicate_succ']), HO2, HB2⟩
    · have hlti : ¬ (ys.length : Int) < n := by omega
      have HP := Lib.hid (show ys = padN l n by unfold padN; rw [HY.out, show k = n - l.length by omega])
      clear hyl
      go_wp2_with fail
      refine (q1Sum_any _ ys _ HU.out.is (by omega) (HP.out ▸ padN_ok HO.out n)).mono ?_
      rintro e w3 ⟨rfl, rfl⟩
      obtain ⟨q, hq⟩ : ∃ q, q = crcSum ys := ⟨_, rfl⟩
      rw [← hq]
      have HQ := Lib.hid hq
      have hqlt := q.isLt
      clear hq
      go_wp2_with (at_builtin; refine Enc.Own.append (E := byteE) rfl _ _ 25 rfl w.heap.size 5 (.int .u8 0) 1 1 Tryz.underlying25 infoByte rfl rfl (by decide) (by decide) _ ys rfl (HU.out.bl ((Bl.refl _).alloc _)) _ (sum4 ys) rfl (Enc.Own.lit (E := byteE) _ 0 (sum4 ys) _ ?hcs 4 rfl (Nat.zero_le _) (by decide) rfl).is ?hlen (Nat.le_trans HB.out.size ((Bl.refl _).alloc _).size) ?_; (case hcs => rw [byte_flat]; unfold sum4; rw [← HQ.out]; simp); (case hlen => simp [sum4]; omega); intro u5 w5 ho hg)
      go_ret
      exact ⟨u5, rfl, by rw [← HP.out]; exact ho, (HB.out.alloc _).grown hg (fun k hk => (HU.out.lt k hk).1)⟩
theorem str_eq {xs ys : List Int} (ox : okB xs) (oy : okB ys) : ((strOfNums xs).toList == (strOfNums ys).toList) = decide (xs = ys) := by
  by_cases h : xs = ys
  · subst h; simp
  · rw [decide_eq_false h]
    exact beq_eq_false_iff_ne.2 fun e => h (str_inj ox oy (ByteArray.ext (Array.toList_inj.1 (by rw [← ByteArray.toList_eq, ← ByteArray.toList_eq]; exact e))))
theorem whole_eq {l : List Int} (h : l.length = 128) : decide (l.take 124 ++ sum4 (l.take 124) = l) = whole l := by
  unfold whole
  rw [h]
  simp only [decide_true, Bool.true_and]
  by_cases hs : sum4 (l.take 124) = l.drop 124
  · rw [decide_eq_true hs, hs, List.take_append_drop, decide_eq_true rfl]
  · rw [decide_eq_false hs, decide_eq_false]
    intro e
    refine hs ?_
    have := congrArg (List.drop 124) e
    rwa [List.drop_left' (by simp; omega)] at this
set_option maxRecDepth 100000 in
set_option maxHeartbeats 1000000 in
theorem q1Whole_any (v : Value) (l : List Int) (w : World) (h : byteE.Is w v l) (hl : l.length ≤ 100000) (ho : okB l) :
    Calls Tryz.prog 48 #[v] w fun e w' => e = .returned (.bool (whole l)) ∧ Bl w w' := by
  have HI := Lib.hid h
  have HO := Lib.hid ho
  obtain ⟨A, c, rfl, h1, h2, h3, h4⟩ := h
  have HC := Lib.hid h1
  clear h1 h2 h3 h4 ho
  go_enter Tryz.func48, Tryz.ntmps48
  by_cases h128 : l.length = 128
  · have hn : (l.length : Int) = 128 := by omega
    obtain ⟨V1, hV1, hI1⟩ := slice_h (E := byteE) (P := Tryz.prog) (t := 25) (by kernel_rfl) (fun w => by kernel_rfl) A c l 124 (by omega) (by omega) HC.out
    have HV1 := Lib.hid (show byteE.Is w V1 (l.take 124) from hI1 _ HI.out)
    have HT := Lib.hid (show (l.take 124).length = 124 by rw [List.length_take]; omega)
    have HW := Lib.hid (whole_eq h128)
    have HSt := Lib.hid (fun (w' : World) (v : Value) (xs : List Int) (h : byteE.Is w' v xs) => byte_str (P := Tryz.prog) h 25 9 5 Tryz.underlying25 Tryz.underlying5 Tryz.underlying9)
    have HEq := Lib.hid (show ((strOfNums (l.take 124 ++ sum4 (l.take 124))).toList == (strOfNums l).toList) = decide (l.take 124 ++ sum4 (l.take 124) = l) from str_eq (by intro c hc; rcases List.mem_append.1 hc with h | h; exact HO.out _ (List.mem_of_mem_take h); exact sum4_ok _ _ h) HO.out)
    generalize hln : l.length = n at *
    subst h128
    clear hI1 hln
    go_wp2_with fail
    refine wp_region_ways (S := (fun w' => (convert 25 9 (.slice A 128 c)).run Tryz.prog w' = .ok (.string (strOfNums l)) w')) [0, 1, 2, 3, 4, 5, 8, 9, 10, 11, 12] (y := .take 0 (.take 1 (.take 2 (.take 3 (.take 4 (.take 5 (.take 8 (.take 9 (.ev 6 (.ev 7 (.take 10 (.take 11 (.take 12 (.done)))) (.stop)) (.stop)))))))))) (by kernel_rfl) (by kernel_rfl) (by kernel_rfl) ?_ (fun hHeld => ?_)
    · exact HSt.out _ _ _ (HI.out.bl (Bl.refl w).drew)
    clear hHeld
    repeat (first | (refine wpWay_take rfl (by rfl) (by intro w hSw; (try dsimp only at hSw); first | (go_simp; done) | (go_simp; with_reducible rfl)) ?_; try simp only [Act.put, List.setIfInBounds_toArray, List.set_cons_zero, List.set_cons_succ]) | (refine wpWay_skip rfl (by rfl) ?_; try simp only [Act.put, List.setIfInBounds_toArray, List.set_cons_zero, List.set_cons_succ]))
    refine wpWay_ev rfl (fun K hK => ?_) wpWay_stop
    go_wp2_with fail
    refine (q1Summed_any _ (l.take 124) 0 _ (HV1.out.bl (Bl.refl _).drew) (by have := HT.out; omega) (by decide) (fun c hc => HO.out c (List.mem_of_mem_take hc))).mono ?_
    rintro e w1 ⟨u1, rfl, ho1, hb1⟩
    rw [padN_zero] at ho1
    have HO1 := Lib.hid ho1
    have HB1 := Lib.hid ((Bl.refl w).drew.bl hb1)
    have c1 := HSt.out _ _ _ ho1.is
    generalize strOfNums (l.take 124 ++ sum4 (l.take 124)) = s1 at *
    clear ho1 hb1
    go_wp2_with fail
    refine ⟨HSt.out _ _ _ (HI.out.bl HB1.out), ?_⟩
    repeat (first | (refine wpWay_take rfl (by rfl) (by intro w hSw; (try dsimp only at hSw); first | (go_simp; done) | (go_simp; with_reducible rfl)) ?_; try simp only [Act.put, List.setIfInBounds_toArray, List.set_cons_zero, List.set_cons_succ]) | (refine wpWay_skip rfl (by rfl) ?_; try simp only [Act.put, List.setIfInBounds_toArray, List.set_cons_zero, List.set_cons_succ]))
    refine wpWay_ev rfl (fun K hK => ?_) wpWay_stop
    go_wp2_with fail
    refine ⟨HSt.out _ _ _ (HI.out.bl HB1.out), ?_⟩
    repeat (first | (refine wpWay_take rfl (by rfl) (by intro w hSw; (try dsimp only at hSw); first | (go_simp; done) | (go_simp; with_reducible rfl)) ?_; try simp only [Act.put, List.setIfInBounds_toArray, List.set_cons_zero, List.set_cons_succ]) | (refine wpWay_skip rfl (by rfl) ?_; try simp only [Act.put, List.setIfInBounds_toArray, List.set_cons_zero, List.set_cons_succ]))
    refine wpWay_done ?_
    go_wp2
    go_ret
    exact ⟨by rw [← HW.out, ← HEq.out]; rfl, HB1.out⟩
  · have hn : ¬ (l.length : Int) = 128 := by omega
    have HW := Lib.hid (show whole l = false by unfold whole; simp [h128])
    go_wp2_with fail
    refine wp_region_ways (S := (fun w' => True)) [0, 1, 2, 3, 4, 5, 7, 8, 9, 10, 11, 12] (y := .take 0 (.take 1 (.take 2 (.take 3 (.take 4 (.take 5 (.take 8 (.take 9 (.ev 6 (.take 7 (.take 10 (.take 11 (.take 12 (.done))))) (.stop)))))))))) (by kernel_rfl) (by kernel_rfl) (by kernel_rfl) ?_ (fun hHeld => ?_)
    · trivial
    clear hHeld
    repeat (first | (refine wpWay_take rfl (by rfl) (by intro w hSw; (try dsimp only at hSw); first | (go_simp; done) | (go_simp; with_reducible rfl)) ?_; try simp only [Act.put, List.setIfInBounds_toArray, List.set_cons_zero, List.set_cons_succ]) | (refine wpWay_skip rfl (by rfl) ?_; try simp only [Act.put, List.setIfInBounds_toArray, List.set_cons_zero, List.set_cons_succ]))
    rw [show ((l.length : Int) == 128) = false by simp [hn]]
    repeat (first | (refine wpWay_take rfl (by rfl) (by intro w hSw; (try dsimp only at hSw); first | (go_simp; done) | (go_simp; with_reducible rfl)) ?_; try simp only [Act.put, List.setIfInBounds_toArray, List.set_cons_zero, List.set_cons_succ]) | (refine wpWay_skip rfl (by rfl) ?_; try simp only [Act.put, List.setIfInBounds_toArray, List.set_cons_zero, List.set_cons_succ]))
    refine wpWay_pass rfl (by rfl) trivial ?_ wpWay_stop
    try simp only [Act.put, List.setIfInBounds_toArray, List.set_cons_zero, List.set_cons_succ]
    repeat (first | (refine wpWay_take rfl (by rfl) (by intro w hSw; (try dsimp only at hSw); first | (go_simp; done) | (go_simp; with_reducible rfl)) ?_; try simp only [Act.put, List.setIfInBounds_toArray, List.set_cons_zero, List.set_cons_succ]) | (refine wpWay_skip rfl (by rfl) ?_; try simp only [Act.put, List.setIfInBounds_toArray, List.set_cons_zero, List.set_cons_succ]))
    refine wpWay_done ?_
    go_wp2
    go_ret
    exact ⟨by rw [HW.out]; rfl, (Bl.refl _).drew⟩
end Go.Proofs.YtoocebghlchcoaaGreat.ExtW

/- Contracts of the document's own Open (overdubref05), Samples (overdubref20). -/
namespace Go.Proofs.YtoocebghlchcoaaGreat.ExtW
open Go.RowKit Go.Ov Go.Proofs.YtoocebghlchcoaaGreat.Need
set_option maxHeartbeats 1000000 in
theorem q5Open_any (v : Value) (l : List Int) (w : World) (h : byteE.Is w v l) (hl : l.length ≤ 10000) (ho : okB l) :
    Calls Tryz.prog 27 #[v] w fun e w' => DecP w w' (openM l) e ∧ Bl w w' := by
  have HI := Lib.hid h
  have HO := Lib.hid ho
  obtain ⟨A, c, rfl, h1, h2, h3, h4⟩ := h
  have HC := Lib.hid h1
  obtain ⟨o, hr⟩ : ∃ r, r = openM l := ⟨_, rfl⟩
  rw [← hr]
  have HR := Lib.hid hr
  clear h1 h2 h3 h4 ho hr
  go_enter Tryz.func27, Tryz.ntmps27
  go_wp2_with fail
  refine (q1Whole_any _ l _ HI.out (by omega) HO.out).mono ?_
  rintro e w1 ⟨rfl, hb1⟩
  have HB1 := Lib.hid hb1
  clear hb1
  cases hw : whole l
  · obtain rfl : o = none := by rw [HR.out]; unfold openM; rw [hw]; rfl
    go_wp2
    go_ret2
    exact ⟨rfl, HB1.out⟩
  · have HRd := Lib.hid (show o = decM (unpackB (l.take 124)) by rw [HR.out]; unfold openM; rw [hw]; rfl)
    have hlen : l.length = 128 := by
      unfold whole at hw
      simp only [Bool.and_eq_true, decide_eq_true_eq] at hw
      exact hw.1
    obtain ⟨V1, hV1, hI1⟩ := slice_h (E := byteE) (P := Tryz.prog) (t := 25) (by kernel_rfl) (fun w => by kernel_rfl) A c l 124 (by omega) (by omega) HC.out
    have HV1 := Lib.hid (show byteE.Is w V1 (l.take 124) from hI1 _ HI.out)
    have hi124 : (124 : Int) ≤ l.length := by omega
    clear hI1 HR hlen
    go_wp2_with fail
    refine (q5Decode_any V1 (l.take 124) _ (HV1.out.bl HB1.out) (by rw [List.length_take]; omega) (HO.out.take _)).mono ?_
    rintro e w2 ⟨hd, hb2⟩
    rw [← HRd.out] at hd
    have HB2 := Lib.hid (HB1.out.trans hb2)
    have HSz := Lib.hid HB1.out.size
    clear hb2
    cases o with
    | none =>
      obtain rfl := hd
      go_wp2
      go_ret2
      exact ⟨rfl, HB2.out⟩
    | some x =>
      obtain ⟨ux, rfl, hx, hxl⟩ := hd
      have HXx := Lib.hid (hx.low HSz.out)
      clear hx
      go_wp2
      go_ret2
      exact ⟨⟨_, rfl, HXx.out, hxl⟩, HB2.out⟩
set_option maxRecDepth 100000 in
set_option maxHeartbeats 4000000 in
theorem q20Samples_any (v vl : Value) (img : List Int) (l : List Ext) (w : World) (h : byteE.Is w v img) (_ : img.length ≤ 1000000) (hok : okB img) (hl : extE.Is w vl l) (hn : l.length ≤ 1000) (hone : ∀ e ∈ l, oneB e = true) :
    Calls Tryz.prog 13 #[v, vl] w fun e w' => SmpRP w w' (smpO img [] l) e ∧ Bl w w' := by
  have HI := Lib.hid h
  have HO := Lib.hid hok
  have HOne := Lib.hid hone
  obtain ⟨Ai, ci, rfl, hci, -, -, -⟩ := h
  have HCi := Lib.hid hci
  obtain ⟨A, c, rfl, h1, h2, h3, h4⟩ := hl
  have HA := Lib.hid h4
  obtain ⟨o, hO⟩ : ∃ o, o = smpO img [] l := ⟨_, rfl⟩
  rw [← hO]
  have HR := Lib.hid hO
  have hu := Tryz.underlying34
  clear h1 h2 h3 h4 hok hone hO hci
  go_enter Tryz.func13, Tryz.ntmps13
  go_wp2_with fail
  go_loopg [6, 13] l.length (fun gk s i wr => ∃ (k : Nat) (x : List Int), k ≤ l.length ∧ gk = l.length - k ∧ i = .int .i64 k ∧ Hid (x.length ≤ 64 * k) ∧ Hid (intE.Own 3 wr w.heap.size s x) ∧ Hid (smpO img [] (l.take k) = some x) ∧ Hid (Bl w wr))
  case atStart => exact ⟨0, [], by omega, rfl, rfl, Lib.hid (by simp), Lib.hid (Enc.Own.nil _ _ _), Lib.hid rfl, Lib.hid (Bl.refl _)⟩
  case round =>
    obtain ⟨k, x, hk, hgk, rfl, HL, HX, HRn, HBl⟩ := hrel
    obtain ⟨A3, c3, rfl⟩ := HX.out.slice
    by_cases hlt : k < l.length
    · have hlti : (k : Int) < l.length := by omega
      obtain ⟨ad, rfl, c0, c1, c2, c3, c4⟩ := ext_at (HA.out.bl HBl.out) k hlt
      have HT := Lib.hid (show smpO img [] (l.take (k + 1)) = _ by rw [List.take_succ_eq_append_getElem hlt, smpO_snoc, HRn.out, Option.bind_some])
      have HD := Lib.hid (List.take_append_drop (k + 1) l)
      have h1 := HOne.out _ (List.getElem_mem hlt)
      generalize l[k] = x at *
      obtain ⟨x0, x1, x2, x3, x4⟩ := x
      dsimp only at c0 c1 c2 c3 c4
      unfold oneB at h1
      simp only [Bool.and_eq_true, decide_eq_true_eq] at h1
      obtain ⟨⟨⟨⟨⟨⟨g1, g2⟩, g3⟩, g4⟩, g5⟩, g6⟩, g7⟩ := h1
      have hal := (Bl.refl wr).alloc (.cells #[.int .i64 x0, .int .i64 x1, .int .i64 x2, .int .i64 x3, .int .i64 x4] 34)
      have HBe := Lib.hid (Blk.new wr #[.int .i64 x0, .int .i64 x1, .int .i64 x2, .int .i64 x3, .int .i64 x4] 34)
      have HB2 := Lib.hid (HBl.out.trans hal)
      have HX2 := Lib.hid (HX.out.bl hal)
      have HNN := Lib.hid (fun (h : extO img ⟨x0, x1, x2, x3, x4⟩ = none) => (show o = none by
        rw [HR.out, ← HD.out]
        refine smpO_none img _ _ _ ?_
        rw [HT.out, h]; rfl))
      have hw1 : IntKind.i64.wrap (x1 + 1) = x1 + 1 := IntWalk.i64_in _ (by omega)
      have hw2 : IntKind.i64.wrap ((x1 + 1) * 128) = (x1 + 1) * 128 := IntWalk.i64_in _ (by omega)
      have hw3 : IntKind.i64.wrap (x1 * 128) = x1 * 128 := IntWalk.i64_in _ (by omega)
      clear hal
      by_cases hsec : (img.length : Int) / 128 ≤ x1
      · have e := HNN.out (by unfold extO; rw [if_pos hsec])
        subst e
        have hgt : (img.length : Int) < (x1 + 1) * 128 := by omega
        go_wp2
        go_ret2
        exact ⟨rfl, HB2.out⟩
      · have hgt : ¬ (img.length : Int) < (x1 + 1) * 128 := by omega
        have HSec := Lib.hid hsec
        obtain ⟨V, hV, hVI⟩ := slice_lh (E := byteE) (P := Tryz.prog) (t := 25) (by kernel_rfl) (fun w => by kernel_rfl) Ai ci img (x1 * 128) ((x1 + 1) * 128) (by omega) (by omega) (by omega) HCi.out
        have HV := Lib.hid (show byteE.Is w V (rdM img x1) by
          have e := hVI _ HI.out
          have e2 : (img.take ((x1 + 1) * 128).toNat).drop (x1 * 128).toNat = rdM img x1 := by
            unfold rdM secM
            rw [if_neg (by omega), List.drop_take, show ((x1 + 1) * 128).toNat - (x1 * 128).toNat = 128 by omega, show (x1 * 128).toNat = 128 * x1.toNat by omega]
          rwa [e2] at e)
        clear hVI hsec
        go_wp2_with fail
        generalize wr.heap.size = N at *
        generalize wr.alloc (.cells #[.int .i64 x0, .int .i64 x1, .int .i64 x2, .int .i64 x3, .int .i64 x4] 34) = w2 at *
        clear c0 c1 c2 c3 c4
        refine (q5Open_any V (rdM img x1) _ (HV.out.bl HB2.out) (by have := rd_len img x1; omega) (rd_ok HO.out x1)).mono ?_
        rintro e w4 ⟨hd, hb4⟩
        have HB4 := Lib.hid (HB2.out.trans hb4)
        have HX4 := Lib.hid (HX2.out.bl hb4)
        have hbe := HBe.out.bl hb4
        have c1 := hbe.cell 1
        have c2 := hbe.cell 2
        have c3 := hbe.cell 3
        have c4 := hbe.cell 4
        simp at c1 c2 c3 c4
        clear hb4 hbe
        cases hop : openM (rdM img x1) with
        | none =>
          rw [hop] at hd
          obtain rfl := hd
          have e := HNN.out (by unfold extO; rw [if_neg (show ¬ ((img.length : Int) / 128 ≤ x1) by have := HSec.out; omega), hop]; rfl)
          subst e
          go_wp2
          go_ret2
          exact ⟨rfl, HB4.out⟩
        | some y =>
          rw [hop] at hd
          obtain ⟨uy, rfl, hy, hyl⟩ := hd
          obtain ⟨Ay, cy, rfl⟩ := hy.slice
          by_cases hcnt : (y.length : Int) = x2
          · have HY := Lib.hid hy
            have hcap : y.length ≤ cy := by
              obtain ⟨_, _, e, h1, _⟩ := hy.is
              simp only [Value.slice.injEq] at e
              obtain ⟨-, -, rfl⟩ := e
              exact h1
            obtain ⟨V2, hV2, hVI2⟩ := slice_lh (E := intE) (P := Tryz.prog) (t := 24) (by kernel_rfl) (fun w => by kernel_rfl) Ay cy y x3 (x3 + x4) (by omega) (by omega) (by omega) hcap
            have HV2 := Lib.hid (hVI2 _ HY.out.is)
            have HT2 := Lib.hid (HT.out.trans (show _ = some (x ++ (y.take (x3 + x4).toNat).drop x3.toNat) by unfold extO; rw [if_neg (show ¬ ((img.length : Int) / 128 ≤ x1) by have := HSec.out; omega), hop, Option.bind_some, if_pos hcnt]; rfl))
            have hw4 : IntKind.i64.wrap (x3 + x4) = x3 + x4 := IntWalk.i64_in _ (by omega)
            have HVl := Lib.hid (show ((y.take (x3 + x4).toNat).drop x3.toNat).length ≤ 64 by simp; omega)
            clear hy hVI2 hcap HT HNN
            go_wp2_with (at_builtin; refine Enc.Own.append (E := intE) rfl (.tmp 49) (.tmp 58) 24 rfl w.heap.size 3 (.int .i64 0) 1 8 Tryz.underlying24 infoIntF rfl rfl (by decide) (by decide) _ x rfl HX4.out _ _ rfl HV2.out (by have := HL.out; have := HVl.out; omega) HB4.out.size ?_; intro u5 w5 ho hg)
            have HX5 := Lib.hid ho
            have HB5 := Lib.hid (HB4.out.grown hg (fun g e => (HX4.out.lt g e).1))
            clear ho hg
            go_roundg (l.length - (k + 1))
            case measure => omega
            case rel => exact ⟨k + 1, _, by omega, rfl, by go_num, Lib.hid (by rw [List.length_append]; have := HL.out; have := HVl.out; omega), HX5, HT2, HB5⟩
          · have e := HNN.out (by unfold extO; rw [if_neg (show ¬ ((img.length : Int) / 128 ≤ x1) by have := HSec.out; omega), hop, Option.bind_some, if_neg hcnt])
            subst e
            go_wp2
            go_ret2
            exact ⟨rfl, HB4.out⟩
    · obtain rfl : k = l.length := by omega
      have e : o = some x := by rw [HR.out, ← HRn.out, List.take_of_length_le (Nat.le_refl _)]
      subst e
      go_wp2
      go_ret2
      exact ⟨⟨_, rfl, HX.out⟩, HBl.out⟩
end Go.Proofs.YtoocebghlchcoaaGreat.ExtW
