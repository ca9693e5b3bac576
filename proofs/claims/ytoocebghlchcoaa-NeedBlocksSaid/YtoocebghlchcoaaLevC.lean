/- Contract of levin.Coefficients (weak: which coefficients, is not said). -/
import Derived.Test.YtoocebghlchcoaaLevS
import Derived.Deep.OwnRows
namespace Go.Proofs.Ytoocebghlchcoaa.ExtW
open Go.RowKit Go.Ov Go.Proofs.Ytoocebghlchcoaa.Need

theorem rep_flat (n : Nat) : (List.replicate n (0 : Int)).flatMap intE.c = List.replicate n (.int .i64 0) := by
  induction n with
  | zero => rfl
  | succ n ih => rw [List.replicate_succ, List.flatMap_cons, ih, List.replicate_succ]; rfl
theorem int_put {T : TypeId} {w : World} {base g n cap : Nat} {xs : List Int} (h : intE.Own T w base (.slice (some ⟨g, 0, none⟩) n cap) xs) (i : Nat) (x : Int) (_ : i < xs.length) :
    intE.Own T (w.setCell ⟨g, i, none⟩ (.int .i64 x)) base (.slice (some ⟨g, 0, none⟩) n cap) (xs.set i x) := by
  have hf : ∀ l : List Int, l.flatMap intE.c = l.map (Value.int .i64) := fun l => by
    induction l with
    | nil => rfl
    | cons a l ih => rw [List.flatMap_cons, ih]; rfl
  obtain ⟨h1, h2⟩ := h
  rcases h2 with ⟨h2, _⟩ | ⟨g', c, cur, h2, h3, h4, h5, h6, h7, h8⟩
  · cases h2
  · simp at h2
    obtain ⟨rfl, rfl, rfl⟩ := h2
    refine ⟨by rw [flat_len, List.length_set], .inr ⟨g, cap, cur.setIfInBounds i (.int .i64 x), by rw [List.length_set], h3, setCell_at w g i _ cur T _ h4, by rw [List.length_set]; exact h5, h6, by simpa using h7, ?_⟩⟩
    rw [hf, Array.toList_setIfInBounds, List.take_set, List.length_set, h8, hf, List.map_set]

set_option maxRecDepth 100000 in
set_option maxHeartbeats 1000000 in
theorem lcoefs_any (v : Value) (l : List Int) (o : Nat) (w : World) (h : intE.Is w v l) (ho : 1 ≤ o) (ho2 : o ≤ 12) (hx : chkM l = 0) :
    Calls Try.prog 37 #[v, .int .i64 o] w fun e w' => ∃ u ok, e = .returned (.tuple #[u, .bool ok]) ∧ Bl w w' ∧ (ok = true → ∃ c, o < l.length ∧ c.length = o ∧ (∀ v ∈ c, okC v = true) ∧ intE.Is (only w' (fr w)) u c) := by
  have HI := Lib.hid h
  obtain ⟨A, cp, rfl, g1, g2, g3, h4⟩ := h
  clear g1 g2 g3 h4
  have hl := (chk_ok hx).2
  have HX := Lib.hid hx
  go_enter Try.func37, Try.ntmps37
  have ho3 : ¬ (o : Int) < 1 := by omega
  have ho4 : ¬ (12 : Int) < o := by omega
  go_wp2_with fail
  refine (xcheck_any _ l _ HI.out (by omega)).mono ?_
  rintro e w' ⟨rfl, rfl⟩
  rw [hx]
  rcases (show (l.length : Int) ≤ o ∨ ¬ (l.length : Int) ≤ o by omega) with hle | hle
  · go_wp2
    go_ret2
    exact ⟨_, false, rfl, Bl.refl _, fun h => by cases h⟩
  go_wp2_with fail
  refine (lauto_any _ l o _ HI.out ho2 HX.out).mono ?_
  rintro e w1 ⟨u1, r1, rfl, hb1, hl1, hr1, h1⟩
  have HB1 := Lib.hid hb1
  have HR1 := Lib.hid hr1
  have H1 := Lib.hid h1
  clear hb1 hr1 h1
  go_wp2_with fail
  refine (lscaled_any _ r1 _ H1.out.is (by omega) (by omega) HR1.out).mono ?_
  rintro e w2 ⟨u2, r2, s2, rfl, hb2, hl2, h2⟩
  have HB2 := Lib.hid (HB1.out.trans hb2)
  obtain ⟨A2, c2, rfl⟩ := id h2.slice
  have H2 := Lib.hid h2
  have HI2 := Lib.hid h2.is
  clear hb2 h2
  obtain ⟨_, _, e1, _, _, _, hat⟩ := HI2.out
  simp only [Value.slice.injEq] at e1
  obtain ⟨rfl, -, -⟩ := e1
  have HA := Lib.hid hat
  obtain ⟨ad, rfl, z0⟩ := int_at hat 0 (by omega)
  clear hat
  generalize r2[0] = x0 at *
  have z1 : w2.cell? ad = some (.int .i64 x0) := z0
  have hnil : ¬ r2 = [] := by rintro rfl; simp at hl2; omega
  have hpos : 0 < r2.length := by omega
  have hwo : IntKind.i64.wrap ((o : Int) + 1) = o + 1 := IntWalk.i64_in _ (by omega)
  have hmk : ∀ w, (Instr.makeSlice 22 (.int .i64 ((o : Int) + 1)) (.int .i64 ((o : Int) + 1))).run Try.prog w = .ok (.slice (some ⟨w.heap.size, 0, none⟩) (o + 1) (o + 1)) (w.alloc (.cells (madeCells #[.int .i64 0] (o + 1)) 3)) := fun w => by
    have := run_make_row' (P := Try.prog) 22 3 (.int .i64 0) 8 Try.underlying22 infoIntX rfl .i64 .i64 (o + 1) (by omega) (by omega) w
    rw [Int.natCast_add] at this
    exact this
  go_wp2_with fail
  have HOa := Lib.hid (Enc.Own.lit (E := intE) (e := 3) w2 w2.heap.size (List.replicate (o + 1) 0) (madeCells #[.int .i64 0] (o + 1)) (by rw [toList_madeCells_one]; exact (rep_flat _).symm) (o + 1) (by simp) (Nat.le_refl _) (by unfold maxLen; omega) rfl)
  go_loopg [10, 12] o (fun gk ve vi wr => ∃ (i : Nat) (ev : Int) (xs : List Int), 1 ≤ i ∧ i ≤ o + 1 ∧ gk = o + 1 - i ∧ vi = .int .i64 i ∧ ve = .int .i64 ev ∧ xs.length = o + 1 ∧ Hid (intE.Own 3 wr w2.heap.size (.slice (some ⟨w2.heap.size, 0, none⟩) (o + 1) (o + 1)) xs) ∧ Hid (Bl w2 wr))
  case atStart => exact ⟨1, x0, List.replicate (o + 1) 0, by omega, by omega, by omega, rfl, rfl, by simp, HOa, Lib.hid ((Bl.refl _).alloc _)⟩
  clear HOa
  case round =>
    obtain ⟨i, ev, xs, hi1, hi2, hgk, rfl, rfl, hxl, HO, HW⟩ := hrel
    by_cases hlt : i < o + 1
    · have hlti : (i : Int) ≤ o := by omega
      rcases (show ev < 1 ∨ ¬ ev < 1 by omega) with hev | hev
      · go_wp2
        go_ret2
        exact ⟨_, false, rfl, HB2.out.trans HW.out, fun h => by cases h⟩
      obtain ⟨ad', e2, c0⟩ := int_at HA.out i (by omega)
      injection e2 with e2
      subst e2
      replace c0 := HW.out.cell c0
      generalize r2[i] = ri at *
      have hil : i < r2.length := by omega
      have hil2 : (i : Int) < (o : Int) + 1 := by omega
      go_wp2_with fail
      go_loopg [13, 14] (i - 1) (fun gk vk vj wr2 => ∃ (j : Nat) (kv : Int), 1 ≤ j ∧ j ≤ i ∧ gk = i - j ∧ vj = .int .i64 j ∧ vk = .int .i64 kv ∧ Hid (Bl wr wr2))
      case atStart => exact ⟨1, _, by omega, by omega, by omega, rfl, rfl, Lib.hid (Bl.refl _)⟩
      clear c0
      case round =>
        obtain ⟨j, kv, hj1, hj2, hgj, rfl, rfl, HV⟩ := hrel
        by_cases hjlt : j < i
        · have hji : (j : Int) < i := by omega
          obtain ⟨_, _, e3, _, _, _, hat⟩ := (HO.out.bl HV.out).is
          simp only [Value.slice.injEq] at e3
          obtain ⟨rfl, -, -⟩ := e3
          obtain ⟨ad3, e4, d0⟩ := int_at hat j (by omega)
          injection e4 with e4
          subst e4
          rw [add_zero_block] at d0
          clear hat
          obtain ⟨ad', e2, d2⟩ := int_at HA.out (i - j) (by omega)
          injection e2 with e2
          subst e2
          replace d2 := HV.out.cell (HW.out.cell d2)
          generalize xs[j] = x at *
          generalize r2[i - j] = y at *
          generalize hm : i - j = m at *
          have hw1 : IntKind.i64.wrap (m : Int) = m := IntWalk.i64_in _ (by omega)
          have hw3 : (i : Int) - j = m := by omega
          have hml : m < r2.length := by omega
          have hml2 : (m : Int) < (o : Int) + 1 := by omega
          have hjl : (j : Int) < (o : Int) + 1 := by omega
          clear hm
          go_wp2_with fail
          refine wp_region_ways (S := (fun w'' => w''.cell? ⟨w2.heap.size, j, none⟩ = some (.int .i64 x) ∧ w''.cell? (ad.add m) = some (.int .i64 y))) [0, 1, 2, 3, 4, 5, 6, 7, 8, 9, 10, 11, 12, 13] (y := .take 0 (.take 1 (.take 2 (.take 3 (.take 4 (.take 5 (.take 6 (.take 7 (.take 8 (.take 9 (.take 10 (.take 11 (.take 12 (.take 13 (.done))))))))))))))) (by kernel_rfl) (by kernel_rfl) (by kernel_rfl) ?_ (fun hHeld => ?_)
          · exact ⟨(Bl.refl _).drew.cell d0, (Bl.refl _).drew.cell d2⟩
          clear hHeld
          repeat (first | (refine wpWay_take rfl (by rfl) (by intro w hSw; (try dsimp only at hSw); first | (go_simp; done) | (go_simp; with_reducible rfl)) ?_; try simp only [Act.put, List.setIfInBounds_toArray, List.set_cons_zero, List.set_cons_succ]) | (refine wpWay_skip rfl (by rfl) ?_; try simp only [Act.put, List.setIfInBounds_toArray, List.set_cons_zero, List.set_cons_succ]))
          refine wpWay_done ?_
          go_wp2_with fail
          go_roundg (i - (j + 1))
          case measure => omega
          case rel => exact ⟨j + 1, _, by omega, by omega, rfl, by go_num, rfl, Lib.hid HV.out.drew⟩
        · obtain rfl : i = j := by omega
          go_wp2_with fail
          refine (lfloor_any kv ev (by omega) _).mono ?_
          rintro e w3 ⟨⟨q, rfl⟩, rfl⟩
          have HOv := Lib.hid (HO.out.bl HV.out)
          have HWv := Lib.hid (HW.out.trans HV.out)
          have hs1 : xs.length * 8 ≤ 140737488355328 := by omega
          go_wp2_with (at_builtin; refine Enc.Own.append (E := intE) rfl _ _ 22 rfl w3.heap.size 3 (.int .i64 0) 1 8 Try.underlying22 infoIntX rfl rfl (by decide) (by decide) (.slice none 0 0) [] rfl (Enc.Own.nil _ _ _) _ xs rfl HOv.out.is ?hlen (Nat.le_refl _) ?_; (case hlen => simp; omega); intro u5 w5 ho5 hg5)
          generalize max (-4095) (min q 4095) = kq at *
          have HB5 := Lib.hid ((Bl.refl w3).grown hg5 (by simp [Value.ownBlock]))
          have HO5 := Lib.hid (show intE.Own 3 w5 w3.heap.size u5 xs by simpa using ho5)
          have HOa := Lib.hid (HOv.out.bl HB5.out)
          have HWa := Lib.hid (HWv.out.trans HB5.out)
          have hgl : w2.heap.size < w3.heap.size := (HOv.out.lt _ rfl).2
          clear ho5 hg5
          obtain ⟨A5, c5, rfl⟩ := HO5.out.slice
          have hx5 : ∃ g5, A5 = some ⟨g5, 0, none⟩ := by
            rcases HO5.out.parts with ⟨_, e2⟩ | ⟨g, c2, e, _⟩
            · exfalso; first | (rw [e2] at hxl; simp at hxl; done) | (simp at e2; rw [e2] at hxl; simp at hxl; done) | (rw [hxl] at e2; omega)
            · simp only [Value.slice.injEq] at e; exact ⟨g, e.1⟩
          obtain ⟨g5, rfl⟩ := hx5
          have hg5 := (HO5.out.lt _ rfl).1
          have HXL := Lib.hid hxl
          clear hxl
          go_loopg [16] (i - 1) (fun gk vj wr3 => ∃ (j : Nat) (ys : List Int), 1 ≤ j ∧ j ≤ i ∧ gk = i - j ∧ vj = .int .i64 j ∧ ys.length = o + 1 ∧ Hid (intE.Own 3 wr3 w2.heap.size (.slice (some ⟨w2.heap.size, 0, none⟩) (o + 1) (o + 1)) ys) ∧ Hid (intE.Own 3 wr3 w3.heap.size (.slice (some ⟨g5, 0, none⟩) xs.length c5) xs) ∧ Hid (Bl w2 wr3))
          case atStart => exact ⟨1, xs, by omega, by omega, by omega, rfl, HXL.out, HOa, HO5, HWa⟩
          case round =>
            obtain ⟨j, ys, hj1, hj2, hgj, rfl, hyl, HP, HQ, HZ⟩ := hrel
            by_cases hjlt : j < i
            · have hji : (j : Int) < i := by omega
              obtain ⟨_, _, _, _, _, _, hat⟩ := HQ.out.is
              have hq1 := (OwnBlk.of HP.out).cell j (by show j < (o + 1) * 1; omega)
              obtain ⟨⟨u0, hu0⟩, fr0⟩ := hq1
              have hj5 : j < xs.length := by have := HXL.out; omega
              have hm5 : i - j < xs.length := by have := HXL.out; omega
              have hex : ∀ W : World, intE.Own 3 W w3.heap.size (.slice (some ⟨g5, 0, none⟩) xs.length c5) xs → W.cell? ⟨g5, j, none⟩ = some (.int .i64 xs[j]) ∧ W.cell? ⟨g5, i - j, none⟩ = some (.int .i64 xs[i - j]) := fun W hW => by
                obtain ⟨_, _, e3, _, _, _, hat⟩ := hW.is
                simp only [Value.slice.injEq] at e3
                obtain ⟨rfl, -, -⟩ := e3
                obtain ⟨a1, e4, d0⟩ := int_at hat j hj5
                injection e4 with e4
                subst e4
                obtain ⟨a1, e4, d2⟩ := int_at hat (i - j) hm5
                injection e4 with e4
                subst e4
                rw [add_zero_block] at d0 d2
                exact ⟨d0, d2⟩
              clear hat
              generalize xs[j] = x at *
              generalize xs[i - j] = y at *
              generalize hm : i - j = m at *
              have HEX := Lib.hid hex
              obtain ⟨d0, d2⟩ := hex _ HQ.out
              have hw1 : IntKind.i64.wrap (m : Int) = m := IntWalk.i64_in _ (by omega)
              have hw3 : (i : Int) - j = m := by omega
              have hjx : (j : Int) < xs.length := by omega
              have hmx : (m : Int) < xs.length := by omega
              have hjo : (j : Int) < (o : Int) + 1 := by omega
              have hmo : (m : Int) < (o : Int) + 1 := by omega
              have hmo2 : m < o + 1 := by omega
              have hjo2 : j < o + 1 := by omega
              have hmo3 : (m : Int) < ((o + 1 : Nat) : Int) := by omega
              have hjo3 : (j : Int) < ((o + 1 : Nat) : Int) := by omega
              clear hm hex fr0 hu0
              go_wp2_with fail
              refine wp_region_ways (S := (fun w'' => w''.cell? ⟨g5, j, none⟩ = some (.int .i64 x) ∧ w''.cell? ⟨g5, m, none⟩ = some (.int .i64 y))) [0, 1, 2, 3, 4, 5, 6, 7, 8, 9, 10, 11, 12, 13, 14, 15, 16] (y := .take 0 (.take 1 (.take 2 (.take 3 (.take 4 (.take 5 (.take 6 (.take 7 (.take 8 (.take 9 (.take 10 (.take 11 (.take 12 (.take 13 (.take 14 (.take 15 (.take 16 (.ev 17 (.done) (.stop))))))))))))))))))) (by kernel_rfl) (by kernel_rfl) (by kernel_rfl) ?_ (fun hHeld => ?_)
              · exact ⟨(Bl.refl _).drew.cell d0, (Bl.refl _).drew.cell d2⟩
              clear hHeld
              have HPd := Lib.hid (HP.out.bl (Bl.refl _).drew)
              have HQd := Lib.hid (HQ.out.bl (Bl.refl _).drew)
              obtain ⟨⟨u0, hu0⟩, fr0⟩ := (OwnBlk.of HPd.out).cell j (by show j < (o + 1) * 1; omega)
              repeat (first | (refine wpWay_take rfl (by rfl) (by intro w hSw; (try dsimp only at hSw); first | (go_simp; done) | (go_simp; with_reducible rfl)) ?_; try simp only [Act.put, List.setIfInBounds_toArray, List.set_cons_zero, List.set_cons_succ]) | (refine wpWay_skip rfl (by rfl) ?_; try simp only [Act.put, List.setIfInBounds_toArray, List.set_cons_zero, List.set_cons_succ]))
              refine wpWay_ev rfl (fun K hK => ?_) wpWay_stop
              go_wp2_with fail
              generalize wrap64 (x - wrap64 (kq * y) / 4096) = V at *
              have hne : (Value.slice (some ⟨g5, 0, none⟩) xs.length c5).ownBlock ≠ some w2.heap.size := by intro e; simp [Value.ownBlock] at e; omega
              have HQs := Lib.hid ((HQ.out.grown (setCell_grown wr w2.heap.size j (.int .i64 V)) (.inr hne)).bl (Bl.refl _).drew)
              have HPs := Lib.hid ((int_put HP.out j V (by omega)).bl (Bl.refl _).drew)
              have HZs := Lib.hid ((HZ.out.set w2.heap.size j (.int .i64 V) (Nat.le_refl _)).drew)
              refine ⟨HEX.out _ HQs.out, ?_⟩
              repeat (first | (refine wpWay_take rfl (by rfl) (by intro w hSw; (try dsimp only at hSw); first | (go_simp; done) | (go_simp; with_reducible rfl)) ?_; try simp only [Act.put, List.setIfInBounds_toArray, List.set_cons_zero, List.set_cons_succ]) | (refine wpWay_skip rfl (by rfl) ?_; try simp only [Act.put, List.setIfInBounds_toArray, List.set_cons_zero, List.set_cons_succ]))
              refine wpWay_done ?_
              go_wp2_with fail
              go_roundg (i - (j + 1))
              case measure => omega
              case rel => exact ⟨j + 1, ys.set j V, by omega, by omega, rfl, by go_num, by simp [hyl], HPs, HQs, HZs⟩
            · obtain rfl : i = j := by omega
              obtain ⟨⟨u0, hu0⟩, fr0⟩ := (OwnBlk.of HP.out).cell i (by show i < (o + 1) * 1; omega)
              go_wp2_with fail
              go_roundg (o + 1 - (i + 1))
              case measure => omega
              case rel => exact ⟨i + 1, _, ys.set i kq, by omega, by omega, rfl, by go_num, rfl, by simp [hyl], Lib.hid (int_put HP.out i kq (by omega)), Lib.hid (HZ.out.set w2.heap.size i (.int .i64 kq) (Nat.le_refl _))⟩
    · obtain rfl : i = o + 1 := by omega
      have HIx := Lib.hid (show intE.Is (only wr (fr w')) (.slice (some ⟨w2.heap.size, 0, none⟩) xs.length (o + 1)) xs by rw [hxl]; exact HO.out.isM (fun k hk => fr_ge HB2.out.size hk))
      obtain ⟨V2, hV2, hI2⟩ := slice_l (E := intE) (P := Try.prog) (t := 22) (by kernel_rfl) (fun w => by kernel_rfl) (some ⟨w2.heap.size, 0, none⟩) (o + 1) xs 1 (by omega) (by omega)
      rw [hxl] at hV2
      have HV' := Lib.hid (show intE.Is (only wr (fr w')) V2 (xs.drop 1) from hI2 _ HIx.out)
      have HV := Lib.hid ((Sub.un _ _).is HV'.out)
      have hdl : (xs.drop 1).length = o := by rw [List.length_drop]; omega
      clear hI2
      obtain ⟨ys, hys⟩ : ∃ ys, ys = xs.drop 1 := ⟨_, rfl⟩
      rw [← hys] at HV HV' hdl
      clear hys
      obtain ⟨A6, c6, rfl, k1, k2, k3, k4⟩ := id HV.out
      have HA6 := Lib.hid k4
      clear k1 k2 k3 k4
      rw [hdl] at hV2
      go_wp2_with fail
      go_loopg [4, 5, 128] o (fun gk v4 v5 vi wr2 => ∃ k : Nat, k ≤ o ∧ gk = o - k ∧ vi = .int .i64 k ∧ Hid ((ys.take k).all okC = true) ∧ wr2 = wr)
      case atStart => exact ⟨0, by omega, rfl, rfl, Lib.hid (by simp), rfl⟩
      case round =>
        obtain ⟨k, hk, hgk, rfl, HK, hw⟩ := hrel
        subst hw
        by_cases hlt : k < o
        · have hlti : (k : Int) < o := by omega
          obtain ⟨ad6, rfl, c0⟩ := int_at HA6.out k (by omega)
          obtain ⟨x, hx⟩ : ∃ x, x = ys[k]'(by omega) := ⟨_, rfl⟩
          rw [← hx] at c0
          have HX2 := Lib.hid hx
          clear hx
          rcases (show x < -32768 ∨ (-32768 ≤ x ∧ 32767 < x) ∨ (-32768 ≤ x ∧ x ≤ 32767) by omega) with hq | ⟨hq, hq2⟩ | ⟨hq, hq2⟩
          · go_wp2
            go_ret2
            exact ⟨_, false, rfl, HB2.out.trans HW.out, fun h => by cases h⟩
          · go_wp2
            go_ret2
            exact ⟨_, false, rfl, HB2.out.trans HW.out, fun h => by cases h⟩
          · go_wp2
            go_roundg (o - (k + 1))
            case measure => omega
            case rel => exact ⟨k + 1, by omega, rfl, by go_num, Lib.hid (by rw [List.take_succ_eq_append_getElem (by omega), List.all_append, HK.out, ← HX2.out]; simp [okC, hq, hq2]), rfl⟩
        · obtain rfl : k = o := by omega
          go_wp2
          go_ret2
          have hv := HV'.out
          rw [hdl] at hv
          refine ⟨_, true, rfl, HB2.out.trans HW.out, fun _ => ⟨ys, by omega, hdl, ?_, hv⟩⟩
          have := HK.out
          rw [List.take_of_length_le (by omega), List.all_eq_true] at this
          exact this
end Go.Proofs.Ytoocebghlchcoaa.ExtW
