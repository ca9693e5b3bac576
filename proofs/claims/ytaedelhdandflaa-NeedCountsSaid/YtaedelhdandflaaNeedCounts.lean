/- The walk of overdublaw24.NeedCounts. -/
import Derived.Test.YtaedelhdandflaaCountsW
import Derived.Test.YtaedelhdandflaaNeedNodes
import Derived.Test.YtaedelhdandflaaOpenRec
namespace Go.Proofs.Ytaedelhdandflaa.ExtW
open Go.RowKit Go.Ov Go.Proofs.Ytaedelhdandflaa.Need

theorem infoInts : (Try.prog.info? 22).map (fun i => (i.zero, i.size, i.bytes)) = some (some (.slice none 0 0), 1, 24) := by kernel_rfl

def cutH (h : Head) : Head := ⟨h.A, min h.n 7, h.cap⟩
def cut7 (l : List Int) : List Int := l.take 7
def sm7 (l : List Int) : Int := sums (cut7 l)
theorem irows_cut {w : World} {hs : List Head} {ls : List (List Int)} (h : IRows w hs ls) (k : Nat) : IRows w (pmap cutH hs k) (pmap cut7 ls k) := by
  refine ⟨by simp [pmap, h.1], fun i x l hx hl => ?_⟩
  unfold pmap at hx hl
  rw [List.getElem?_map, List.getElem?_take] at hx hl
  split at hx
  · cases e1 : hs[i]? with
    | none => rw [e1] at hx; cases hx
    | some x0 =>
      cases e2 : ls[i]? with
      | none => rw [e2] at hl; split at hl <;> cases hl
      | some l0 =>
        rw [e1] at hx
        rw [e2, if_pos (by assumption)] at hl
        simp at hx hl
        subst hx; subst hl
        obtain ⟨h1, h2, h3, h4, h5⟩ := h.2 i x0 l0 e1 e2
        refine ⟨by simp [cutH, cut7, h1]; omega, by simp [cutH, cut7]; omega, h3, h4, fun j y hy => h5 j y ?_⟩
        unfold cut7 at hy
        rw [List.getElem?_take] at hy
        split at hy
        · exact hy
        · cases hy
  · cases hx
theorem sums_bd : ∀ l : List Int, 0 ≤ sums l ∧ sums l ≤ 1048576 * l.length
  | [] => by simp [sums]
  | x :: l => by
    have := sums_bd l
    have h := nodesI_nn x
    have h2 : nodesI x ≤ 1048576 := by have := nodes_le (min x 1048576).toNat; unfold nodesI; omega
    simp only [sums, List.map_cons, List.sum_cons, List.length_cons] at this ⊢
    omega
theorem sm7_bd (l : List Int) : 0 ≤ sm7 l ∧ sm7 l ≤ 7340032 := by
  have := sums_bd (cut7 l)
  have h : (cut7 l).length ≤ 7 := by simp [cut7]; omega
  unfold sm7; omega
theorem psm7_bd (ls : List (List Int)) : ∀ k, 0 ≤ psum sm7 ls k ∧ psum sm7 ls k ≤ 7340032 * k
  | 0 => by rw [psum_zero]; omega
  | k + 1 => by
    have ih := psm7_bd ls k
    by_cases h : k < ls.length
    · rw [psum_succ _ _ _ h]; have := sm7_bd ls[k]; omega
    · rw [psum_all _ _ _ (by omega)]; rw [psum_all _ _ _ (by omega)] at ih; omega
theorem psn_bd (l : List Int) : ∀ k, 0 ≤ psum nodesI l k ∧ psum nodesI l k ≤ 1048576 * k
  | 0 => by rw [psum_zero]; omega
  | k + 1 => by
    have ih := psn_bd l k
    by_cases h : k < l.length
    · rw [psum_succ _ _ _ h]
      have h1 := nodesI_nn l[k]
      have h2 : nodesI l[k] ≤ 1048576 := by have := nodes_le (min l[k] 1048576).toNat; unfold nodesI; omega
      omega
    · rw [psum_all _ _ _ (by omega)]; rw [psum_all _ _ _ (by omega)] at ih; omega
theorem ck_eq (ls : List (List Int)) (k : Nat) (hk : k ≤ ls.length) (h6 : k ≤ 6) : wrap64 (((pmap cut7 ls k).length : Int) + 1 + sumss (pmap cut7 ls k)) = 1 + k + psum sm7 ls k := by
  have e : sumss (pmap cut7 ls k) = psum sm7 ls k := by unfold sumss pmap psum sm7; rw [List.map_map]; rfl
  have := psm7_bd ls k
  rw [pmap_len _ _ _ hk, e, wrap_id (by omega) (by omega)]
  omega

set_option maxRecDepth 100000 in
set_option maxHeartbeats 4000000 in
theorem counts_walk (n ex : Int) (vr : Value) (r : Rec) (b : Bool) (vl : Value) (ls : List (List Int)) (w : World) (hn : -9223372036854775808 ≤ n ∧ n ≤ 9223372036854775807) (_ : -9223372036854775808 ≤ ex ∧ ex ≤ 9223372036854775807)
    (hr : ArgRec w vr r) (hl : ArgIntss w vl ls) :
    Calls Try.prog 4 #[.int .i64 n, .int .i64 ex, vr, .bool b, vl] w fun e w' => e = .returned (.bool true) ∧ Bl w w' := by
  obtain ⟨A, c, hs, rfl, h1, h2, hA, hR⟩ := hl
  obtain ⟨⟨u, rfl, hu⟩, _⟩ := hr
  obtain ⟨k, t, f, o, l⟩ := r
  dsimp only at hu ⊢
  have HL := Lib.hid hu
  obtain ⟨A0, c0, rfl, q1, q2, q3, _⟩ := hu
  have HL1 := Lib.hid (Enc.Is.take HL.out 5)
  have HA := Lib.hid hA
  have HR := Lib.hid hR
  have HN := Lib.hid hR.1
  have hl : hs.length ≤ 9223372036854775807 := by unfold maxLen at h2; omega
  have c5 := Try.underlying30
  clear hA hR h1 h2
  go_enter Try.func4, Try.ntmps4
  go_wp2_with fail
  refine (kcutExt_ex A0 l.length c0 5 _ q1 q2 q3 (by decide)).mono ?_
  rintro e w1 ⟨rfl, rfl⟩
  clear q1 q2 q3
  go_upto_if 21 with (fail)
  go_cut [] (fun wc => ∃ r, Hid (RecAt wc w.heap.size r) ∧ Hid (Bl w wc))
  case first =>
    cases b with
    | false =>
      go_wp2_with fail
      go_meet
      refine ⟨⟨k, t, f, o, l.take 5⟩, Lib.hid ⟨A0, min l.length 5, c0, ?_, ?_, ?_, ?_, ?_, HL1.out.bl ((Bl.refl _).alloc _)⟩, Lib.hid ((Bl.refl _).alloc _)⟩
      all_goals go_simp
    | true =>
      go_wp2_with fail
      refine (right_any _ ⟨k, t, f, o, l.take 5⟩ _ ⟨_, rfl, HL1.out.bl ((Bl.refl _).alloc _)⟩).mono ?_
      rintro e w2 ⟨u2, rfl, ⟨u3, rfl, hu3⟩, hb⟩
      have HU := Lib.hid hu3
      obtain ⟨A3, n3, c3, rfl⟩ := one_cell_slice hu3.is
      clear hu3
      generalize rightM ⟨k, t, f, o, l.take 5⟩ = r at *
      obtain ⟨hc, hf⟩ := bcell hb
      have hz : w.heap.size < w2.heap.size := by have := hb.size; simp at this; omega
      go_wp2_with fail
      go_meet
      refine ⟨r, Lib.hid ⟨A3, n3, c3, ?_, ?_, ?_, ?_, ?_, ?_⟩, Lib.hid ?_⟩
      rotate_right 2
      · refine Enc.Own.is (e := 34) (base := w.heap.size + 1) ?_
        iterate 5 refine Enc.Own.set ?_ _ _ _ (by omega)
        exact HU.out.low (by simp)
      · iterate 5 refine Bl.set ?_ _ _ _ (by omega)
        exact ((Bl.refl _).alloc _).bl hb
      all_goals go_simp
  case rest =>
  obtain ⟨r, HRA, HB⟩ := hcut
  obtain ⟨A3, n3, c3, d0, d1, d2, d3, d4, hu3⟩ := HRA.out
  have HU3 := Lib.hid hu3
  clear hu3 HL1 HL
  go_upto_if 26 with (fail)
  go_cut [11] (fun v wd => v = .int .i64 (changeM r.kind n) ∧ wd = wc)
  case first =>
    by_cases hk : r.kind = 3
    · have hk1 : (r.kind == 3) = true := by simpa using hk
      have HK := Lib.hid hk
      clear hk
      go_wp2_with fail
      refine (rblocks_any _ _ hn.2).mono ?_
      rintro e w2 ⟨rfl, rfl⟩
      go_wp2_with fail
      go_meet
      exact ⟨by unfold changeM; rw [if_pos HK.out], rfl⟩
    · have hk1 : (r.kind == 3) = false := by simpa using hk
      have HK := Lib.hid hk
      clear hk
      go_wp2_with fail
      go_meet
      exact ⟨by unfold changeM; rw [if_neg HK.out], rfl⟩
  case rest =>
  obtain ⟨rfl, rfl⟩ := hcut
  go_wp2_with fail
  go_loopg [12, 13, 14] hs.length (fun g l s i wr => ∃ k : Nat, k ≤ hs.length ∧ k ≤ 6 ∧ g = hs.length - k ∧ i = .int .i64 k ∧ s = .int .i64 (1 + k + psum sm7 ls k) ∧ Hid (headE.Own 22 wr wc.heap.size l (pmap cutH hs k)) ∧ Hid (Bl wc wr))
  case atStart => exact ⟨0, by omega, by omega, rfl, rfl, by rw [psum_zero]; rfl, Lib.hid (Enc.Own.nil _ _ _), Lib.hid (Bl.refl _)⟩
  case round =>
    obtain ⟨k, hk, hk6, rfl, rfl, rfl, HO, HD⟩ := hrel
    have pb := psm7_bd ls k
    by_cases hlt : k < hs.length ∧ k < 6
    · obtain ⟨hlt, hlt6⟩ := hlt
      have hkl : k < ls.length := by have := HN.out; omega
      obtain ⟨ad, rfl, ch⟩ := head_at (HA.out.bl (HB.out.bl HD.out)) k hlt
      obtain ⟨e1, e2, e3, e4, e5⟩ := HR.out.2 k hs[k] ls[k] (List.getElem?_eq_getElem hlt) (List.getElem?_eq_getElem hkl)
      have ps := Lib.hid (psum_succ sm7 ls k hkl)
      have pm := Lib.hid (pmap_succ cutH hs k hlt)
      have pl := Lib.hid (pmap_len cutH hs k hk)
      have hb7 := sm7_bd ls[k]
      generalize ls[k] = x at *
      generalize hs[k] = y at *
      obtain ⟨A', n', c'⟩ := y
      simp only at e1 e2 e3 e4 e5
      subst e1
      have E5 := Lib.hid e5
      clear e5
      unfold Head.v at ch
      simp only at ch
      generalize pmap cutH hs k = ys at *
      have hbx : (x.take 7).length ≤ 7 := by simp; omega
      go_wp2_with fail
      refine (kcutInt_any A' x.length c' 7 _ e2 e3 e4 (by decide)).mono ?_
      rintro e w1 ⟨rfl, rfl⟩
      clear e2 e3 e4
      go_wp2_with (at_builtin; refine Enc.Own.append1 (E := headE) rfl (.tmp 44) (.tmp 46) 31 rfl wc.heap.size 22 (.slice none 0 0) 1 24 Try.underlying31 infoInts rfl rfl (by decide) (by decide) u12 ys rfl HO.out (cutH ⟨A', x.length, c'⟩) _ rfl rfl rfl ?hlen ?hbase ?_; (case hlen => have := pl.out; omega); (case hbase => exact HD.out.size); intro v1 w1 ho hg)
      have hD1 := Lib.hid ((HD.out.alloc _).grown hg (fun k hk => (Enc.Own.lt HO.out k hk).1))
      have HO1 := Lib.hid ho
      clear ho hg HO
      have hbx2 : ((x.take 7).length : Int) = min x.length 7 := by simp; omega
      have hbx3 : (min x.length 7 : Nat) = (x.take 7).length := by simp; omega
      rw [hbx3]
      have E7 := Lib.hid (show intE.At w A' (x.take 7) from fun i y hy => E5.out i y (by
        rw [List.getElem?_take] at hy; split at hy
        · exact hy
        · cases hy))
      have S7 := Lib.hid (show sm7 x = sums (x.take 7) from rfl)
      have pn := psn_bd (x.take 7)
      have PN := Lib.hid pn
      clear E5 hbx2 pn
      generalize x.take 7 = z at *
      go_wp2_with fail
      go_loopg [13, 52] z.length (fun g s i ww => ∃ j : Nat, j ≤ z.length ∧ g = z.length - j ∧ i = .int .i64 j ∧ s = .int .i64 (1 + k + psum sm7 ls k + 1 + psum nodesI z j) ∧ ww = w1)
      case atStart => exact ⟨0, by omega, rfl, rfl, by rw [psum_zero, Int.add_zero], rfl⟩
      case round =>
        obtain ⟨j, hj, rfl, rfl, rfl, rfl⟩ := hrel
        have pnj := PN.out j
        by_cases hjl : j < z.length
        · obtain ⟨ad', rfl, hc'⟩ := int_at (E7.out.bl (HB.out.bl hD1.out)) j hjl
          have hst' := Lib.hid (psum_succ nodesI z j hjl)
          have pnj1 := PN.out (j + 1)
          rw [hst'.out] at pnj1
          generalize z[j] = q at *
          go_wp2_with fail
          refine (rnodes_any _ _).mono ?_
          rintro e w' ⟨rfl, rfl⟩
          go_wp2_with fail
          go_roundg (z.length - (j + 1))
          case measure => omega
          case rel => exact ⟨j + 1, by omega, rfl, by go_num, by rw [hst'.out, Int.add_assoc, ← Int.add_assoc], rfl⟩
        · go_wp2_with fail
          go_roundg (hs.length - (k + 1))
          case measure => omega
          case rel => exact ⟨k + 1, by omega, by omega, rfl, by go_num, by rw [ps.out, S7.out, psum_all nodesI z j (by omega)]; unfold sums; go_num, Lib.hid (by rw [pm.out]; exact HO1.out), hD1⟩
    · have hlt' : k < hs.length → ¬ k < 6 := fun p q => hlt ⟨p, q⟩
      clear hlt
      have hkl : k ≤ ls.length := by have := HN.out; omega
      have hq := Lib.hid (ck_eq ls k hkl hk6)
      have hir := Lib.hid (irows_cut HR.out k)
      have dd : RecIs wr (.agg #[.int .i64 r.kind, .int .i64 r.track, .int .i64 r.fr, .int .i64 r.tt, .slice A3 n3 c3]) r := ⟨_, rfl, HU3.out.bl HD.out⟩
      have DD := Lib.hid dd
      replace d0 := HD.out.cell d0
      replace d1 := HD.out.cell d1
      replace d2 := HD.out.cell d2
      replace d3 := HD.out.cell d3
      replace d4 := HD.out.cell d4
      clear dd
      obtain ⟨A5, c5, rfl⟩ := HO.out.slice
      have hon := Lib.hid HO.out.is
      rcases (show (k < hs.length ∧ ¬ k < 6) ∨ ¬ k < hs.length from by by_cases q : k < hs.length; exact .inl ⟨q, hlt' q⟩; exact .inr q) with ⟨hkl2, hk7⟩ | hkl2
      all_goals
        clear hlt'
        go_wp2_with fail
        refine (blocks_any _ _ hn.2).mono ?_
        rintro e w1 ⟨rfl, rfl⟩
        go_wp2_with fail
        refine (rblocks_any _ _ hn.2).mono ?_
        rintro e w1 ⟨rfl, rfl⟩
        go_wp2_with fail
        refine (nodes_any _ _).mono ?_
        rintro e w1 ⟨rfl, rfl⟩
        go_wp2_with fail
        refine (rnodes_any _ _).mono ?_
        rintro e w1 ⟨rfl, rfl⟩
        go_wp2_with fail
        refine (change_any _ r _ _ DD.out hn.2).mono ?_
        rintro e w1 ⟨rfl, hb⟩
        go_wp2_with fail
        obtain ⟨A6, c6, e6, _, _, _, hat⟩ := hon.out
        simp only [Value.slice.injEq] at e6
        obtain ⟨rfl, _, rfl⟩ := e6
        refine (checkpoint_any _ _ _ (pmap cut7 ls k) _ (hat.bl hb) (hir.out.bl ((HB.out.bl HD.out).bl hb)) (by rw [pmap_len _ _ _ hk]; unfold maxLen; omega)).mono ?_
        rintro e w2 ⟨rfl, rfl⟩
        rw [hq.out]
        go_wp2_with fail
        refine (wakes_any _).mono ?_
        rintro e w2 ⟨rfl, rfl⟩
        go_wp2_with fail
        go_ret
        exact ⟨rfl, (HB.out.bl HD.out).bl hb⟩
end Go.Proofs.Ytaedelhdandflaa.ExtW
