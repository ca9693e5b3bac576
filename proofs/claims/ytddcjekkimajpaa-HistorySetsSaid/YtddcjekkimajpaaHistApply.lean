/- Contract of history.Apply. -/
import Derived.Test.YtddcjekkimajpaaHistW
namespace Go.Ov
open Go.RowKit
theorem set_grownB (w : World) (B j : Nat) (u : Value) : w.grownBy (w.setCell ⟨B, j, none⟩ u) (some B) := ⟨rfl, rfl, rfl, by simp [World.setCell], fun k _ hk => setCell_else _ _ _ _ _ (fun h => hk (by rw [h]))⟩
theorem hist_done {w w2 wF : World} {B n n' : Nat} {u q u' r' : Head} {us' rs' : List Nat} {T : TypeId} {m : HistM} (hb : Bl w w2) (h : Blk w2 B (histC n u q) T) (hk : KeepO B w2 wF) (hF : Blk wF B (histC n' u' r') T)
    (hg : w2.grownBy wF (some B)) (hs : StateIs w2 (.pointer (some ⟨n', 0, none⟩)) m.now) (hu : FarIs (B + 1) w2 u'.v us') (hr : FarIs (B + 1) w2 r'.v rs') (hsu : SRows w2 us' m.undo) (hsr : SRows w2 rs' m.redo) :
    HistIs T wF B m ∧ w.grownBy wF (some B) :=
  ⟨⟨n', u', r', us', rs', hF, state_kh h hk hs, hu.keepO hk, hr.keepO hk, srows_kh h hk hsu, srows_kh h hk hsr⟩, grown_trans (grown_bl hb) hg⟩
theorem SRows.take' {w : World} {bs : List Nat} {ss : List StM} (h : SRows w bs ss) (hl : bs.length = ss.length) : SRows w (bs.take (bs.length - 1)) (ss.take (ss.length - 1)) := by rw [hl]; exact h.take _
theorem SRows.drop' {w : World} {bs : List Nat} {ss : List StM} {b : Nat} {s : StM} (h : SRows w (bs ++ [b]) (ss ++ [s])) (hl : bs.length = ss.length) : SRows w ((bs ++ [b]).drop (bs.length + 1 - 4)) ((ss ++ [s]).drop (ss.length + 1 - 4)) := by rw [hl]; exact h.drop _
def undoM (m : HistM) (h : 0 < m.undo.length) : HistM := ⟨m.undo[m.undo.length - 1], m.undo.take (m.undo.length - 1), (m.redo ++ [m.now]).drop (m.redo.length + 1 - 4)⟩
def redoM (m : HistM) (h : 0 < m.redo.length) : HistM := ⟨m.redo[m.redo.length - 1], (m.undo ++ [m.now]).drop (m.undo.length + 1 - 4), m.redo.take (m.redo.length - 1)⟩
end Go.Ov
namespace Go.Proofs.Ytddcjekkimajpaa.ExtW
open Go.RowKit Go.Ov Go.Proofs.Ytddcjekkimajpaa.Need

set_option maxRecDepth 100000 in
set_option maxHeartbeats 2000000 in
theorem happly_undo (B : Nat) (m : HistM) (rv : Value) (r : Rec) (w : World) (h : HistIs 95 w B m) (hr : RecIs w rv r) (hk : r.kind = 4) (hv : validRec r = true) (hu : 0 < m.undo.length) (hn : m.undo.length ≤ 4) (hn' : m.redo.length ≤ 4) :
    Calls Try.prog 23 #[.pointer (some ⟨B, 0, none⟩), rv] w fun e w' => e = .returned (.int .i64 0) ∧ HistIs 95 w' B (undoM m hu) ∧ w.grownBy w' (some B) := by
  have HR := Lib.hid hr
  have HH := Lib.hid h
  have HV := Lib.hid hv
  obtain ⟨n, u, q, us, rs, h0, h1, h2, h3, h4, h5⟩ := h
  obtain ⟨u2, rfl, hl⟩ := hr
  obtain ⟨A, c, rfl, _⟩ := hl
  have HBk := Lib.hid h0
  have hul := h4.1
  have hql := h5.1
  have HUL := Lib.hid (show 0 < us.length by omega)
  have HN := Lib.hid (show us.length ≤ 4 by omega)
  have HN' := Lib.hid (show rs.length ≤ 4 by omega)
  obtain ⟨kk, t, f, o, l⟩ := r
  dsimp only at hk HV
  subst hk
  obtain ⟨uA, un, uc⟩ := u
  obtain ⟨qA, qn, qc⟩ := q
  obtain ⟨hU, _, hU1⟩ := id h2.1
  obtain ⟨hQ, _, hQ1⟩ := id h3.1
  simp only [Head.v] at hU1 hQ1 h2 h3
  have hun : un = us.length := by simp at hU1; exact hU1.1.2.1
  subst hun
  have hqn : qn = rs.length := by simp at hQ1; exact hQ1.1.2.1
  subst hqn
  have hB := h0.lt
  have HU := Lib.hid h2
  have HQ := Lib.hid h3
  have HNow := Lib.hid h1
  have HSU := Lib.hid h4
  have HSR := Lib.hid h5
  have HULen := Lib.hid hul
  have HRLen := Lib.hid hql
  have HM := Lib.hid hu
  have hu0 : ((us.length : Int) == 0) = false := by rw [beq_eq_false_iff_ne]; omega
  clear h1 h2 h3 h4 h5 h0 hv hn hn' hul hql hU1 hQ1
  have hur := Try.underlying33
  have huh := Try.underlying95
  go_enter Try.func23, Try.ntmps23
  go_wp2_with fail
  refine (rvalidRec_any _ _ _ (HR.out.bl ((Bl.refl _).alloc _))).mono ?_
  rintro e w1 ⟨rfl, hb⟩
  rw [HV.out]
  have b1 := (Blk.new w #[.int .i64 4, .int .i64 t, .int .i64 f, .int .i64 o, .slice A l.length c] 33).bl hb
  have d0 := b1.cell 0
  simp at d0
  have HB1 := Lib.hid (((Bl.refl w).alloc (.cells #[.int .i64 4, .int .i64 t, .int .i64 f, .int .i64 o, .slice A l.length c] 33)).bl hb)
  have HBk1 := Lib.hid (HBk.out.bl HB1.out)
  have c0 := HBk1.out.cell 0
  have c1 := HBk1.out.cell 1
  have c2 := HBk1.out.cell 2
  simp [histC, Head.v] at c0 c1 c2
  clear hb b1
  go_wp2_with fail
  refine wp_region_ways (S := (fun _ => True)) [0, 1, 2, 3, 4, 5, 7, 8, 9, 11, 12, 13, 16, 17, 18, 19, 20, 21, 23, 24, 26, 27] (y := .take 0 (.take 1 (.take 2 (.take 3 (.take 4 (.take 5 (.take 7 (.take 8 (.take 9 (.take 11 (.take 12 (.take 13 (.ev 6 (.ev 10 (.ev 14 (.ev 15 (.take 16 (.take 17 (.take 18 (.take 19 (.take 20 (.take 21 (.ev 22 (.take 23 (.take 24 (.ev 25 (.take 26 (.take 27 (.ev 28 (.done) (.stop)))) (.stop)))) (.stop)))))))) (.stop)) (.stop)) (.ev 14 (.ev 10 (.ev 15 (.take 16 (.take 17 (.take 18 (.take 19 (.take 20 (.take 21 (.ev 22 (.take 23 (.take 24 (.ev 25 (.take 26 (.take 27 (.ev 28 (.done) (.stop)))) (.stop)))) (.stop)))))))) (.stop)) (.stop)) (.stop))) (.ev 10 (.ev 6 (.ev 14 (.ev 15 (.take 16 (.take 17 (.take 18 (.take 19 (.take 20 (.take 21 (.ev 22 (.take 23 (.take 24 (.ev 25 (.take 26 (.take 27 (.ev 28 (.done) (.stop)))) (.stop)))) (.stop)))))))) (.stop)) (.stop)) (.ev 14 (.ev 6 (.ev 15 (.take 16 (.take 17 (.take 18 (.take 19 (.take 20 (.take 21 (.ev 22 (.take 23 (.take 24 (.ev 25 (.take 26 (.take 27 (.ev 28 (.done) (.stop)))) (.stop)))) (.stop)))))))) (.stop)) (.stop)) (.stop))) (.ev 14 (.ev 6 (.ev 10 (.ev 15 (.take 16 (.take 17 (.take 18 (.take 19 (.take 20 (.take 21 (.ev 22 (.take 23 (.take 24 (.ev 25 (.take 26 (.take 27 (.ev 28 (.done) (.stop)))) (.stop)))) (.stop)))))))) (.stop)) (.stop)) (.ev 10 (.ev 6 (.ev 15 (.take 16 (.take 17 (.take 18 (.take 19 (.take 20 (.take 21 (.ev 22 (.take 23 (.take 24 (.ev 25 (.take 26 (.take 27 (.ev 28 (.done) (.stop)))) (.stop)))) (.stop)))))))) (.stop)) (.stop)) (.stop))) (.stop)))))))))))))))) (by kernel_rfl) (by kernel_rfl) (by kernel_rfl) ?_ (fun hHeld => ?_)
  · trivial
  repeat (first | (refine wpWay_take rfl (by rfl) (by intro w hSw; (try dsimp only at hSw); first | (go_simp; done) | (go_simp; with_reducible rfl)) ?_; try simp only [Act.put, List.setIfInBounds_toArray, List.set_cons_zero, List.set_cons_succ]) | (refine wpWay_skip rfl (by rfl) ?_; try simp only [Act.put, List.setIfInBounds_toArray, List.set_cons_zero, List.set_cons_succ]))
  refine wpWay_ev rfl (fun K hK => ?_) ?_
  · go_wp2_with fail
    refine ⟨trivial, ?_⟩
    repeat (first | (refine wpWay_take rfl (by rfl) (by intro w hSw; (try dsimp only at hSw); first | (go_simp; done) | (go_simp; with_reducible rfl)) ?_; try simp only [Act.put, List.setIfInBounds_toArray, List.set_cons_zero, List.set_cons_succ]) | (refine wpWay_skip rfl (by rfl) ?_; try simp only [Act.put, List.setIfInBounds_toArray, List.set_cons_zero, List.set_cons_succ]))
    refine wpWay_ev rfl (fun K hK => ?_) ?_
    · go_wp2_with fail
      refine ⟨trivial, ?_⟩
      repeat (first | (refine wpWay_take rfl (by rfl) (by intro w hSw; (try dsimp only at hSw); first | (go_simp; done) | (go_simp; with_reducible rfl)) ?_; try simp only [Act.put, List.setIfInBounds_toArray, List.set_cons_zero, List.set_cons_succ]) | (refine wpWay_skip rfl (by rfl) ?_; try simp only [Act.put, List.setIfInBounds_toArray, List.set_cons_zero, List.set_cons_succ]))
      refine wpWay_ev rfl (fun K hK => ?_) wpWay_stop
      go_wp2_with fail
      refine ⟨trivial, ?_⟩
      repeat (first | (refine wpWay_take rfl (by rfl) (by intro w hSw; (try dsimp only at hSw); first | (go_simp; done) | (go_simp; with_reducible rfl)) ?_; try simp only [Act.put, List.setIfInBounds_toArray, List.set_cons_zero, List.set_cons_succ]) | (refine wpWay_skip rfl (by rfl) ?_; try simp only [Act.put, List.setIfInBounds_toArray, List.set_cons_zero, List.set_cons_succ]))
      refine wpWay_ev rfl (fun K hK => ?_) wpWay_stop
      go_wp2_with fail
      refine (hturn_any _ _ us rs n _ (HU.out.1.bl HB1.out.drew) (HQ.out.1.bl HB1.out.drew) HUL.out HN.out HN'.out).mono ?_
      rintro e w2 ⟨u1, u2, rfl, hf1, hf2, hb⟩
      have HBk2 := Lib.hid ((HBk1.out.bl (Bl.refl _).drew).bl hb)
      have HB2 := Lib.hid ((HB1.out.drew).bl hb)
      obtain ⟨A1, d1, z1, _⟩ := id hf1.1
      obtain ⟨A2, d2, z2, _⟩ := id hf2.1
      subst z1
      subst z2
      generalize hn1 : (us.take (us.length - 1)).length = n1 at *
      generalize hn2 : ((rs ++ [n]).drop (rs.length + 1 - 4)).length = n2 at *
      have HF1 := Lib.hid hf1
      have HF2 := Lib.hid hf2
      clear hf1 hf2 hb hn1 hn2
      go_wp2_with fail
      refine ⟨trivial, ?_⟩
      repeat (first | (refine wpWay_take rfl (by rfl) (by intro w hSw; (try dsimp only at hSw); first | (go_simp; done) | (go_simp; with_reducible rfl)) ?_; try simp only [Act.put, List.setIfInBounds_toArray, List.set_cons_zero, List.set_cons_succ]) | (refine wpWay_skip rfl (by rfl) ?_; try simp only [Act.put, List.setIfInBounds_toArray, List.set_cons_zero, List.set_cons_succ]))
      refine wpWay_ev rfl (fun K hK => ?_) wpWay_stop
      have f1 := HBk2.out.frozen 1
      have g1 := HBk2.out.cell 1
      have l1 := HBk2.out.lt
      simp [histC] at g1
      go_wp2_with fail
      clear f1 g1 l1
      have HBk3 := Lib.hid (HBk2.out.set 1 (.slice A1 n1 d1))
      refine ⟨trivial, ?_⟩
      repeat (first | (refine wpWay_take rfl (by rfl) (by intro w hSw; (try dsimp only at hSw); first | (go_simp; done) | (go_simp; with_reducible rfl)) ?_; try simp only [Act.put, List.setIfInBounds_toArray, List.set_cons_zero, List.set_cons_succ]) | (refine wpWay_skip rfl (by rfl) ?_; try simp only [Act.put, List.setIfInBounds_toArray, List.set_cons_zero, List.set_cons_succ]))
      refine wpWay_ev rfl (fun K hK => ?_) wpWay_stop
      have f1 := HBk3.out.frozen 2
      have g1 := HBk3.out.cell 2
      have l1 := HBk3.out.lt
      simp [histC] at g1
      go_wp2_with fail
      clear f1 g1 l1
      have HBk4 := Lib.hid (HBk3.out.set 2 (.slice A2 n2 d2))
      refine ⟨trivial, ?_⟩
      repeat (first | (refine wpWay_take rfl (by rfl) (by intro w hSw; (try dsimp only at hSw); first | (go_simp; done) | (go_simp; with_reducible rfl)) ?_; try simp only [Act.put, List.setIfInBounds_toArray, List.set_cons_zero, List.set_cons_succ]) | (refine wpWay_skip rfl (by rfl) ?_; try simp only [Act.put, List.setIfInBounds_toArray, List.set_cons_zero, List.set_cons_succ]))
      refine wpWay_ev rfl (fun K hK => ?_) wpWay_stop
      have f1 := HBk4.out.frozen 0
      have g1 := HBk4.out.cell 0
      have l1 := HBk4.out.lt
      simp [histC] at g1
      go_wp2_with fail
      clear f1 g1 l1
      have HBk5 := Lib.hid (HBk4.out.set 0 (.pointer (some ⟨us[us.length - 1]'(by have := HUL.out; omega), 0, none⟩)))
      refine ⟨trivial, ?_⟩
      repeat (first | (refine wpWay_take rfl (by rfl) (by intro w hSw; (try dsimp only at hSw); first | (go_simp; done) | (go_simp; with_reducible rfl)) ?_; try simp only [Act.put, List.setIfInBounds_toArray, List.set_cons_zero, List.set_cons_succ]) | (refine wpWay_skip rfl (by rfl) ?_; try simp only [Act.put, List.setIfInBounds_toArray, List.set_cons_zero, List.set_cons_succ]))
      refine wpWay_done ?_
      go_wp2_with fail
      go_ret
      refine ⟨rfl, hist_done (u' := ⟨A1, n1, d1⟩) (r' := ⟨A2, n2, d2⟩) HB2.out HBk2.out (((keepO_set _ _ _ _).trans (keepO_set _ _ _ _)).trans (keepO_set _ _ _ _)) HBk5.out (grown_trans (grown_trans (set_grownB _ _ _ _) (set_grownB _ _ _ _)) (set_grownB _ _ _ _)) ?_ (HF1.out.low ?_) (HF2.out.low ?_) ((HSU.out.bl HB2.out).take' HULen.out) (((HSR.out.snoc HNow.out).bl HB2.out).drop' HRLen.out)⟩
      · exact (HSU.out.bl HB2.out).2 _ _ _ (by rw [HULen.out]; exact List.getElem?_eq_getElem _) (List.getElem?_eq_getElem _)
      · have := HB1.out.size; simp; omega
      · have := HB1.out.size; simp; omega
    · refine wpWay_ev rfl (fun K hK => ?_) wpWay_stop
      go_wp2_with fail
      refine ⟨trivial, ?_⟩
      repeat (first | (refine wpWay_take rfl (by rfl) (by intro w hSw; (try dsimp only at hSw); first | (go_simp; done) | (go_simp; with_reducible rfl)) ?_; try simp only [Act.put, List.setIfInBounds_toArray, List.set_cons_zero, List.set_cons_succ]) | (refine wpWay_skip rfl (by rfl) ?_; try simp only [Act.put, List.setIfInBounds_toArray, List.set_cons_zero, List.set_cons_succ]))
      refine wpWay_ev rfl (fun K hK => ?_) wpWay_stop
      go_wp2_with fail
      refine ⟨trivial, ?_⟩
      repeat (first | (refine wpWay_take rfl (by rfl) (by intro w hSw; (try dsimp only at hSw); first | (go_simp; done) | (go_simp; with_reducible rfl)) ?_; try simp only [Act.put, List.setIfInBounds_toArray, List.set_cons_zero, List.set_cons_succ]) | (refine wpWay_skip rfl (by rfl) ?_; try simp only [Act.put, List.setIfInBounds_toArray, List.set_cons_zero, List.set_cons_succ]))
      refine wpWay_ev rfl (fun K hK => ?_) wpWay_stop
      go_wp2_with fail
      refine (hturn_any _ _ us rs n _ (HU.out.1.bl HB1.out.drew) (HQ.out.1.bl HB1.out.drew) HUL.out HN.out HN'.out).mono ?_
      rintro e w2 ⟨u1, u2, rfl, hf1, hf2, hb⟩
      have HBk2 := Lib.hid ((HBk1.out.bl (Bl.refl _).drew).bl hb)
      have HB2 := Lib.hid ((HB1.out.drew).bl hb)
      obtain ⟨A1, d1, z1, _⟩ := id hf1.1
      obtain ⟨A2, d2, z2, _⟩ := id hf2.1
      subst z1
      subst z2
      generalize hn1 : (us.take (us.length - 1)).length = n1 at *
      generalize hn2 : ((rs ++ [n]).drop (rs.length + 1 - 4)).length = n2 at *
      have HF1 := Lib.hid hf1
      have HF2 := Lib.hid hf2
      clear hf1 hf2 hb hn1 hn2
      go_wp2_with fail
      refine ⟨trivial, ?_⟩
      repeat (first | (refine wpWay_take rfl (by rfl) (by intro w hSw; (try dsimp only at hSw); first | (go_simp; done) | (go_simp; with_reducible rfl)) ?_; try simp only [Act.put, List.setIfInBounds_toArray, List.set_cons_zero, List.set_cons_succ]) | (refine wpWay_skip rfl (by rfl) ?_; try simp only [Act.put, List.setIfInBounds_toArray, List.set_cons_zero, List.set_cons_succ]))
      refine wpWay_ev rfl (fun K hK => ?_) wpWay_stop
      have f1 := HBk2.out.frozen 1
      have g1 := HBk2.out.cell 1
      have l1 := HBk2.out.lt
      simp [histC] at g1
      go_wp2_with fail
      clear f1 g1 l1
      have HBk3 := Lib.hid (HBk2.out.set 1 (.slice A1 n1 d1))
      refine ⟨trivial, ?_⟩
      repeat (first | (refine wpWay_take rfl (by rfl) (by intro w hSw; (try dsimp only at hSw); first | (go_simp; done) | (go_simp; with_reducible rfl)) ?_; try simp only [Act.put, List.setIfInBounds_toArray, List.set_cons_zero, List.set_cons_succ]) | (refine wpWay_skip rfl (by rfl) ?_; try simp only [Act.put, List.setIfInBounds_toArray, List.set_cons_zero, List.set_cons_succ]))
      refine wpWay_ev rfl (fun K hK => ?_) wpWay_stop
      have f1 := HBk3.out.frozen 2
      have g1 := HBk3.out.cell 2
      have l1 := HBk3.out.lt
      simp [histC] at g1
      go_wp2_with fail
      clear f1 g1 l1
      have HBk4 := Lib.hid (HBk3.out.set 2 (.slice A2 n2 d2))
      refine ⟨trivial, ?_⟩
      repeat (first | (refine wpWay_take rfl (by rfl) (by intro w hSw; (try dsimp only at hSw); first | (go_simp; done) | (go_simp; with_reducible rfl)) ?_; try simp only [Act.put, List.setIfInBounds_toArray, List.set_cons_zero, List.set_cons_succ]) | (refine wpWay_skip rfl (by rfl) ?_; try simp only [Act.put, List.setIfInBounds_toArray, List.set_cons_zero, List.set_cons_succ]))
      refine wpWay_ev rfl (fun K hK => ?_) wpWay_stop
      have f1 := HBk4.out.frozen 0
      have g1 := HBk4.out.cell 0
      have l1 := HBk4.out.lt
      simp [histC] at g1
      go_wp2_with fail
      clear f1 g1 l1
      have HBk5 := Lib.hid (HBk4.out.set 0 (.pointer (some ⟨us[us.length - 1]'(by have := HUL.out; omega), 0, none⟩)))
      refine ⟨trivial, ?_⟩
      repeat (first | (refine wpWay_take rfl (by rfl) (by intro w hSw; (try dsimp only at hSw); first | (go_simp; done) | (go_simp; with_reducible rfl)) ?_; try simp only [Act.put, List.setIfInBounds_toArray, List.set_cons_zero, List.set_cons_succ]) | (refine wpWay_skip rfl (by rfl) ?_; try simp only [Act.put, List.setIfInBounds_toArray, List.set_cons_zero, List.set_cons_succ]))
      refine wpWay_done ?_
      go_wp2_with fail
      go_ret
      refine ⟨rfl, hist_done (u' := ⟨A1, n1, d1⟩) (r' := ⟨A2, n2, d2⟩) HB2.out HBk2.out (((keepO_set _ _ _ _).trans (keepO_set _ _ _ _)).trans (keepO_set _ _ _ _)) HBk5.out (grown_trans (grown_trans (set_grownB _ _ _ _) (set_grownB _ _ _ _)) (set_grownB _ _ _ _)) ?_ (HF1.out.low ?_) (HF2.out.low ?_) ((HSU.out.bl HB2.out).take' HULen.out) (((HSR.out.snoc HNow.out).bl HB2.out).drop' HRLen.out)⟩
      · exact (HSU.out.bl HB2.out).2 _ _ _ (by rw [HULen.out]; exact List.getElem?_eq_getElem _) (List.getElem?_eq_getElem _)
      · have := HB1.out.size; simp; omega
      · have := HB1.out.size; simp; omega
  · refine wpWay_ev rfl (fun K hK => ?_) ?_
    · go_wp2_with fail
      refine ⟨trivial, ?_⟩
      repeat (first | (refine wpWay_take rfl (by rfl) (by intro w hSw; (try dsimp only at hSw); first | (go_simp; done) | (go_simp; with_reducible rfl)) ?_; try simp only [Act.put, List.setIfInBounds_toArray, List.set_cons_zero, List.set_cons_succ]) | (refine wpWay_skip rfl (by rfl) ?_; try simp only [Act.put, List.setIfInBounds_toArray, List.set_cons_zero, List.set_cons_succ]))
      refine wpWay_ev rfl (fun K hK => ?_) ?_
      · go_wp2_with fail
        refine ⟨trivial, ?_⟩
        repeat (first | (refine wpWay_take rfl (by rfl) (by intro w hSw; (try dsimp only at hSw); first | (go_simp; done) | (go_simp; with_reducible rfl)) ?_; try simp only [Act.put, List.setIfInBounds_toArray, List.set_cons_zero, List.set_cons_succ]) | (refine wpWay_skip rfl (by rfl) ?_; try simp only [Act.put, List.setIfInBounds_toArray, List.set_cons_zero, List.set_cons_succ]))
        refine wpWay_ev rfl (fun K hK => ?_) wpWay_stop
        go_wp2_with fail
        refine ⟨trivial, ?_⟩
        repeat (first | (refine wpWay_take rfl (by rfl) (by intro w hSw; (try dsimp only at hSw); first | (go_simp; done) | (go_simp; with_reducible rfl)) ?_; try simp only [Act.put, List.setIfInBounds_toArray, List.set_cons_zero, List.set_cons_succ]) | (refine wpWay_skip rfl (by rfl) ?_; try simp only [Act.put, List.setIfInBounds_toArray, List.set_cons_zero, List.set_cons_succ]))
        refine wpWay_ev rfl (fun K hK => ?_) wpWay_stop
        go_wp2_with fail
        refine (hturn_any _ _ us rs n _ (HU.out.1.bl HB1.out.drew) (HQ.out.1.bl HB1.out.drew) HUL.out HN.out HN'.out).mono ?_
        rintro e w2 ⟨u1, u2, rfl, hf1, hf2, hb⟩
        have HBk2 := Lib.hid ((HBk1.out.bl (Bl.refl _).drew).bl hb)
        have HB2 := Lib.hid ((HB1.out.drew).bl hb)
        obtain ⟨A1, d1, z1, _⟩ := id hf1.1
        obtain ⟨A2, d2, z2, _⟩ := id hf2.1
        subst z1
        subst z2
        generalize hn1 : (us.take (us.length - 1)).length = n1 at *
        generalize hn2 : ((rs ++ [n]).drop (rs.length + 1 - 4)).length = n2 at *
        have HF1 := Lib.hid hf1
        have HF2 := Lib.hid hf2
        clear hf1 hf2 hb hn1 hn2
        go_wp2_with fail
        refine ⟨trivial, ?_⟩
        repeat (first | (refine wpWay_take rfl (by rfl) (by intro w hSw; (try dsimp only at hSw); first | (go_simp; done) | (go_simp; with_reducible rfl)) ?_; try simp only [Act.put, List.setIfInBounds_toArray, List.set_cons_zero, List.set_cons_succ]) | (refine wpWay_skip rfl (by rfl) ?_; try simp only [Act.put, List.setIfInBounds_toArray, List.set_cons_zero, List.set_cons_succ]))
        refine wpWay_ev rfl (fun K hK => ?_) wpWay_stop
        have f1 := HBk2.out.frozen 1
        have g1 := HBk2.out.cell 1
        have l1 := HBk2.out.lt
        simp [histC] at g1
        go_wp2_with fail
        clear f1 g1 l1
        have HBk3 := Lib.hid (HBk2.out.set 1 (.slice A1 n1 d1))
        refine ⟨trivial, ?_⟩
        repeat (first | (refine wpWay_take rfl (by rfl) (by intro w hSw; (try dsimp only at hSw); first | (go_simp; done) | (go_simp; with_reducible rfl)) ?_; try simp only [Act.put, List.setIfInBounds_toArray, List.set_cons_zero, List.set_cons_succ]) | (refine wpWay_skip rfl (by rfl) ?_; try simp only [Act.put, List.setIfInBounds_toArray, List.set_cons_zero, List.set_cons_succ]))
        refine wpWay_ev rfl (fun K hK => ?_) wpWay_stop
        have f1 := HBk3.out.frozen 2
        have g1 := HBk3.out.cell 2
        have l1 := HBk3.out.lt
        simp [histC] at g1
        go_wp2_with fail
        clear f1 g1 l1
        have HBk4 := Lib.hid (HBk3.out.set 2 (.slice A2 n2 d2))
        refine ⟨trivial, ?_⟩
        repeat (first | (refine wpWay_take rfl (by rfl) (by intro w hSw; (try dsimp only at hSw); first | (go_simp; done) | (go_simp; with_reducible rfl)) ?_; try simp only [Act.put, List.setIfInBounds_toArray, List.set_cons_zero, List.set_cons_succ]) | (refine wpWay_skip rfl (by rfl) ?_; try simp only [Act.put, List.setIfInBounds_toArray, List.set_cons_zero, List.set_cons_succ]))
        refine wpWay_ev rfl (fun K hK => ?_) wpWay_stop
        have f1 := HBk4.out.frozen 0
        have g1 := HBk4.out.cell 0
        have l1 := HBk4.out.lt
        simp [histC] at g1
        go_wp2_with fail
        clear f1 g1 l1
        have HBk5 := Lib.hid (HBk4.out.set 0 (.pointer (some ⟨us[us.length - 1]'(by have := HUL.out; omega), 0, none⟩)))
        refine ⟨trivial, ?_⟩
        repeat (first | (refine wpWay_take rfl (by rfl) (by intro w hSw; (try dsimp only at hSw); first | (go_simp; done) | (go_simp; with_reducible rfl)) ?_; try simp only [Act.put, List.setIfInBounds_toArray, List.set_cons_zero, List.set_cons_succ]) | (refine wpWay_skip rfl (by rfl) ?_; try simp only [Act.put, List.setIfInBounds_toArray, List.set_cons_zero, List.set_cons_succ]))
        refine wpWay_done ?_
        go_wp2_with fail
        go_ret
        refine ⟨rfl, hist_done (u' := ⟨A1, n1, d1⟩) (r' := ⟨A2, n2, d2⟩) HB2.out HBk2.out (((keepO_set _ _ _ _).trans (keepO_set _ _ _ _)).trans (keepO_set _ _ _ _)) HBk5.out (grown_trans (grown_trans (set_grownB _ _ _ _) (set_grownB _ _ _ _)) (set_grownB _ _ _ _)) ?_ (HF1.out.low ?_) (HF2.out.low ?_) ((HSU.out.bl HB2.out).take' HULen.out) (((HSR.out.snoc HNow.out).bl HB2.out).drop' HRLen.out)⟩
        · exact (HSU.out.bl HB2.out).2 _ _ _ (by rw [HULen.out]; exact List.getElem?_eq_getElem _) (List.getElem?_eq_getElem _)
        · have := HB1.out.size; simp; omega
        · have := HB1.out.size; simp; omega
      · refine wpWay_ev rfl (fun K hK => ?_) wpWay_stop
        go_wp2_with fail
        refine ⟨trivial, ?_⟩
        repeat (first | (refine wpWay_take rfl (by rfl) (by intro w hSw; (try dsimp only at hSw); first | (go_simp; done) | (go_simp; with_reducible rfl)) ?_; try simp only [Act.put, List.setIfInBounds_toArray, List.set_cons_zero, List.set_cons_succ]) | (refine wpWay_skip rfl (by rfl) ?_; try simp only [Act.put, List.setIfInBounds_toArray, List.set_cons_zero, List.set_cons_succ]))
        refine wpWay_ev rfl (fun K hK => ?_) wpWay_stop
        go_wp2_with fail
        refine ⟨trivial, ?_⟩
        repeat (first | (refine wpWay_take rfl (by rfl) (by intro w hSw; (try dsimp only at hSw); first | (go_simp; done) | (go_simp; with_reducible rfl)) ?_; try simp only [Act.put, List.setIfInBounds_toArray, List.set_cons_zero, List.set_cons_succ]) | (refine wpWay_skip rfl (by rfl) ?_; try simp only [Act.put, List.setIfInBounds_toArray, List.set_cons_zero, List.set_cons_succ]))
        refine wpWay_ev rfl (fun K hK => ?_) wpWay_stop
        go_wp2_with fail
        refine (hturn_any _ _ us rs n _ (HU.out.1.bl HB1.out.drew) (HQ.out.1.bl HB1.out.drew) HUL.out HN.out HN'.out).mono ?_
        rintro e w2 ⟨u1, u2, rfl, hf1, hf2, hb⟩
        have HBk2 := Lib.hid ((HBk1.out.bl (Bl.refl _).drew).bl hb)
        have HB2 := Lib.hid ((HB1.out.drew).bl hb)
        obtain ⟨A1, d1, z1, _⟩ := id hf1.1
        obtain ⟨A2, d2, z2, _⟩ := id hf2.1
        subst z1
        subst z2
        generalize hn1 : (us.take (us.length - 1)).length = n1 at *
        generalize hn2 : ((rs ++ [n]).drop (rs.length + 1 - 4)).length = n2 at *
        have HF1 := Lib.hid hf1
        have HF2 := Lib.hid hf2
        clear hf1 hf2 hb hn1 hn2
        go_wp2_with fail
        refine ⟨trivial, ?_⟩
        repeat (first | (refine wpWay_take rfl (by rfl) (by intro w hSw; (try dsimp only at hSw); first | (go_simp; done) | (go_simp; with_reducible rfl)) ?_; try simp only [Act.put, List.setIfInBounds_toArray, List.set_cons_zero, List.set_cons_succ]) | (refine wpWay_skip rfl (by rfl) ?_; try simp only [Act.put, List.setIfInBounds_toArray, List.set_cons_zero, List.set_cons_succ]))
        refine wpWay_ev rfl (fun K hK => ?_) wpWay_stop
        have f1 := HBk2.out.frozen 1
        have g1 := HBk2.out.cell 1
        have l1 := HBk2.out.lt
        simp [histC] at g1
        go_wp2_with fail
        clear f1 g1 l1
        have HBk3 := Lib.hid (HBk2.out.set 1 (.slice A1 n1 d1))
        refine ⟨trivial, ?_⟩
        repeat (first | (refine wpWay_take rfl (by rfl) (by intro w hSw; (try dsimp only at hSw); first | (go_simp; done) | (go_simp; with_reducible rfl)) ?_; try simp only [Act.put, List.setIfInBounds_toArray, List.set_cons_zero, List.set_cons_succ]) | (refine wpWay_skip rfl (by rfl) ?_; try simp only [Act.put, List.setIfInBounds_toArray, List.set_cons_zero, List.set_cons_succ]))
        refine wpWay_ev rfl (fun K hK => ?_) wpWay_stop
        have f1 := HBk3.out.frozen 2
        have g1 := HBk3.out.cell 2
        have l1 := HBk3.out.lt
        simp [histC] at g1
        go_wp2_with fail
        clear f1 g1 l1
        have HBk4 := Lib.hid (HBk3.out.set 2 (.slice A2 n2 d2))
        refine ⟨trivial, ?_⟩
        repeat (first | (refine wpWay_take rfl (by rfl) (by intro w hSw; (try dsimp only at hSw); first | (go_simp; done) | (go_simp; with_reducible rfl)) ?_; try simp only [Act.put, List.setIfInBounds_toArray, List.set_cons_zero, List.set_cons_succ]) | (refine wpWay_skip rfl (by rfl) ?_; try simp only [Act.put, List.setIfInBounds_toArray, List.set_cons_zero, List.set_cons_succ]))
        refine wpWay_ev rfl (fun K hK => ?_) wpWay_stop
        have f1 := HBk4.out.frozen 0
        have g1 := HBk4.out.cell 0
        have l1 := HBk4.out.lt
        simp [histC] at g1
        go_wp2_with fail
        clear f1 g1 l1
        have HBk5 := Lib.hid (HBk4.out.set 0 (.pointer (some ⟨us[us.length - 1]'(by have := HUL.out; omega), 0, none⟩)))
        refine ⟨trivial, ?_⟩
        repeat (first | (refine wpWay_take rfl (by rfl) (by intro w hSw; (try dsimp only at hSw); first | (go_simp; done) | (go_simp; with_reducible rfl)) ?_; try simp only [Act.put, List.setIfInBounds_toArray, List.set_cons_zero, List.set_cons_succ]) | (refine wpWay_skip rfl (by rfl) ?_; try simp only [Act.put, List.setIfInBounds_toArray, List.set_cons_zero, List.set_cons_succ]))
        refine wpWay_done ?_
        go_wp2_with fail
        go_ret
        refine ⟨rfl, hist_done (u' := ⟨A1, n1, d1⟩) (r' := ⟨A2, n2, d2⟩) HB2.out HBk2.out (((keepO_set _ _ _ _).trans (keepO_set _ _ _ _)).trans (keepO_set _ _ _ _)) HBk5.out (grown_trans (grown_trans (set_grownB _ _ _ _) (set_grownB _ _ _ _)) (set_grownB _ _ _ _)) ?_ (HF1.out.low ?_) (HF2.out.low ?_) ((HSU.out.bl HB2.out).take' HULen.out) (((HSR.out.snoc HNow.out).bl HB2.out).drop' HRLen.out)⟩
        · exact (HSU.out.bl HB2.out).2 _ _ _ (by rw [HULen.out]; exact List.getElem?_eq_getElem _) (List.getElem?_eq_getElem _)
        · have := HB1.out.size; simp; omega
        · have := HB1.out.size; simp; omega
    · refine wpWay_ev rfl (fun K hK => ?_) wpWay_stop
      go_wp2_with fail
      refine ⟨trivial, ?_⟩
      repeat (first | (refine wpWay_take rfl (by rfl) (by intro w hSw; (try dsimp only at hSw); first | (go_simp; done) | (go_simp; with_reducible rfl)) ?_; try simp only [Act.put, List.setIfInBounds_toArray, List.set_cons_zero, List.set_cons_succ]) | (refine wpWay_skip rfl (by rfl) ?_; try simp only [Act.put, List.setIfInBounds_toArray, List.set_cons_zero, List.set_cons_succ]))
      refine wpWay_ev rfl (fun K hK => ?_) ?_
      · go_wp2_with fail
        refine ⟨trivial, ?_⟩
        repeat (first | (refine wpWay_take rfl (by rfl) (by intro w hSw; (try dsimp only at hSw); first | (go_simp; done) | (go_simp; with_reducible rfl)) ?_; try simp only [Act.put, List.setIfInBounds_toArray, List.set_cons_zero, List.set_cons_succ]) | (refine wpWay_skip rfl (by rfl) ?_; try simp only [Act.put, List.setIfInBounds_toArray, List.set_cons_zero, List.set_cons_succ]))
        refine wpWay_ev rfl (fun K hK => ?_) wpWay_stop
        go_wp2_with fail
        refine ⟨trivial, ?_⟩
        repeat (first | (refine wpWay_take rfl (by rfl) (by intro w hSw; (try dsimp only at hSw); first | (go_simp; done) | (go_simp; with_reducible rfl)) ?_; try simp only [Act.put, List.setIfInBounds_toArray, List.set_cons_zero, List.set_cons_succ]) | (refine wpWay_skip rfl (by rfl) ?_; try simp only [Act.put, List.setIfInBounds_toArray, List.set_cons_zero, List.set_cons_succ]))
        refine wpWay_ev rfl (fun K hK => ?_) wpWay_stop
        go_wp2_with fail
        refine (hturn_any _ _ us rs n _ (HU.out.1.bl HB1.out.drew) (HQ.out.1.bl HB1.out.drew) HUL.out HN.out HN'.out).mono ?_
        rintro e w2 ⟨u1, u2, rfl, hf1, hf2, hb⟩
        have HBk2 := Lib.hid ((HBk1.out.bl (Bl.refl _).drew).bl hb)
        have HB2 := Lib.hid ((HB1.out.drew).bl hb)
        obtain ⟨A1, d1, z1, _⟩ := id hf1.1
        obtain ⟨A2, d2, z2, _⟩ := id hf2.1
        subst z1
        subst z2
        generalize hn1 : (us.take (us.length - 1)).length = n1 at *
        generalize hn2 : ((rs ++ [n]).drop (rs.length + 1 - 4)).length = n2 at *
        have HF1 := Lib.hid hf1
        have HF2 := Lib.hid hf2
        clear hf1 hf2 hb hn1 hn2
        go_wp2_with fail
        refine ⟨trivial, ?_⟩
        repeat (first | (refine wpWay_take rfl (by rfl) (by intro w hSw; (try dsimp only at hSw); first | (go_simp; done) | (go_simp; with_reducible rfl)) ?_; try simp only [Act.put, List.setIfInBounds_toArray, List.set_cons_zero, List.set_cons_succ]) | (refine wpWay_skip rfl (by rfl) ?_; try simp only [Act.put, List.setIfInBounds_toArray, List.set_cons_zero, List.set_cons_succ]))
        refine wpWay_ev rfl (fun K hK => ?_) wpWay_stop
        have f1 := HBk2.out.frozen 1
        have g1 := HBk2.out.cell 1
        have l1 := HBk2.out.lt
        simp [histC] at g1
        go_wp2_with fail
        clear f1 g1 l1
        have HBk3 := Lib.hid (HBk2.out.set 1 (.slice A1 n1 d1))
        refine ⟨trivial, ?_⟩
        repeat (first | (refine wpWay_take rfl (by rfl) (by intro w hSw; (try dsimp only at hSw); first | (go_simp; done) | (go_simp; with_reducible rfl)) ?_; try simp only [Act.put, List.setIfInBounds_toArray, List.set_cons_zero, List.set_cons_succ]) | (refine wpWay_skip rfl (by rfl) ?_; try simp only [Act.put, List.setIfInBounds_toArray, List.set_cons_zero, List.set_cons_succ]))
        refine wpWay_ev rfl (fun K hK => ?_) wpWay_stop
        have f1 := HBk3.out.frozen 2
        have g1 := HBk3.out.cell 2
        have l1 := HBk3.out.lt
        simp [histC] at g1
        go_wp2_with fail
        clear f1 g1 l1
        have HBk4 := Lib.hid (HBk3.out.set 2 (.slice A2 n2 d2))
        refine ⟨trivial, ?_⟩
        repeat (first | (refine wpWay_take rfl (by rfl) (by intro w hSw; (try dsimp only at hSw); first | (go_simp; done) | (go_simp; with_reducible rfl)) ?_; try simp only [Act.put, List.setIfInBounds_toArray, List.set_cons_zero, List.set_cons_succ]) | (refine wpWay_skip rfl (by rfl) ?_; try simp only [Act.put, List.setIfInBounds_toArray, List.set_cons_zero, List.set_cons_succ]))
        refine wpWay_ev rfl (fun K hK => ?_) wpWay_stop
        have f1 := HBk4.out.frozen 0
        have g1 := HBk4.out.cell 0
        have l1 := HBk4.out.lt
        simp [histC] at g1
        go_wp2_with fail
        clear f1 g1 l1
        have HBk5 := Lib.hid (HBk4.out.set 0 (.pointer (some ⟨us[us.length - 1]'(by have := HUL.out; omega), 0, none⟩)))
        refine ⟨trivial, ?_⟩
        repeat (first | (refine wpWay_take rfl (by rfl) (by intro w hSw; (try dsimp only at hSw); first | (go_simp; done) | (go_simp; with_reducible rfl)) ?_; try simp only [Act.put, List.setIfInBounds_toArray, List.set_cons_zero, List.set_cons_succ]) | (refine wpWay_skip rfl (by rfl) ?_; try simp only [Act.put, List.setIfInBounds_toArray, List.set_cons_zero, List.set_cons_succ]))
        refine wpWay_done ?_
        go_wp2_with fail
        go_ret
        refine ⟨rfl, hist_done (u' := ⟨A1, n1, d1⟩) (r' := ⟨A2, n2, d2⟩) HB2.out HBk2.out (((keepO_set _ _ _ _).trans (keepO_set _ _ _ _)).trans (keepO_set _ _ _ _)) HBk5.out (grown_trans (grown_trans (set_grownB _ _ _ _) (set_grownB _ _ _ _)) (set_grownB _ _ _ _)) ?_ (HF1.out.low ?_) (HF2.out.low ?_) ((HSU.out.bl HB2.out).take' HULen.out) (((HSR.out.snoc HNow.out).bl HB2.out).drop' HRLen.out)⟩
        · exact (HSU.out.bl HB2.out).2 _ _ _ (by rw [HULen.out]; exact List.getElem?_eq_getElem _) (List.getElem?_eq_getElem _)
        · have := HB1.out.size; simp; omega
        · have := HB1.out.size; simp; omega
      · refine wpWay_ev rfl (fun K hK => ?_) wpWay_stop
        go_wp2_with fail
        refine ⟨trivial, ?_⟩
        repeat (first | (refine wpWay_take rfl (by rfl) (by intro w hSw; (try dsimp only at hSw); first | (go_simp; done) | (go_simp; with_reducible rfl)) ?_; try simp only [Act.put, List.setIfInBounds_toArray, List.set_cons_zero, List.set_cons_succ]) | (refine wpWay_skip rfl (by rfl) ?_; try simp only [Act.put, List.setIfInBounds_toArray, List.set_cons_zero, List.set_cons_succ]))
        refine wpWay_ev rfl (fun K hK => ?_) wpWay_stop
        go_wp2_with fail
        refine ⟨trivial, ?_⟩
        repeat (first | (refine wpWay_take rfl (by rfl) (by intro w hSw; (try dsimp only at hSw); first | (go_simp; done) | (go_simp; with_reducible rfl)) ?_; try simp only [Act.put, List.setIfInBounds_toArray, List.set_cons_zero, List.set_cons_succ]) | (refine wpWay_skip rfl (by rfl) ?_; try simp only [Act.put, List.setIfInBounds_toArray, List.set_cons_zero, List.set_cons_succ]))
        refine wpWay_ev rfl (fun K hK => ?_) wpWay_stop
        go_wp2_with fail
        refine (hturn_any _ _ us rs n _ (HU.out.1.bl HB1.out.drew) (HQ.out.1.bl HB1.out.drew) HUL.out HN.out HN'.out).mono ?_
        rintro e w2 ⟨u1, u2, rfl, hf1, hf2, hb⟩
        have HBk2 := Lib.hid ((HBk1.out.bl (Bl.refl _).drew).bl hb)
        have HB2 := Lib.hid ((HB1.out.drew).bl hb)
        obtain ⟨A1, d1, z1, _⟩ := id hf1.1
        obtain ⟨A2, d2, z2, _⟩ := id hf2.1
        subst z1
        subst z2
        generalize hn1 : (us.take (us.length - 1)).length = n1 at *
        generalize hn2 : ((rs ++ [n]).drop (rs.length + 1 - 4)).length = n2 at *
        have HF1 := Lib.hid hf1
        have HF2 := Lib.hid hf2
        clear hf1 hf2 hb hn1 hn2
        go_wp2_with fail
        refine ⟨trivial, ?_⟩
        repeat (first | (refine wpWay_take rfl (by rfl) (by intro w hSw; (try dsimp only at hSw); first | (go_simp; done) | (go_simp; with_reducible rfl)) ?_; try simp only [Act.put, List.setIfInBounds_toArray, List.set_cons_zero, List.set_cons_succ]) | (refine wpWay_skip rfl (by rfl) ?_; try simp only [Act.put, List.setIfInBounds_toArray, List.set_cons_zero, List.set_cons_succ]))
        refine wpWay_ev rfl (fun K hK => ?_) wpWay_stop
        have f1 := HBk2.out.frozen 1
        have g1 := HBk2.out.cell 1
        have l1 := HBk2.out.lt
        simp [histC] at g1
        go_wp2_with fail
        clear f1 g1 l1
        have HBk3 := Lib.hid (HBk2.out.set 1 (.slice A1 n1 d1))
        refine ⟨trivial, ?_⟩
        repeat (first | (refine wpWay_take rfl (by rfl) (by intro w hSw; (try dsimp only at hSw); first | (go_simp; done) | (go_simp; with_reducible rfl)) ?_; try simp only [Act.put, List.setIfInBounds_toArray, List.set_cons_zero, List.set_cons_succ]) | (refine wpWay_skip rfl (by rfl) ?_; try simp only [Act.put, List.setIfInBounds_toArray, List.set_cons_zero, List.set_cons_succ]))
        refine wpWay_ev rfl (fun K hK => ?_) wpWay_stop
        have f1 := HBk3.out.frozen 2
        have g1 := HBk3.out.cell 2
        have l1 := HBk3.out.lt
        simp [histC] at g1
        go_wp2_with fail
        clear f1 g1 l1
        have HBk4 := Lib.hid (HBk3.out.set 2 (.slice A2 n2 d2))
        refine ⟨trivial, ?_⟩
        repeat (first | (refine wpWay_take rfl (by rfl) (by intro w hSw; (try dsimp only at hSw); first | (go_simp; done) | (go_simp; with_reducible rfl)) ?_; try simp only [Act.put, List.setIfInBounds_toArray, List.set_cons_zero, List.set_cons_succ]) | (refine wpWay_skip rfl (by rfl) ?_; try simp only [Act.put, List.setIfInBounds_toArray, List.set_cons_zero, List.set_cons_succ]))
        refine wpWay_ev rfl (fun K hK => ?_) wpWay_stop
        have f1 := HBk4.out.frozen 0
        have g1 := HBk4.out.cell 0
        have l1 := HBk4.out.lt
        simp [histC] at g1
        go_wp2_with fail
        clear f1 g1 l1
        have HBk5 := Lib.hid (HBk4.out.set 0 (.pointer (some ⟨us[us.length - 1]'(by have := HUL.out; omega), 0, none⟩)))
        refine ⟨trivial, ?_⟩
        repeat (first | (refine wpWay_take rfl (by rfl) (by intro w hSw; (try dsimp only at hSw); first | (go_simp; done) | (go_simp; with_reducible rfl)) ?_; try simp only [Act.put, List.setIfInBounds_toArray, List.set_cons_zero, List.set_cons_succ]) | (refine wpWay_skip rfl (by rfl) ?_; try simp only [Act.put, List.setIfInBounds_toArray, List.set_cons_zero, List.set_cons_succ]))
        refine wpWay_done ?_
        go_wp2_with fail
        go_ret
        refine ⟨rfl, hist_done (u' := ⟨A1, n1, d1⟩) (r' := ⟨A2, n2, d2⟩) HB2.out HBk2.out (((keepO_set _ _ _ _).trans (keepO_set _ _ _ _)).trans (keepO_set _ _ _ _)) HBk5.out (grown_trans (grown_trans (set_grownB _ _ _ _) (set_grownB _ _ _ _)) (set_grownB _ _ _ _)) ?_ (HF1.out.low ?_) (HF2.out.low ?_) ((HSU.out.bl HB2.out).take' HULen.out) (((HSR.out.snoc HNow.out).bl HB2.out).drop' HRLen.out)⟩
        · exact (HSU.out.bl HB2.out).2 _ _ _ (by rw [HULen.out]; exact List.getElem?_eq_getElem _) (List.getElem?_eq_getElem _)
        · have := HB1.out.size; simp; omega
        · have := HB1.out.size; simp; omega
set_option maxRecDepth 100000 in
set_option maxHeartbeats 2000000 in
theorem happly_redo (B : Nat) (m : HistM) (rv : Value) (r : Rec) (w : World) (h : HistIs 95 w B m) (hr : RecIs w rv r) (hk : r.kind = 5) (hv : validRec r = true) (hu : 0 < m.redo.length) (hn : m.redo.length ≤ 4) (hn' : m.undo.length ≤ 4) :
    Calls Try.prog 23 #[.pointer (some ⟨B, 0, none⟩), rv] w fun e w' => e = .returned (.int .i64 0) ∧ HistIs 95 w' B (redoM m hu) ∧ w.grownBy w' (some B) := by
  have HR := Lib.hid hr
  have HH := Lib.hid h
  have HV := Lib.hid hv
  obtain ⟨n, u, q, us, rs, h0, h1, h2, h3, h4, h5⟩ := h
  obtain ⟨u2, rfl, hl⟩ := hr
  obtain ⟨A, c, rfl, _⟩ := hl
  have HBk := Lib.hid h0
  have hql := h5.1
  have hul := h4.1
  have HUL := Lib.hid (show 0 < rs.length by omega)
  have HN := Lib.hid (show rs.length ≤ 4 by omega)
  have HN' := Lib.hid (show us.length ≤ 4 by omega)
  obtain ⟨kk, t, f, o, l⟩ := r
  dsimp only at hk HV
  subst hk
  obtain ⟨qA, qn, qc⟩ := q
  obtain ⟨uA, un, uc⟩ := u
  obtain ⟨hQ, _, hQ1⟩ := id h3.1
  obtain ⟨hU, _, hU1⟩ := id h2.1
  simp only [Head.v] at hQ1 hU1 h3 h2
  have hqn : qn = rs.length := by simp at hQ1; exact hQ1.1.2.1
  subst hqn
  have hun : un = us.length := by simp at hU1; exact hU1.1.2.1
  subst hun
  have hB := h0.lt
  have HQ := Lib.hid h3
  have HU := Lib.hid h2
  have HNow := Lib.hid h1
  have HSR := Lib.hid h5
  have HSU := Lib.hid h4
  have HRLen := Lib.hid hql
  have HULen := Lib.hid hul
  have HM := Lib.hid hu
  have hu0 : ((rs.length : Int) == 0) = false := by rw [beq_eq_false_iff_ne]; omega
  clear h1 h3 h2 h5 h4 h0 hv hn hn' hql hul hQ1 hU1
  have hur := Try.underlying33
  have huh := Try.underlying95
  go_enter Try.func23, Try.ntmps23
  go_wp2_with fail
  refine (rvalidRec_any _ _ _ (HR.out.bl ((Bl.refl _).alloc _))).mono ?_
  rintro e w1 ⟨rfl, hb⟩
  rw [HV.out]
  have b1 := (Blk.new w #[.int .i64 5, .int .i64 t, .int .i64 f, .int .i64 o, .slice A l.length c] 33).bl hb
  have d0 := b1.cell 0
  simp at d0
  have HB1 := Lib.hid (((Bl.refl w).alloc (.cells #[.int .i64 5, .int .i64 t, .int .i64 f, .int .i64 o, .slice A l.length c] 33)).bl hb)
  have HBk1 := Lib.hid (HBk.out.bl HB1.out)
  have c0 := HBk1.out.cell 0
  have c1 := HBk1.out.cell 1
  have c2 := HBk1.out.cell 2
  simp [histC, Head.v] at c0 c1 c2
  clear hb b1
  go_wp2_with fail
  refine wp_region_ways (S := (fun _ => True)) [0, 1, 2, 3, 4, 5, 7, 8, 9, 11, 12, 13, 16, 17, 18, 19, 20, 21, 23, 24, 26, 27] (y := .take 0 (.take 1 (.take 2 (.take 3 (.take 4 (.take 5 (.take 7 (.take 8 (.take 9 (.take 11 (.take 12 (.take 13 (.ev 6 (.ev 10 (.ev 14 (.ev 15 (.take 16 (.take 17 (.take 18 (.take 19 (.take 20 (.take 21 (.ev 22 (.take 23 (.take 24 (.ev 25 (.take 26 (.take 27 (.ev 28 (.done) (.stop)))) (.stop)))) (.stop)))))))) (.stop)) (.stop)) (.ev 14 (.ev 10 (.ev 15 (.take 16 (.take 17 (.take 18 (.take 19 (.take 20 (.take 21 (.ev 22 (.take 23 (.take 24 (.ev 25 (.take 26 (.take 27 (.ev 28 (.done) (.stop)))) (.stop)))) (.stop)))))))) (.stop)) (.stop)) (.stop))) (.ev 10 (.ev 6 (.ev 14 (.ev 15 (.take 16 (.take 17 (.take 18 (.take 19 (.take 20 (.take 21 (.ev 22 (.take 23 (.take 24 (.ev 25 (.take 26 (.take 27 (.ev 28 (.done) (.stop)))) (.stop)))) (.stop)))))))) (.stop)) (.stop)) (.ev 14 (.ev 6 (.ev 15 (.take 16 (.take 17 (.take 18 (.take 19 (.take 20 (.take 21 (.ev 22 (.take 23 (.take 24 (.ev 25 (.take 26 (.take 27 (.ev 28 (.done) (.stop)))) (.stop)))) (.stop)))))))) (.stop)) (.stop)) (.stop))) (.ev 14 (.ev 6 (.ev 10 (.ev 15 (.take 16 (.take 17 (.take 18 (.take 19 (.take 20 (.take 21 (.ev 22 (.take 23 (.take 24 (.ev 25 (.take 26 (.take 27 (.ev 28 (.done) (.stop)))) (.stop)))) (.stop)))))))) (.stop)) (.stop)) (.ev 10 (.ev 6 (.ev 15 (.take 16 (.take 17 (.take 18 (.take 19 (.take 20 (.take 21 (.ev 22 (.take 23 (.take 24 (.ev 25 (.take 26 (.take 27 (.ev 28 (.done) (.stop)))) (.stop)))) (.stop)))))))) (.stop)) (.stop)) (.stop))) (.stop)))))))))))))))) (by kernel_rfl) (by kernel_rfl) (by kernel_rfl) ?_ (fun hHeld => ?_)
  · trivial
  repeat (first | (refine wpWay_take rfl (by rfl) (by intro w hSw; (try dsimp only at hSw); first | (go_simp; done) | (go_simp; with_reducible rfl)) ?_; try simp only [Act.put, List.setIfInBounds_toArray, List.set_cons_zero, List.set_cons_succ]) | (refine wpWay_skip rfl (by rfl) ?_; try simp only [Act.put, List.setIfInBounds_toArray, List.set_cons_zero, List.set_cons_succ]))
  refine wpWay_ev rfl (fun K hK => ?_) ?_
  · go_wp2_with fail
    refine ⟨trivial, ?_⟩
    repeat (first | (refine wpWay_take rfl (by rfl) (by intro w hSw; (try dsimp only at hSw); first | (go_simp; done) | (go_simp; with_reducible rfl)) ?_; try simp only [Act.put, List.setIfInBounds_toArray, List.set_cons_zero, List.set_cons_succ]) | (refine wpWay_skip rfl (by rfl) ?_; try simp only [Act.put, List.setIfInBounds_toArray, List.set_cons_zero, List.set_cons_succ]))
    refine wpWay_ev rfl (fun K hK => ?_) ?_
    · go_wp2_with fail
      refine ⟨trivial, ?_⟩
      repeat (first | (refine wpWay_take rfl (by rfl) (by intro w hSw; (try dsimp only at hSw); first | (go_simp; done) | (go_simp; with_reducible rfl)) ?_; try simp only [Act.put, List.setIfInBounds_toArray, List.set_cons_zero, List.set_cons_succ]) | (refine wpWay_skip rfl (by rfl) ?_; try simp only [Act.put, List.setIfInBounds_toArray, List.set_cons_zero, List.set_cons_succ]))
      refine wpWay_ev rfl (fun K hK => ?_) wpWay_stop
      go_wp2_with fail
      refine ⟨trivial, ?_⟩
      repeat (first | (refine wpWay_take rfl (by rfl) (by intro w hSw; (try dsimp only at hSw); first | (go_simp; done) | (go_simp; with_reducible rfl)) ?_; try simp only [Act.put, List.setIfInBounds_toArray, List.set_cons_zero, List.set_cons_succ]) | (refine wpWay_skip rfl (by rfl) ?_; try simp only [Act.put, List.setIfInBounds_toArray, List.set_cons_zero, List.set_cons_succ]))
      refine wpWay_ev rfl (fun K hK => ?_) wpWay_stop
      go_wp2_with fail
      refine (hturn_any _ _ rs us n _ (HQ.out.1.bl HB1.out.drew) (HU.out.1.bl HB1.out.drew) HUL.out HN.out HN'.out).mono ?_
      rintro e w2 ⟨u1, u2, rfl, hf1, hf2, hb⟩
      have HBk2 := Lib.hid ((HBk1.out.bl (Bl.refl _).drew).bl hb)
      have HB2 := Lib.hid ((HB1.out.drew).bl hb)
      obtain ⟨A1, d1, z1, _⟩ := id hf1.1
      obtain ⟨A2, d2, z2, _⟩ := id hf2.1
      subst z1
      subst z2
      generalize hn1 : (rs.take (rs.length - 1)).length = n1 at *
      generalize hn2 : ((us ++ [n]).drop (us.length + 1 - 4)).length = n2 at *
      have HF1 := Lib.hid hf1
      have HF2 := Lib.hid hf2
      clear hf1 hf2 hb hn1 hn2
      go_wp2_with fail
      refine ⟨trivial, ?_⟩
      repeat (first | (refine wpWay_take rfl (by rfl) (by intro w hSw; (try dsimp only at hSw); first | (go_simp; done) | (go_simp; with_reducible rfl)) ?_; try simp only [Act.put, List.setIfInBounds_toArray, List.set_cons_zero, List.set_cons_succ]) | (refine wpWay_skip rfl (by rfl) ?_; try simp only [Act.put, List.setIfInBounds_toArray, List.set_cons_zero, List.set_cons_succ]))
      refine wpWay_ev rfl (fun K hK => ?_) wpWay_stop
      have f1 := HBk2.out.frozen 2
      have g1 := HBk2.out.cell 2
      have l1 := HBk2.out.lt
      simp [histC] at g1
      go_wp2_with fail
      clear f1 g1 l1
      have HBk3 := Lib.hid (HBk2.out.set 2 (.slice A1 n1 d1))
      refine ⟨trivial, ?_⟩
      repeat (first | (refine wpWay_take rfl (by rfl) (by intro w hSw; (try dsimp only at hSw); first | (go_simp; done) | (go_simp; with_reducible rfl)) ?_; try simp only [Act.put, List.setIfInBounds_toArray, List.set_cons_zero, List.set_cons_succ]) | (refine wpWay_skip rfl (by rfl) ?_; try simp only [Act.put, List.setIfInBounds_toArray, List.set_cons_zero, List.set_cons_succ]))
      refine wpWay_ev rfl (fun K hK => ?_) wpWay_stop
      have f1 := HBk3.out.frozen 1
      have g1 := HBk3.out.cell 1
      have l1 := HBk3.out.lt
      simp [histC] at g1
      go_wp2_with fail
      clear f1 g1 l1
      have HBk4 := Lib.hid (HBk3.out.set 1 (.slice A2 n2 d2))
      refine ⟨trivial, ?_⟩
      repeat (first | (refine wpWay_take rfl (by rfl) (by intro w hSw; (try dsimp only at hSw); first | (go_simp; done) | (go_simp; with_reducible rfl)) ?_; try simp only [Act.put, List.setIfInBounds_toArray, List.set_cons_zero, List.set_cons_succ]) | (refine wpWay_skip rfl (by rfl) ?_; try simp only [Act.put, List.setIfInBounds_toArray, List.set_cons_zero, List.set_cons_succ]))
      refine wpWay_ev rfl (fun K hK => ?_) wpWay_stop
      have f1 := HBk4.out.frozen 0
      have g1 := HBk4.out.cell 0
      have l1 := HBk4.out.lt
      simp [histC] at g1
      go_wp2_with fail
      clear f1 g1 l1
      have HBk5 := Lib.hid (HBk4.out.set 0 (.pointer (some ⟨rs[rs.length - 1]'(by have := HUL.out; omega), 0, none⟩)))
      refine ⟨trivial, ?_⟩
      repeat (first | (refine wpWay_take rfl (by rfl) (by intro w hSw; (try dsimp only at hSw); first | (go_simp; done) | (go_simp; with_reducible rfl)) ?_; try simp only [Act.put, List.setIfInBounds_toArray, List.set_cons_zero, List.set_cons_succ]) | (refine wpWay_skip rfl (by rfl) ?_; try simp only [Act.put, List.setIfInBounds_toArray, List.set_cons_zero, List.set_cons_succ]))
      refine wpWay_done ?_
      go_wp2_with fail
      go_ret
      refine ⟨rfl, hist_done (u' := ⟨A2, n2, d2⟩) (r' := ⟨A1, n1, d1⟩) HB2.out HBk2.out (((keepO_set _ _ _ _).trans (keepO_set _ _ _ _)).trans (keepO_set _ _ _ _)) HBk5.out (grown_trans (grown_trans (set_grownB _ _ _ _) (set_grownB _ _ _ _)) (set_grownB _ _ _ _)) ?_ (HF2.out.low ?_) (HF1.out.low ?_) (((HSU.out.snoc HNow.out).bl HB2.out).drop' HULen.out) ((HSR.out.bl HB2.out).take' HRLen.out)⟩
      · exact (HSR.out.bl HB2.out).2 _ _ _ (by rw [HRLen.out]; exact List.getElem?_eq_getElem _) (List.getElem?_eq_getElem _)
      · have := HB1.out.size; simp; omega
      · have := HB1.out.size; simp; omega
    · refine wpWay_ev rfl (fun K hK => ?_) wpWay_stop
      go_wp2_with fail
      refine ⟨trivial, ?_⟩
      repeat (first | (refine wpWay_take rfl (by rfl) (by intro w hSw; (try dsimp only at hSw); first | (go_simp; done) | (go_simp; with_reducible rfl)) ?_; try simp only [Act.put, List.setIfInBounds_toArray, List.set_cons_zero, List.set_cons_succ]) | (refine wpWay_skip rfl (by rfl) ?_; try simp only [Act.put, List.setIfInBounds_toArray, List.set_cons_zero, List.set_cons_succ]))
      refine wpWay_ev rfl (fun K hK => ?_) wpWay_stop
      go_wp2_with fail
      refine ⟨trivial, ?_⟩
      repeat (first | (refine wpWay_take rfl (by rfl) (by intro w hSw; (try dsimp only at hSw); first | (go_simp; done) | (go_simp; with_reducible rfl)) ?_; try simp only [Act.put, List.setIfInBounds_toArray, List.set_cons_zero, List.set_cons_succ]) | (refine wpWay_skip rfl (by rfl) ?_; try simp only [Act.put, List.setIfInBounds_toArray, List.set_cons_zero, List.set_cons_succ]))
      refine wpWay_ev rfl (fun K hK => ?_) wpWay_stop
      go_wp2_with fail
      refine (hturn_any _ _ rs us n _ (HQ.out.1.bl HB1.out.drew) (HU.out.1.bl HB1.out.drew) HUL.out HN.out HN'.out).mono ?_
      rintro e w2 ⟨u1, u2, rfl, hf1, hf2, hb⟩
      have HBk2 := Lib.hid ((HBk1.out.bl (Bl.refl _).drew).bl hb)
      have HB2 := Lib.hid ((HB1.out.drew).bl hb)
      obtain ⟨A1, d1, z1, _⟩ := id hf1.1
      obtain ⟨A2, d2, z2, _⟩ := id hf2.1
      subst z1
      subst z2
      generalize hn1 : (rs.take (rs.length - 1)).length = n1 at *
      generalize hn2 : ((us ++ [n]).drop (us.length + 1 - 4)).length = n2 at *
      have HF1 := Lib.hid hf1
      have HF2 := Lib.hid hf2
      clear hf1 hf2 hb hn1 hn2
      go_wp2_with fail
      refine ⟨trivial, ?_⟩
      repeat (first | (refine wpWay_take rfl (by rfl) (by intro w hSw; (try dsimp only at hSw); first | (go_simp; done) | (go_simp; with_reducible rfl)) ?_; try simp only [Act.put, List.setIfInBounds_toArray, List.set_cons_zero, List.set_cons_succ]) | (refine wpWay_skip rfl (by rfl) ?_; try simp only [Act.put, List.setIfInBounds_toArray, List.set_cons_zero, List.set_cons_succ]))
      refine wpWay_ev rfl (fun K hK => ?_) wpWay_stop
      have f1 := HBk2.out.frozen 2
      have g1 := HBk2.out.cell 2
      have l1 := HBk2.out.lt
      simp [histC] at g1
      go_wp2_with fail
      clear f1 g1 l1
      have HBk3 := Lib.hid (HBk2.out.set 2 (.slice A1 n1 d1))
      refine ⟨trivial, ?_⟩
      repeat (first | (refine wpWay_take rfl (by rfl) (by intro w hSw; (try dsimp only at hSw); first | (go_simp; done) | (go_simp; with_reducible rfl)) ?_; try simp only [Act.put, List.setIfInBounds_toArray, List.set_cons_zero, List.set_cons_succ]) | (refine wpWay_skip rfl (by rfl) ?_; try simp only [Act.put, List.setIfInBounds_toArray, List.set_cons_zero, List.set_cons_succ]))
      refine wpWay_ev rfl (fun K hK => ?_) wpWay_stop
      have f1 := HBk3.out.frozen 1
      have g1 := HBk3.out.cell 1
      have l1 := HBk3.out.lt
      simp [histC] at g1
      go_wp2_with fail
      clear f1 g1 l1
      have HBk4 := Lib.hid (HBk3.out.set 1 (.slice A2 n2 d2))
      refine ⟨trivial, ?_⟩
      repeat (first | (refine wpWay_take rfl (by rfl) (by intro w hSw; (try dsimp only at hSw); first | (go_simp; done) | (go_simp; with_reducible rfl)) ?_; try simp only [Act.put, List.setIfInBounds_toArray, List.set_cons_zero, List.set_cons_succ]) | (refine wpWay_skip rfl (by rfl) ?_; try simp only [Act.put, List.setIfInBounds_toArray, List.set_cons_zero, List.set_cons_succ]))
      refine wpWay_ev rfl (fun K hK => ?_) wpWay_stop
      have f1 := HBk4.out.frozen 0
      have g1 := HBk4.out.cell 0
      have l1 := HBk4.out.lt
      simp [histC] at g1
      go_wp2_with fail
      clear f1 g1 l1
      have HBk5 := Lib.hid (HBk4.out.set 0 (.pointer (some ⟨rs[rs.length - 1]'(by have := HUL.out; omega), 0, none⟩)))
      refine ⟨trivial, ?_⟩
      repeat (first | (refine wpWay_take rfl (by rfl) (by intro w hSw; (try dsimp only at hSw); first | (go_simp; done) | (go_simp; with_reducible rfl)) ?_; try simp only [Act.put, List.setIfInBounds_toArray, List.set_cons_zero, List.set_cons_succ]) | (refine wpWay_skip rfl (by rfl) ?_; try simp only [Act.put, List.setIfInBounds_toArray, List.set_cons_zero, List.set_cons_succ]))
      refine wpWay_done ?_
      go_wp2_with fail
      go_ret
      refine ⟨rfl, hist_done (u' := ⟨A2, n2, d2⟩) (r' := ⟨A1, n1, d1⟩) HB2.out HBk2.out (((keepO_set _ _ _ _).trans (keepO_set _ _ _ _)).trans (keepO_set _ _ _ _)) HBk5.out (grown_trans (grown_trans (set_grownB _ _ _ _) (set_grownB _ _ _ _)) (set_grownB _ _ _ _)) ?_ (HF2.out.low ?_) (HF1.out.low ?_) (((HSU.out.snoc HNow.out).bl HB2.out).drop' HULen.out) ((HSR.out.bl HB2.out).take' HRLen.out)⟩
      · exact (HSR.out.bl HB2.out).2 _ _ _ (by rw [HRLen.out]; exact List.getElem?_eq_getElem _) (List.getElem?_eq_getElem _)
      · have := HB1.out.size; simp; omega
      · have := HB1.out.size; simp; omega
  · refine wpWay_ev rfl (fun K hK => ?_) ?_
    · go_wp2_with fail
      refine ⟨trivial, ?_⟩
      repeat (first | (refine wpWay_take rfl (by rfl) (by intro w hSw; (try dsimp only at hSw); first | (go_simp; done) | (go_simp; with_reducible rfl)) ?_; try simp only [Act.put, List.setIfInBounds_toArray, List.set_cons_zero, List.set_cons_succ]) | (refine wpWay_skip rfl (by rfl) ?_; try simp only [Act.put, List.setIfInBounds_toArray, List.set_cons_zero, List.set_cons_succ]))
      refine wpWay_ev rfl (fun K hK => ?_) ?_
      · go_wp2_with fail
        refine ⟨trivial, ?_⟩
        repeat (first | (refine wpWay_take rfl (by rfl) (by intro w hSw; (try dsimp only at hSw); first | (go_simp; done) | (go_simp; with_reducible rfl)) ?_; try simp only [Act.put, List.setIfInBounds_toArray, List.set_cons_zero, List.set_cons_succ]) | (refine wpWay_skip rfl (by rfl) ?_; try simp only [Act.put, List.setIfInBounds_toArray, List.set_cons_zero, List.set_cons_succ]))
        refine wpWay_ev rfl (fun K hK => ?_) wpWay_stop
        go_wp2_with fail
        refine ⟨trivial, ?_⟩
        repeat (first | (refine wpWay_take rfl (by rfl) (by intro w hSw; (try dsimp only at hSw); first | (go_simp; done) | (go_simp; with_reducible rfl)) ?_; try simp only [Act.put, List.setIfInBounds_toArray, List.set_cons_zero, List.set_cons_succ]) | (refine wpWay_skip rfl (by rfl) ?_; try simp only [Act.put, List.setIfInBounds_toArray, List.set_cons_zero, List.set_cons_succ]))
        refine wpWay_ev rfl (fun K hK => ?_) wpWay_stop
        go_wp2_with fail
        refine (hturn_any _ _ rs us n _ (HQ.out.1.bl HB1.out.drew) (HU.out.1.bl HB1.out.drew) HUL.out HN.out HN'.out).mono ?_
        rintro e w2 ⟨u1, u2, rfl, hf1, hf2, hb⟩
        have HBk2 := Lib.hid ((HBk1.out.bl (Bl.refl _).drew).bl hb)
        have HB2 := Lib.hid ((HB1.out.drew).bl hb)
        obtain ⟨A1, d1, z1, _⟩ := id hf1.1
        obtain ⟨A2, d2, z2, _⟩ := id hf2.1
        subst z1
        subst z2
        generalize hn1 : (rs.take (rs.length - 1)).length = n1 at *
        generalize hn2 : ((us ++ [n]).drop (us.length + 1 - 4)).length = n2 at *
        have HF1 := Lib.hid hf1
        have HF2 := Lib.hid hf2
        clear hf1 hf2 hb hn1 hn2
        go_wp2_with fail
        refine ⟨trivial, ?_⟩
        repeat (first | (refine wpWay_take rfl (by rfl) (by intro w hSw; (try dsimp only at hSw); first | (go_simp; done) | (go_simp; with_reducible rfl)) ?_; try simp only [Act.put, List.setIfInBounds_toArray, List.set_cons_zero, List.set_cons_succ]) | (refine wpWay_skip rfl (by rfl) ?_; try simp only [Act.put, List.setIfInBounds_toArray, List.set_cons_zero, List.set_cons_succ]))
        refine wpWay_ev rfl (fun K hK => ?_) wpWay_stop
        have f1 := HBk2.out.frozen 2
        have g1 := HBk2.out.cell 2
        have l1 := HBk2.out.lt
        simp [histC] at g1
        go_wp2_with fail
        clear f1 g1 l1
        have HBk3 := Lib.hid (HBk2.out.set 2 (.slice A1 n1 d1))
        refine ⟨trivial, ?_⟩
        repeat (first | (refine wpWay_take rfl (by rfl) (by intro w hSw; (try dsimp only at hSw); first | (go_simp; done) | (go_simp; with_reducible rfl)) ?_; try simp only [Act.put, List.setIfInBounds_toArray, List.set_cons_zero, List.set_cons_succ]) | (refine wpWay_skip rfl (by rfl) ?_; try simp only [Act.put, List.setIfInBounds_toArray, List.set_cons_zero, List.set_cons_succ]))
        refine wpWay_ev rfl (fun K hK => ?_) wpWay_stop
        have f1 := HBk3.out.frozen 1
        have g1 := HBk3.out.cell 1
        have l1 := HBk3.out.lt
        simp [histC] at g1
        go_wp2_with fail
        clear f1 g1 l1
        have HBk4 := Lib.hid (HBk3.out.set 1 (.slice A2 n2 d2))
        refine ⟨trivial, ?_⟩
        repeat (first | (refine wpWay_take rfl (by rfl) (by intro w hSw; (try dsimp only at hSw); first | (go_simp; done) | (go_simp; with_reducible rfl)) ?_; try simp only [Act.put, List.setIfInBounds_toArray, List.set_cons_zero, List.set_cons_succ]) | (refine wpWay_skip rfl (by rfl) ?_; try simp only [Act.put, List.setIfInBounds_toArray, List.set_cons_zero, List.set_cons_succ]))
        refine wpWay_ev rfl (fun K hK => ?_) wpWay_stop
        have f1 := HBk4.out.frozen 0
        have g1 := HBk4.out.cell 0
        have l1 := HBk4.out.lt
        simp [histC] at g1
        go_wp2_with fail
        clear f1 g1 l1
        have HBk5 := Lib.hid (HBk4.out.set 0 (.pointer (some ⟨rs[rs.length - 1]'(by have := HUL.out; omega), 0, none⟩)))
        refine ⟨trivial, ?_⟩
        repeat (first | (refine wpWay_take rfl (by rfl) (by intro w hSw; (try dsimp only at hSw); first | (go_simp; done) | (go_simp; with_reducible rfl)) ?_; try simp only [Act.put, List.setIfInBounds_toArray, List.set_cons_zero, List.set_cons_succ]) | (refine wpWay_skip rfl (by rfl) ?_; try simp only [Act.put, List.setIfInBounds_toArray, List.set_cons_zero, List.set_cons_succ]))
        refine wpWay_done ?_
        go_wp2_with fail
        go_ret
        refine ⟨rfl, hist_done (u' := ⟨A2, n2, d2⟩) (r' := ⟨A1, n1, d1⟩) HB2.out HBk2.out (((keepO_set _ _ _ _).trans (keepO_set _ _ _ _)).trans (keepO_set _ _ _ _)) HBk5.out (grown_trans (grown_trans (set_grownB _ _ _ _) (set_grownB _ _ _ _)) (set_grownB _ _ _ _)) ?_ (HF2.out.low ?_) (HF1.out.low ?_) (((HSU.out.snoc HNow.out).bl HB2.out).drop' HULen.out) ((HSR.out.bl HB2.out).take' HRLen.out)⟩
        · exact (HSR.out.bl HB2.out).2 _ _ _ (by rw [HRLen.out]; exact List.getElem?_eq_getElem _) (List.getElem?_eq_getElem _)
        · have := HB1.out.size; simp; omega
        · have := HB1.out.size; simp; omega
      · refine wpWay_ev rfl (fun K hK => ?_) wpWay_stop
        go_wp2_with fail
        refine ⟨trivial, ?_⟩
        repeat (first | (refine wpWay_take rfl (by rfl) (by intro w hSw; (try dsimp only at hSw); first | (go_simp; done) | (go_simp; with_reducible rfl)) ?_; try simp only [Act.put, List.setIfInBounds_toArray, List.set_cons_zero, List.set_cons_succ]) | (refine wpWay_skip rfl (by rfl) ?_; try simp only [Act.put, List.setIfInBounds_toArray, List.set_cons_zero, List.set_cons_succ]))
        refine wpWay_ev rfl (fun K hK => ?_) wpWay_stop
        go_wp2_with fail
        refine ⟨trivial, ?_⟩
        repeat (first | (refine wpWay_take rfl (by rfl) (by intro w hSw; (try dsimp only at hSw); first | (go_simp; done) | (go_simp; with_reducible rfl)) ?_; try simp only [Act.put, List.setIfInBounds_toArray, List.set_cons_zero, List.set_cons_succ]) | (refine wpWay_skip rfl (by rfl) ?_; try simp only [Act.put, List.setIfInBounds_toArray, List.set_cons_zero, List.set_cons_succ]))
        refine wpWay_ev rfl (fun K hK => ?_) wpWay_stop
        go_wp2_with fail
        refine (hturn_any _ _ rs us n _ (HQ.out.1.bl HB1.out.drew) (HU.out.1.bl HB1.out.drew) HUL.out HN.out HN'.out).mono ?_
        rintro e w2 ⟨u1, u2, rfl, hf1, hf2, hb⟩
        have HBk2 := Lib.hid ((HBk1.out.bl (Bl.refl _).drew).bl hb)
        have HB2 := Lib.hid ((HB1.out.drew).bl hb)
        obtain ⟨A1, d1, z1, _⟩ := id hf1.1
        obtain ⟨A2, d2, z2, _⟩ := id hf2.1
        subst z1
        subst z2
        generalize hn1 : (rs.take (rs.length - 1)).length = n1 at *
        generalize hn2 : ((us ++ [n]).drop (us.length + 1 - 4)).length = n2 at *
        have HF1 := Lib.hid hf1
        have HF2 := Lib.hid hf2
        clear hf1 hf2 hb hn1 hn2
        go_wp2_with fail
        refine ⟨trivial, ?_⟩
        repeat (first | (refine wpWay_take rfl (by rfl) (by intro w hSw; (try dsimp only at hSw); first | (go_simp; done) | (go_simp; with_reducible rfl)) ?_; try simp only [Act.put, List.setIfInBounds_toArray, List.set_cons_zero, List.set_cons_succ]) | (refine wpWay_skip rfl (by rfl) ?_; try simp only [Act.put, List.setIfInBounds_toArray, List.set_cons_zero, List.set_cons_succ]))
        refine wpWay_ev rfl (fun K hK => ?_) wpWay_stop
        have f1 := HBk2.out.frozen 2
        have g1 := HBk2.out.cell 2
        have l1 := HBk2.out.lt
        simp [histC] at g1
        go_wp2_with fail
        clear f1 g1 l1
        have HBk3 := Lib.hid (HBk2.out.set 2 (.slice A1 n1 d1))
        refine ⟨trivial, ?_⟩
        repeat (first | (refine wpWay_take rfl (by rfl) (by intro w hSw; (try dsimp only at hSw); first | (go_simp; done) | (go_simp; with_reducible rfl)) ?_; try simp only [Act.put, List.setIfInBounds_toArray, List.set_cons_zero, List.set_cons_succ]) | (refine wpWay_skip rfl (by rfl) ?_; try simp only [Act.put, List.setIfInBounds_toArray, List.set_cons_zero, List.set_cons_succ]))
        refine wpWay_ev rfl (fun K hK => ?_) wpWay_stop
        have f1 := HBk3.out.frozen 1
        have g1 := HBk3.out.cell 1
        have l1 := HBk3.out.lt
        simp [histC] at g1
        go_wp2_with fail
        clear f1 g1 l1
        have HBk4 := Lib.hid (HBk3.out.set 1 (.slice A2 n2 d2))
        refine ⟨trivial, ?_⟩
        repeat (first | (refine wpWay_take rfl (by rfl) (by intro w hSw; (try dsimp only at hSw); first | (go_simp; done) | (go_simp; with_reducible rfl)) ?_; try simp only [Act.put, List.setIfInBounds_toArray, List.set_cons_zero, List.set_cons_succ]) | (refine wpWay_skip rfl (by rfl) ?_; try simp only [Act.put, List.setIfInBounds_toArray, List.set_cons_zero, List.set_cons_succ]))
        refine wpWay_ev rfl (fun K hK => ?_) wpWay_stop
        have f1 := HBk4.out.frozen 0
        have g1 := HBk4.out.cell 0
        have l1 := HBk4.out.lt
        simp [histC] at g1
        go_wp2_with fail
        clear f1 g1 l1
        have HBk5 := Lib.hid (HBk4.out.set 0 (.pointer (some ⟨rs[rs.length - 1]'(by have := HUL.out; omega), 0, none⟩)))
        refine ⟨trivial, ?_⟩
        repeat (first | (refine wpWay_take rfl (by rfl) (by intro w hSw; (try dsimp only at hSw); first | (go_simp; done) | (go_simp; with_reducible rfl)) ?_; try simp only [Act.put, List.setIfInBounds_toArray, List.set_cons_zero, List.set_cons_succ]) | (refine wpWay_skip rfl (by rfl) ?_; try simp only [Act.put, List.setIfInBounds_toArray, List.set_cons_zero, List.set_cons_succ]))
        refine wpWay_done ?_
        go_wp2_with fail
        go_ret
        refine ⟨rfl, hist_done (u' := ⟨A2, n2, d2⟩) (r' := ⟨A1, n1, d1⟩) HB2.out HBk2.out (((keepO_set _ _ _ _).trans (keepO_set _ _ _ _)).trans (keepO_set _ _ _ _)) HBk5.out (grown_trans (grown_trans (set_grownB _ _ _ _) (set_grownB _ _ _ _)) (set_grownB _ _ _ _)) ?_ (HF2.out.low ?_) (HF1.out.low ?_) (((HSU.out.snoc HNow.out).bl HB2.out).drop' HULen.out) ((HSR.out.bl HB2.out).take' HRLen.out)⟩
        · exact (HSR.out.bl HB2.out).2 _ _ _ (by rw [HRLen.out]; exact List.getElem?_eq_getElem _) (List.getElem?_eq_getElem _)
        · have := HB1.out.size; simp; omega
        · have := HB1.out.size; simp; omega
    · refine wpWay_ev rfl (fun K hK => ?_) wpWay_stop
      go_wp2_with fail
      refine ⟨trivial, ?_⟩
      repeat (first | (refine wpWay_take rfl (by rfl) (by intro w hSw; (try dsimp only at hSw); first | (go_simp; done) | (go_simp; with_reducible rfl)) ?_; try simp only [Act.put, List.setIfInBounds_toArray, List.set_cons_zero, List.set_cons_succ]) | (refine wpWay_skip rfl (by rfl) ?_; try simp only [Act.put, List.setIfInBounds_toArray, List.set_cons_zero, List.set_cons_succ]))
      refine wpWay_ev rfl (fun K hK => ?_) ?_
      · go_wp2_with fail
        refine ⟨trivial, ?_⟩
        repeat (first | (refine wpWay_take rfl (by rfl) (by intro w hSw; (try dsimp only at hSw); first | (go_simp; done) | (go_simp; with_reducible rfl)) ?_; try simp only [Act.put, List.setIfInBounds_toArray, List.set_cons_zero, List.set_cons_succ]) | (refine wpWay_skip rfl (by rfl) ?_; try simp only [Act.put, List.setIfInBounds_toArray, List.set_cons_zero, List.set_cons_succ]))
        refine wpWay_ev rfl (fun K hK => ?_) wpWay_stop
        go_wp2_with fail
        refine ⟨trivial, ?_⟩
        repeat (first | (refine wpWay_take rfl (by rfl) (by intro w hSw; (try dsimp only at hSw); first | (go_simp; done) | (go_simp; with_reducible rfl)) ?_; try simp only [Act.put, List.setIfInBounds_toArray, List.set_cons_zero, List.set_cons_succ]) | (refine wpWay_skip rfl (by rfl) ?_; try simp only [Act.put, List.setIfInBounds_toArray, List.set_cons_zero, List.set_cons_succ]))
        refine wpWay_ev rfl (fun K hK => ?_) wpWay_stop
        go_wp2_with fail
        refine (hturn_any _ _ rs us n _ (HQ.out.1.bl HB1.out.drew) (HU.out.1.bl HB1.out.drew) HUL.out HN.out HN'.out).mono ?_
        rintro e w2 ⟨u1, u2, rfl, hf1, hf2, hb⟩
        have HBk2 := Lib.hid ((HBk1.out.bl (Bl.refl _).drew).bl hb)
        have HB2 := Lib.hid ((HB1.out.drew).bl hb)
        obtain ⟨A1, d1, z1, _⟩ := id hf1.1
        obtain ⟨A2, d2, z2, _⟩ := id hf2.1
        subst z1
        subst z2
        generalize hn1 : (rs.take (rs.length - 1)).length = n1 at *
        generalize hn2 : ((us ++ [n]).drop (us.length + 1 - 4)).length = n2 at *
        have HF1 := Lib.hid hf1
        have HF2 := Lib.hid hf2
        clear hf1 hf2 hb hn1 hn2
        go_wp2_with fail
        refine ⟨trivial, ?_⟩
        repeat (first | (refine wpWay_take rfl (by rfl) (by intro w hSw; (try dsimp only at hSw); first | (go_simp; done) | (go_simp; with_reducible rfl)) ?_; try simp only [Act.put, List.setIfInBounds_toArray, List.set_cons_zero, List.set_cons_succ]) | (refine wpWay_skip rfl (by rfl) ?_; try simp only [Act.put, List.setIfInBounds_toArray, List.set_cons_zero, List.set_cons_succ]))
        refine wpWay_ev rfl (fun K hK => ?_) wpWay_stop
        have f1 := HBk2.out.frozen 2
        have g1 := HBk2.out.cell 2
        have l1 := HBk2.out.lt
        simp [histC] at g1
        go_wp2_with fail
        clear f1 g1 l1
        have HBk3 := Lib.hid (HBk2.out.set 2 (.slice A1 n1 d1))
        refine ⟨trivial, ?_⟩
        repeat (first | (refine wpWay_take rfl (by rfl) (by intro w hSw; (try dsimp only at hSw); first | (go_simp; done) | (go_simp; with_reducible rfl)) ?_; try simp only [Act.put, List.setIfInBounds_toArray, List.set_cons_zero, List.set_cons_succ]) | (refine wpWay_skip rfl (by rfl) ?_; try simp only [Act.put, List.setIfInBounds_toArray, List.set_cons_zero, List.set_cons_succ]))
        refine wpWay_ev rfl (fun K hK => ?_) wpWay_stop
        have f1 := HBk3.out.frozen 1
        have g1 := HBk3.out.cell 1
        have l1 := HBk3.out.lt
        simp [histC] at g1
        go_wp2_with fail
        clear f1 g1 l1
        have HBk4 := Lib.hid (HBk3.out.set 1 (.slice A2 n2 d2))
        refine ⟨trivial, ?_⟩
        repeat (first | (refine wpWay_take rfl (by rfl) (by intro w hSw; (try dsimp only at hSw); first | (go_simp; done) | (go_simp; with_reducible rfl)) ?_; try simp only [Act.put, List.setIfInBounds_toArray, List.set_cons_zero, List.set_cons_succ]) | (refine wpWay_skip rfl (by rfl) ?_; try simp only [Act.put, List.setIfInBounds_toArray, List.set_cons_zero, List.set_cons_succ]))
        refine wpWay_ev rfl (fun K hK => ?_) wpWay_stop
        have f1 := HBk4.out.frozen 0
        have g1 := HBk4.out.cell 0
        have l1 := HBk4.out.lt
        simp [histC] at g1
        go_wp2_with fail
        clear f1 g1 l1
        have HBk5 := Lib.hid (HBk4.out.set 0 (.pointer (some ⟨rs[rs.length - 1]'(by have := HUL.out; omega), 0, none⟩)))
        refine ⟨trivial, ?_⟩
        repeat (first | (refine wpWay_take rfl (by rfl) (by intro w hSw; (try dsimp only at hSw); first | (go_simp; done) | (go_simp; with_reducible rfl)) ?_; try simp only [Act.put, List.setIfInBounds_toArray, List.set_cons_zero, List.set_cons_succ]) | (refine wpWay_skip rfl (by rfl) ?_; try simp only [Act.put, List.setIfInBounds_toArray, List.set_cons_zero, List.set_cons_succ]))
        refine wpWay_done ?_
        go_wp2_with fail
        go_ret
        refine ⟨rfl, hist_done (u' := ⟨A2, n2, d2⟩) (r' := ⟨A1, n1, d1⟩) HB2.out HBk2.out (((keepO_set _ _ _ _).trans (keepO_set _ _ _ _)).trans (keepO_set _ _ _ _)) HBk5.out (grown_trans (grown_trans (set_grownB _ _ _ _) (set_grownB _ _ _ _)) (set_grownB _ _ _ _)) ?_ (HF2.out.low ?_) (HF1.out.low ?_) (((HSU.out.snoc HNow.out).bl HB2.out).drop' HULen.out) ((HSR.out.bl HB2.out).take' HRLen.out)⟩
        · exact (HSR.out.bl HB2.out).2 _ _ _ (by rw [HRLen.out]; exact List.getElem?_eq_getElem _) (List.getElem?_eq_getElem _)
        · have := HB1.out.size; simp; omega
        · have := HB1.out.size; simp; omega
      · refine wpWay_ev rfl (fun K hK => ?_) wpWay_stop
        go_wp2_with fail
        refine ⟨trivial, ?_⟩
        repeat (first | (refine wpWay_take rfl (by rfl) (by intro w hSw; (try dsimp only at hSw); first | (go_simp; done) | (go_simp; with_reducible rfl)) ?_; try simp only [Act.put, List.setIfInBounds_toArray, List.set_cons_zero, List.set_cons_succ]) | (refine wpWay_skip rfl (by rfl) ?_; try simp only [Act.put, List.setIfInBounds_toArray, List.set_cons_zero, List.set_cons_succ]))
        refine wpWay_ev rfl (fun K hK => ?_) wpWay_stop
        go_wp2_with fail
        refine ⟨trivial, ?_⟩
        repeat (first | (refine wpWay_take rfl (by rfl) (by intro w hSw; (try dsimp only at hSw); first | (go_simp; done) | (go_simp; with_reducible rfl)) ?_; try simp only [Act.put, List.setIfInBounds_toArray, List.set_cons_zero, List.set_cons_succ]) | (refine wpWay_skip rfl (by rfl) ?_; try simp only [Act.put, List.setIfInBounds_toArray, List.set_cons_zero, List.set_cons_succ]))
        refine wpWay_ev rfl (fun K hK => ?_) wpWay_stop
        go_wp2_with fail
        refine (hturn_any _ _ rs us n _ (HQ.out.1.bl HB1.out.drew) (HU.out.1.bl HB1.out.drew) HUL.out HN.out HN'.out).mono ?_
        rintro e w2 ⟨u1, u2, rfl, hf1, hf2, hb⟩
        have HBk2 := Lib.hid ((HBk1.out.bl (Bl.refl _).drew).bl hb)
        have HB2 := Lib.hid ((HB1.out.drew).bl hb)
        obtain ⟨A1, d1, z1, _⟩ := id hf1.1
        obtain ⟨A2, d2, z2, _⟩ := id hf2.1
        subst z1
        subst z2
        generalize hn1 : (rs.take (rs.length - 1)).length = n1 at *
        generalize hn2 : ((us ++ [n]).drop (us.length + 1 - 4)).length = n2 at *
        have HF1 := Lib.hid hf1
        have HF2 := Lib.hid hf2
        clear hf1 hf2 hb hn1 hn2
        go_wp2_with fail
        refine ⟨trivial, ?_⟩
        repeat (first | (refine wpWay_take rfl (by rfl) (by intro w hSw; (try dsimp only at hSw); first | (go_simp; done) | (go_simp; with_reducible rfl)) ?_; try simp only [Act.put, List.setIfInBounds_toArray, List.set_cons_zero, List.set_cons_succ]) | (refine wpWay_skip rfl (by rfl) ?_; try simp only [Act.put, List.setIfInBounds_toArray, List.set_cons_zero, List.set_cons_succ]))
        refine wpWay_ev rfl (fun K hK => ?_) wpWay_stop
        have f1 := HBk2.out.frozen 2
        have g1 := HBk2.out.cell 2
        have l1 := HBk2.out.lt
        simp [histC] at g1
        go_wp2_with fail
        clear f1 g1 l1
        have HBk3 := Lib.hid (HBk2.out.set 2 (.slice A1 n1 d1))
        refine ⟨trivial, ?_⟩
        repeat (first | (refine wpWay_take rfl (by rfl) (by intro w hSw; (try dsimp only at hSw); first | (go_simp; done) | (go_simp; with_reducible rfl)) ?_; try simp only [Act.put, List.setIfInBounds_toArray, List.set_cons_zero, List.set_cons_succ]) | (refine wpWay_skip rfl (by rfl) ?_; try simp only [Act.put, List.setIfInBounds_toArray, List.set_cons_zero, List.set_cons_succ]))
        refine wpWay_ev rfl (fun K hK => ?_) wpWay_stop
        have f1 := HBk3.out.frozen 1
        have g1 := HBk3.out.cell 1
        have l1 := HBk3.out.lt
        simp [histC] at g1
        go_wp2_with fail
        clear f1 g1 l1
        have HBk4 := Lib.hid (HBk3.out.set 1 (.slice A2 n2 d2))
        refine ⟨trivial, ?_⟩
        repeat (first | (refine wpWay_take rfl (by rfl) (by intro w hSw; (try dsimp only at hSw); first | (go_simp; done) | (go_simp; with_reducible rfl)) ?_; try simp only [Act.put, List.setIfInBounds_toArray, List.set_cons_zero, List.set_cons_succ]) | (refine wpWay_skip rfl (by rfl) ?_; try simp only [Act.put, List.setIfInBounds_toArray, List.set_cons_zero, List.set_cons_succ]))
        refine wpWay_ev rfl (fun K hK => ?_) wpWay_stop
        have f1 := HBk4.out.frozen 0
        have g1 := HBk4.out.cell 0
        have l1 := HBk4.out.lt
        simp [histC] at g1
        go_wp2_with fail
        clear f1 g1 l1
        have HBk5 := Lib.hid (HBk4.out.set 0 (.pointer (some ⟨rs[rs.length - 1]'(by have := HUL.out; omega), 0, none⟩)))
        refine ⟨trivial, ?_⟩
        repeat (first | (refine wpWay_take rfl (by rfl) (by intro w hSw; (try dsimp only at hSw); first | (go_simp; done) | (go_simp; with_reducible rfl)) ?_; try simp only [Act.put, List.setIfInBounds_toArray, List.set_cons_zero, List.set_cons_succ]) | (refine wpWay_skip rfl (by rfl) ?_; try simp only [Act.put, List.setIfInBounds_toArray, List.set_cons_zero, List.set_cons_succ]))
        refine wpWay_done ?_
        go_wp2_with fail
        go_ret
        refine ⟨rfl, hist_done (u' := ⟨A2, n2, d2⟩) (r' := ⟨A1, n1, d1⟩) HB2.out HBk2.out (((keepO_set _ _ _ _).trans (keepO_set _ _ _ _)).trans (keepO_set _ _ _ _)) HBk5.out (grown_trans (grown_trans (set_grownB _ _ _ _) (set_grownB _ _ _ _)) (set_grownB _ _ _ _)) ?_ (HF2.out.low ?_) (HF1.out.low ?_) (((HSU.out.snoc HNow.out).bl HB2.out).drop' HULen.out) ((HSR.out.bl HB2.out).take' HRLen.out)⟩
        · exact (HSR.out.bl HB2.out).2 _ _ _ (by rw [HRLen.out]; exact List.getElem?_eq_getElem _) (List.getElem?_eq_getElem _)
        · have := HB1.out.size; simp; omega
        · have := HB1.out.size; simp; omega
end Go.Proofs.Ytddcjekkimajpaa.ExtW
