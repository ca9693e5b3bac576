/- Several texts joined (see each one's head). -/
import Derived.Test.YtoocebghlchcoaaGreatPkAO
import Derived.Test.YtoocebghlchcoaaGreatPkAE
import Derived.Test.YtoocebghlchcoaaGreatPkAQ
import Derived.Test.YtoocebghlchcoaaGreatPkAN
import Derived.Test.YtoocebghlchcoaaGreatPkAI
/- Contracts of block.Coder: New, sum, Seal, right. -/
namespace Go.Proofs.YtoocebghlchcoaaGreat.ExtW
open Go.RowKit Go.Ov Go.Proofs.YtoocebghlchcoaaGreat.Need

theorem aadd_any (a : Addr) (x d : Int) (w : World) (h : w.cell? a = some (.int .i64 x)) (f : w.frozen? a = false) :
    Calls Tryz.prog 70 #[.pointer (some a), .int .i64 d] w fun e w' => e = .returned (.int .i64 (wrap64 (x + d))) ∧ w' = w.setCell a (.int .i64 (wrap64 (x + d))) := by
  have hadd := run_call_add (P := Tryz.prog) Tryz.func106 (by kernel_rfl) (by kernel_rfl) (by kernel_rfl) .i64 (by kernel_rfl) (y := d) (s := wrap64 (x + d)) h f (by simp [go_sem, IntKind.wrap_i64]; unfold wrap64; rfl)
  go_enter Tryz.func70, Tryz.ntmps70
  go_wp2
  go_ret
  exact ⟨rfl, rfl⟩
/-- a coder in block C, its table in block B -/
structure CodSt (w : World) (C B : Nat) : Prop where
  cod : ∃ s o : Int, Blk w C #[.pointer (some ⟨B, 0, none⟩), .int .i64 s, .int .i64 o] 149
  tab : TabSt w B
theorem TabSt.any {w : World} {B : Nat} (h : TabSt w B) : ∃ cs, Blk w B cs 201 := by
  rcases h with h | h
  · exact ⟨_, h⟩
  · exact ⟨_, h⟩
theorem CodSt.ne {w : World} {C B : Nat} (h : CodSt w C B) : C ≠ B := fun e => by
  subst e
  obtain ⟨s, o, h1⟩ := h.cod
  obtain ⟨cs, h2⟩ := h.tab.any
  unfold Blk at h1 h2
  rw [h1] at h2
  injection h2 with h2
  injection h2 with _ h2 _
  cases h2
theorem TabSt.bl {w w' : World} {B : Nat} (h : TabSt w B) (hb : Bl w w') : TabSt w' B := by
  rcases h with h | h
  · exact .inl (h.bl hb)
  · exact .inr (h.bl hb)
theorem TabSt.kp {w w' : World} {B : Nat} {G : Nat → Bool} (h : TabSt w B) (hb : Kp G w w') (hg : G B = true) : TabSt w' B := by
  rcases h with h | h
  · exact .inl (hb.blk h hg)
  · exact .inr (hb.blk h hg)
theorem CodSt.bl {w w' : World} {C B : Nat} (h : CodSt w C B) (hb : Bl w w') : CodSt w' C B := by
  obtain ⟨s, o, h1⟩ := h.cod
  exact ⟨⟨s, o, h1.bl hb⟩, h.tab.bl hb⟩
theorem CodSt.lt {w : World} {C B : Nat} (h : CodSt w C B) : C < w.heap.size ∧ B < w.heap.size := by
  obtain ⟨s, o, h1⟩ := h.cod
  obtain ⟨cs, h2⟩ := h.tab.any
  exact ⟨h1.lt, h2.lt⟩

theorem knew_any (w : World) : Calls Tryz.prog 42 #[] w fun e w' => ∃ C B, e = .returned (.pointer (some ⟨C, 0, none⟩)) ∧ Bl w w' ∧ w.heap.size ≤ C ∧ w.heap.size ≤ B ∧ CodSt w' C B := by
  go_enter Tryz.func42, Tryz.ntmps42
  go_wp2_with fail
  refine (cnew_any _).mono ?_
  rintro e w1 ⟨rfl, hb, hk⟩
  have HB := Lib.hid hb
  have HK := Lib.hid hk
  clear hb hk
  go_wp2
  go_ret
  exact ⟨_, _, rfl, HB.out.alloc _, HB.out.size, Nat.le_refl _, ⟨0, 0, Blk.newC _ _ rfl⟩, .inl (HK.out.bl ((Bl.refl _).alloc _))⟩

set_option maxRecDepth 100000 in
set_option maxHeartbeats 1000000 in
theorem ksum_any (C B : Nat) (vb : Value) (l : List Int) (w : World) (h : CodSt w C B) (hb : byteE.Is (only w (nb2 C B)) vb l) (hl : l.length ≤ 1000000) (ho : okB l) :
    Calls Tryz.prog 101 #[.pointer (some ⟨C, 0, none⟩), vb] w fun e w' => ∃ u, e = .returned u ∧ byteE.Own 5 w' w.heap.size u (sum4 l) ∧ CodSt w' C B ∧ Kp (nb2 C B) w w' := by
  have HC := Lib.hid h
  have HX := Lib.hid ((Sub.mono (G' := nb1 B) (fun b hb => by simp [nb1]; exact (nb2_iff.1 hb).2)).is hb)
  have HO := Lib.hid ho
  obtain ⟨s, o, hk⟩ := h.cod
  have c0 := hk.cell 0
  simp at c0
  clear h hb ho hk
  go_enter Tryz.func101, Tryz.ntmps101
  go_wp2_with fail
  refine (csum_any B vb l _ HC.out.tab HX.out hl HO.out).mono ?_
  rintro e w1 ⟨rfl, ht, hg⟩
  have HC1 := Lib.hid (show CodSt w1 C B from by
    obtain ⟨s, o, hk⟩ := HC.out.cod
    exact ⟨⟨s, o, hk.grown hg (fun e => HC.out.ne (by injection e with e; exact e.symm))⟩, ht⟩)
  have HG := Lib.hid hg
  obtain ⟨q, hq⟩ : ∃ q, q = crcSum l := ⟨_, rfl⟩
  rw [← hq]
  have HQ := Lib.hid hq
  have hlt := q.isLt
  clear ht hg hq
  go_wp2
  go_ret
  refine ⟨_, rfl, Enc.Own.lit (E := byteE) w1 _ (sum4 l) _ ?_ 4 rfl HG.out.size (by decide) rfl, HC1.out.bl ((Bl.refl _).alloc _), (Kp.of_gb HG.out (fun k hk => by injection hk with hk; subst hk; exact nb2_r _ _)).trans (Kp.of_bl ((Bl.refl _).alloc _))⟩
  rw [byte_flat]
  unfold sum4
  rw [← HQ.out]
  simp

theorem lay_pad (l : List Int) (h : l.length ≤ 124) : lay (List.replicate 124 0) 0 (l.take (min l.length 124)) = padB l := by
  unfold lay padB
  rw [Nat.min_eq_left h, List.take_length, List.take_zero, List.nil_append, Nat.zero_add, List.drop_replicate]
theorem pad_ok {l : List Int} (h : okB l) : okB (padB l) := fun c hc => by
  unfold padB at hc
  rcases List.mem_append.1 hc with h1 | h1
  · exact h c h1
  · obtain ⟨_, rfl⟩ := List.mem_replicate.1 h1; omega
end Go.Proofs.YtoocebghlchcoaaGreat.ExtW

/- Contracts of block.Coder: unseal, Open. -/
namespace Go.Proofs.YtoocebghlchcoaaGreat.ExtW
open Go.RowKit Go.Ov Go.Proofs.YtoocebghlchcoaaGreat.Need
theorem only_is {w : World} {G : Nat → Bool} {v : Value} {xs : List Int} (h : byteE.Is (only w G) v xs) : byteE.Is w v xs := (show Sub (only w G) w from fun _ _ hq => (only_cell hq).2).is h
def UnsP (w w' : World) (l : List Int) (e : Ending) : Prop := if whole l then ∃ u, e = .returned (.tuple #[u, .int .i64 0]) ∧ byteE.Own 5 w' w.heap.size u (l.take 124) else e = .returned (.tuple #[.slice none 0 0, .int .i64 2])
set_option maxHeartbeats 1000000 in
theorem kunseal_any (C B : Nat) (vb : Value) (l : List Int) (w : World) (h : CodSt w C B) (hb : byteE.Is (only w (nb2 C B)) vb l) (hl : l.length ≤ 1000000) (ho : okB l) :
    Calls Tryz.prog 68 #[.pointer (some ⟨C, 0, none⟩), vb] w fun e w' => UnsP w w' l e ∧ CodSt w' C B ∧ Kp (nb2 C B) w w' := by
  have HC := Lib.hid h
  have HX := Lib.hid hb
  have HO := Lib.hid ho
  obtain ⟨A, c, rfl, h1, h2, h3, h4⟩ := hb
  have HCP := Lib.hid h1
  clear h h1 h2 h3 h4 ho
  go_enter Tryz.func68, Tryz.ntmps68
  rcases (show l.length = 128 ∨ ¬ l.length = 128 by omega) with h128 | h128
  · have hn : (l.length : Int) = 128 := by omega
    obtain ⟨V1, hV1, hI1⟩ := slice_h (E := byteE) (P := Tryz.prog) (t := 25) (by kernel_rfl) (fun w => by kernel_rfl) A c l 124 (by omega) (by omega) HCP.out
    obtain ⟨V2, hV2, hI2⟩ := slice_l (E := byteE) (P := Tryz.prog) (t := 25) (by kernel_rfl) (fun w => by kernel_rfl) A c l 124 (by omega) (by omega)
    have HV1 := Lib.hid (show byteE.Is (only w (nb2 C B)) V1 (l.take 124) from hI1 _ HX.out)
    have HV2 := Lib.hid (show byteE.Is (only w (nb2 C B)) V2 (l.drop 124) from hI2 _ HX.out)
    have HW := Lib.hid (show whole l = decide (sum4 (l.take 124) = l.drop 124) by unfold whole; simp [h128])
    have HT := Lib.hid (show (l.take 124).length = 124 by rw [List.length_take]; omega)
    have HKd := Lib.hid (Kp.refl (nb2 C B) w).drew
    generalize hln : l.length = n at *
    subst h128
    clear hI1 hI2 hln
    go_wp2_with fail
    refine wp_region_ways (S := (fun w' => w.heap.size ≤ w'.heap.size)) [0, 1, 2, 3, 4, 5, 6, 8, 9, 11, 12] (y := .take 0 (.take 1 (.take 2 (.take 3 (.take 4 (.take 5 (.take 6 (.take 8 (.take 9 (.ev 7 (.ev 10 (.take 11 (.take 12 (.done))) (.stop)) (.stop))))))))))) (by kernel_rfl) (by kernel_rfl) (by kernel_rfl) ?_ (fun hHeld => ?_)
    · exact Nat.le_refl _
    clear hHeld
    repeat (first | (refine wpWay_take rfl (by rfl) (by intro w hSw; (try dsimp only at hSw); first | (go_simp; done) | (go_simp; with_reducible rfl)) ?_; try simp only [Act.put, List.setIfInBounds_toArray, List.set_cons_zero, List.set_cons_succ]) | (refine wpWay_skip rfl (by rfl) ?_; try simp only [Act.put, List.setIfInBounds_toArray, List.set_cons_zero, List.set_cons_succ]))
    refine wpWay_ev rfl (fun K hK => ?_) wpWay_stop
    go_wp2_with fail
    refine (ksum_any C B _ (l.take 124) _ (HC.out.bl (Bl.refl _).drew) (HKd.out.sub.is HV1.out) (by have := HT.out; omega) (HO.out.take _)).mono ?_
    rintro e w1 ⟨u1, rfl, ho1, hc1, hk1⟩
    have HO1 := Lib.hid ho1
    have HK1 := Lib.hid (HKd.out.trans hk1)
    have HC1 := Lib.hid hc1
    clear ho1 hk1 hc1
    go_wp2_with fail
    refine ⟨HK1.out.size, ?_⟩
    repeat (first | (refine wpWay_take rfl (by rfl) (by intro w hSw; (try dsimp only at hSw); first | (go_simp; done) | (go_simp; with_reducible rfl)) ?_; try simp only [Act.put, List.setIfInBounds_toArray, List.set_cons_zero, List.set_cons_succ]) | (refine wpWay_skip rfl (by rfl) ?_; try simp only [Act.put, List.setIfInBounds_toArray, List.set_cons_zero, List.set_cons_succ]))
    refine wpWay_ev rfl (fun K hK => ?_) wpWay_stop
    go_wp2_with fail
    refine (bEqual_any _ _ _ _ _ HO1.out.is (only_is (HK1.out.sub.is HV2.out)) (sum4_ok _) (HO.out.drop _)).mono ?_
    rintro e w2 ⟨rfl, rfl⟩
    rw [← HW.out]
    cases hw : whole l
    · go_wp2_with fail
      refine ⟨HK1.out.size, ?_⟩
      repeat (first | (refine wpWay_take rfl (by rfl) (by intro w hSw; (try dsimp only at hSw); first | (go_simp; done) | (go_simp; with_reducible rfl)) ?_; try simp only [Act.put, List.setIfInBounds_toArray, List.set_cons_zero, List.set_cons_succ]) | (refine wpWay_skip rfl (by rfl) ?_; try simp only [Act.put, List.setIfInBounds_toArray, List.set_cons_zero, List.set_cons_succ]))
      refine wpWay_done ?_
      go_wp2
      go_ret2
      exact ⟨by unfold UnsP; rw [hw]; rfl, HC1.out, HK1.out⟩
    · go_wp2_with fail
      refine ⟨HK1.out.size, ?_⟩
      repeat (first | (refine wpWay_take rfl (by rfl) (by intro w hSw; (try dsimp only at hSw); first | (go_simp; done) | (go_simp; with_reducible rfl)) ?_; try simp only [Act.put, List.setIfInBounds_toArray, List.set_cons_zero, List.set_cons_succ]) | (refine wpWay_skip rfl (by rfl) ?_; try simp only [Act.put, List.setIfInBounds_toArray, List.set_cons_zero, List.set_cons_succ]))
      refine wpWay_done ?_
      go_wp2_with (at_builtin; refine Enc.Own.append (E := byteE) rfl _ _ 25 rfl w.heap.size 5 (.int .u8 0) 1 1 Tryz.underlying25 infoByte rfl rfl (by decide) (by decide) (.slice none 0 0) [] rfl (Enc.Own.nil _ _ _) _ _ rfl (only_is (HK1.out.sub.is HV1.out)) (by have := HT.out; simp; omega) HK1.out.size ?_; intro u5 w5 ho hg)
      go_ret2
      refine ⟨by unfold UnsP; rw [hw]; exact ⟨u5, rfl, by simpa using ho⟩, HC1.out.bl ((Bl.refl _).grown hg (by simp [Value.ownBlock])), HK1.out.trans (Kp.of_bl ((Bl.refl _).grown hg (by simp [Value.ownBlock])))⟩
  · have hn : ¬ (l.length : Int) = 128 := by omega
    have HW := Lib.hid (show whole l = false by unfold whole; simp [h128])
    go_wp2_with fail
    refine wp_region_ways (S := (fun w' => w.heap.size ≤ w'.heap.size)) [0, 1, 2, 3, 4, 5, 6, 8, 9, 11, 12] (y := .take 0 (.take 1 (.take 2 (.take 3 (.take 4 (.take 5 (.take 6 (.take 8 (.take 9 (.ev 7 (.ev 10 (.take 11 (.take 12 (.done))) (.stop)) (.stop))))))))))) (by kernel_rfl) (by kernel_rfl) (by kernel_rfl) ?_ (fun hHeld => ?_)
    · exact Nat.le_refl _
    clear hHeld
    repeat (first | (refine wpWay_take rfl (by rfl) (by intro w hSw; (try dsimp only at hSw); first | (go_simp; done) | (go_simp; with_reducible rfl)) ?_; try simp only [Act.put, List.setIfInBounds_toArray, List.set_cons_zero, List.set_cons_succ]) | (refine wpWay_skip rfl (by rfl) ?_; try simp only [Act.put, List.setIfInBounds_toArray, List.set_cons_zero, List.set_cons_succ]))
    rw [show ((l.length : Int) != 128) = true by simp [hn]]
    repeat (first | (refine wpWay_take rfl (by rfl) (by intro w hSw; (try dsimp only at hSw); first | (go_simp; done) | (go_simp; with_reducible rfl)) ?_; try simp only [Act.put, List.setIfInBounds_toArray, List.set_cons_zero, List.set_cons_succ]) | (refine wpWay_skip rfl (by rfl) ?_; try simp only [Act.put, List.setIfInBounds_toArray, List.set_cons_zero, List.set_cons_succ]))
    refine wpWay_pass rfl (by rfl) (by exact Nat.le_refl _) ?_ wpWay_stop
    try simp only [Act.put, List.setIfInBounds_toArray, List.set_cons_zero, List.set_cons_succ]
    refine wpWay_pass rfl (by rfl) (by exact Nat.le_refl _) ?_ wpWay_stop
    try simp only [Act.put, List.setIfInBounds_toArray, List.set_cons_zero, List.set_cons_succ]
    repeat (first | (refine wpWay_take rfl (by rfl) (by intro w hSw; (try dsimp only at hSw); first | (go_simp; done) | (go_simp; with_reducible rfl)) ?_; try simp only [Act.put, List.setIfInBounds_toArray, List.set_cons_zero, List.set_cons_succ]) | (refine wpWay_skip rfl (by rfl) ?_; try simp only [Act.put, List.setIfInBounds_toArray, List.set_cons_zero, List.set_cons_succ]))
    refine wpWay_done ?_
    go_wp2
    go_ret2
    exact ⟨by unfold UnsP; rw [HW.out]; rfl, HC.out.bl (Bl.refl _).drew, (Kp.refl _ _).drew⟩
set_option maxHeartbeats 1000000 in
theorem kOpen_any (C B : Nat) (vb : Value) (l : List Int) (w : World) (h : CodSt w C B) (hb : byteE.Is (only w (nb2 C B)) vb l) (hl : l.length ≤ 1000000) (ho : okB l) :
    Calls Tryz.prog 43 #[.pointer (some ⟨C, 0, none⟩), vb] w fun e w' => DecP w w' (openM l) e ∧ CodSt w' C B ∧ Kp (nb2 C B) w w' := by
  have HC := Lib.hid h
  have HX := Lib.hid hb
  have HO := Lib.hid ho
  obtain ⟨r, hr⟩ : ∃ r, r = openM l := ⟨_, rfl⟩
  rw [← hr]
  have HR := Lib.hid hr
  clear h hb ho hr
  go_enter Tryz.func43, Tryz.ntmps43
  go_wp2_with fail
  refine (kunseal_any C B vb l _ HC.out HX.out hl HO.out).mono ?_
  rintro e w1 ⟨hu, hc1, hk1⟩
  have HC1 := Lib.hid hc1
  have HK1 := Lib.hid hk1
  clear hc1 hk1
  unfold UnsP at hu
  cases hw : whole l
  · rw [hw] at hu
    obtain rfl := hu
    obtain rfl : r = none := by rw [HR.out]; unfold openM; rw [hw]; rfl
    go_wp2
    go_ret2
    exact ⟨rfl, HC1.out, HK1.out⟩
  · rw [hw] at hu
    obtain ⟨u, rfl, hu⟩ := hu
    have HU := Lib.hid hu
    have HRd := Lib.hid (show r = decM (unpackB (l.take 124)) by rw [HR.out]; unfold openM; rw [hw]; rfl)
    clear hu HR
    go_wp2_with fail
    refine (fmDecode_any u (l.take 124) _ HU.out.is (by rw [List.length_take]; omega) (HO.out.take _)).mono ?_
    rintro e w2 ⟨hd, hb2⟩
    rw [← HRd.out] at hd
    have HC2 := Lib.hid (HC1.out.bl hb2)
    have HK2 := Lib.hid (HK1.out.trans (Kp.of_bl hb2))
    have HSz := Lib.hid HK1.out.size
    clear hb2
    cases r with
    | none =>
      obtain rfl := hd
      go_wp2
      go_ret2
      exact ⟨rfl, HC2.out, HK2.out⟩
    | some x =>
      obtain ⟨ux, rfl, hx, hxl⟩ := hd
      have HXx := Lib.hid (hx.low HSz.out)
      have HXr := Lib.hid hx
      obtain ⟨s, o, hblk⟩ := HC2.out.cod
      have d2 := hblk.cell 2
      have f2 := hblk.frozen 2
      simp at d2
      have HBk := Lib.hid hblk
      clear hx hblk
      go_wp2_with fail
      refine (aadd_any _ o 1 _ d2 f2).mono ?_
      rintro e w3 ⟨rfl, rfl⟩
      have hk3 : Kp (nb2 C B) w2 (w2.setCell ⟨C, 2, none⟩ (.int .i64 (wrap64 (o + 1)))) := Kp.of_gb (setCell_grown w2 C 2 _) fun k hk => by rw [← Option.some.inj hk]; exact nb2_l _ _
      have HK3 := Lib.hid (HK2.out.trans hk3)
      have HC3 := Lib.hid (show CodSt (w2.setCell ⟨C, 2, none⟩ (.int .i64 (wrap64 (o + 1)))) C B from ⟨⟨s, wrap64 (o + 1), HBk.out.set 2 _⟩, by
        rcases HC2.out.tab with ht | ht
        · exact .inl (ht.set_else C 2 _ HC2.out.ne)
        · exact .inr (ht.set_else C 2 _ HC2.out.ne)⟩)
      have HX3 := Lib.hid (hk3.own HXx.out fun g hg => by
        have h1 := (HXr.out.lt g hg).1
        have h2 := HC1.out.lt
        exact nb2_iff.2 ⟨by omega, by omega⟩)
      go_wp2
      go_ret2
      exact ⟨⟨_, rfl, HX3.out, hxl⟩, HC3.out, HK3.out⟩
end Go.Proofs.YtoocebghlchcoaaGreat.ExtW

/- Contracts of super: Pack, Unpack, Choose. -/
namespace Go.Ov
open Go.RowKit
theorem superB_flat (g l d r cells : Int) : [wordM, putF g 4, putF l 4, putF d 4, putF r 4, putF cells 4].flatten = superB ⟨g, l, d, r⟩ cells := by simp [superB]
theorem superB_ok (s : SuperM) (cells : Int) : okB (superB s cells) := by
  unfold superB
  refine okB.app ?_ ((put_ok _ _).app ((put_ok _ _).app ((put_ok _ _).app ((put_ok _ _).app (put_ok _ _)))))
  intro c hc
  simp only [wordM, List.mem_cons, List.not_mem_nil, or_false] at hc
  rcases hc with rfl | rfl | rfl | rfl | rfl | rfl | rfl | rfl <;> decide
theorem word_is {w : World} {N : Nat} {T : TypeId} {fr : Nat × Nat} (h : w.heap[N]? = some (.cells wordC T fr)) : byteE.Is w (.slice (some ⟨N, 0, none⟩) 8 8) wordM := by
  refine ⟨_, 8, rfl, by decide, by decide, (fun h => by cases h), fun i x hx => ⟨_, rfl, fun j u hu => ?_⟩⟩
  have hi : i < 8 := (List.getElem?_eq_some_iff.1 hx).1
  have hj : j = 0 := by have := (List.getElem?_eq_some_iff.1 hu).1; simp [byteE] at this; exact this
  subst hj
  rw [addr_add0, cell_of_row w N _ wordC T fr h]
  simp [byteE] at hu
  subst hu
  rw [show i * byteE.sz + 0 = i by simp [byteE]]
  have hx2 := hx
  rcases (show i = 0 ∨ i = 1 ∨ i = 2 ∨ i = 3 ∨ i = 4 ∨ i = 5 ∨ i = 6 ∨ i = 7 by omega) with rfl | rfl | rfl | rfl | rfl | rfl | rfl | rfl <;> (simp [wordM] at hx2; subst hx2; rfl)
theorem superB_ne (s : SuperM) (cells : Int) : superB s cells ≠ [] := by unfold superB wordM; simp
end Go.Ov
namespace Go.Proofs.YtoocebghlchcoaaGreat.ExtW
open Go.RowKit Go.Ov Go.Proofs.YtoocebghlchcoaaGreat.Need

set_option maxRecDepth 100000 in
set_option maxHeartbeats 4000000 in
theorem suPack_any (g l d r cells : Int) (w : World) (hg : 0 ≤ g ∧ g ≤ 9223372036854775807) (hl : 0 ≤ l ∧ l ≤ 9223372036854775807) (hd : 0 ≤ d ∧ d ≤ 9223372036854775807) (hr : 0 ≤ r ∧ r ≤ 9223372036854775807) (hc : 0 ≤ cells ∧ cells ≤ 9223372036854775807) :
    Calls Tryz.prog 47 #[.agg #[.int .i64 g, .int .i64 l, .int .i64 d, .int .i64 r], .int .i64 cells] w fun e w' => ∃ u, e = .returned u ∧ byteE.Own 5 w' w.heap.size u (packSuper ⟨g, l, d, r⟩ cells) ∧ Bl w w' := by
  go_enter Tryz.func47, Tryz.ntmps47
  go_wp2_with fail
  refine wp_region_ways (S := (fun w' => w'.cell? ⟨w.heap.size, 0, none⟩ = some (.int .i64 g) ∧ w'.cell? ⟨w.heap.size, 1, none⟩ = some (.int .i64 l) ∧ w'.cell? ⟨w.heap.size, 2, none⟩ = some (.int .i64 d) ∧ w'.cell? ⟨w.heap.size, 3, none⟩ = some (.int .i64 r))) [2, 3, 5, 6, 8, 9, 11, 12, 14, 19] (y := .take 2 (.take 3 (.take 5 (.take 6 (.take 8 (.take 9 (.take 11 (.take 12 (.take 14 ((.ev 0 (.ev 1 (.ev 4 (.ev 7 (.ev 10 (.ev 13 (.ev 15 (.ev 16 (.ev 17 (.ev 18 (.take 19 .done) .stop) .stop) .stop) .stop) .stop) .stop) .stop) .stop) (.ev 4 (.ev 1 (.ev 7 (.ev 10 (.ev 13 (.ev 15 (.ev 16 (.ev 17 (.ev 18 (.take 19 .done) .stop) .stop) .stop) .stop) .stop) .stop) .stop) (.ev 7 (.ev 1 (.ev 10 (.ev 13 (.ev 15 (.ev 16 (.ev 17 (.ev 18 (.take 19 .done) .stop) .stop) .stop) .stop) .stop) .stop) (.ev 10 (.ev 1 (.ev 13 (.ev 15 (.ev 16 (.ev 17 (.ev 18 (.take 19 .done) .stop) .stop) .stop) .stop) .stop) (.ev 13 (.ev 1 (.ev 15 (.ev 16 (.ev 17 (.ev 18 (.take 19 .done) .stop) .stop) .stop) .stop) (.ev 15 (.ev 1 (.ev 16 (.ev 17 (.ev 18 (.take 19 .done) .stop) .stop) .stop) .stop) .stop)) .stop)) .stop)) .stop)) .stop)) (.ev 4 (.ev 0 (.ev 1 (.ev 7 (.ev 10 (.ev 13 (.ev 15 (.ev 16 (.ev 17 (.ev 18 (.take 19 .done) .stop) .stop) .stop) .stop) .stop) .stop) .stop) (.ev 7 (.ev 1 (.ev 10 (.ev 13 (.ev 15 (.ev 16 (.ev 17 (.ev 18 (.take 19 .done) .stop) .stop) .stop) .stop) .stop) .stop) (.ev 10 (.ev 1 (.ev 13 (.ev 15 (.ev 16 (.ev 17 (.ev 18 (.take 19 .done) .stop) .stop) .stop) .stop) .stop) (.ev 13 (.ev 1 (.ev 15 (.ev 16 (.ev 17 (.ev 18 (.take 19 .done) .stop) .stop) .stop) .stop) (.ev 15 (.ev 1 (.ev 16 (.ev 17 (.ev 18 (.take 19 .done) .stop) .stop) .stop) .stop) .stop)) .stop)) .stop)) .stop)) (.ev 7 (.ev 0 (.ev 1 (.ev 10 (.ev 13 (.ev 15 (.ev 16 (.ev 17 (.ev 18 (.take 19 .done) .stop) .stop) .stop) .stop) .stop) .stop) (.ev 10 (.ev 1 (.ev 13 (.ev 15 (.ev 16 (.ev 17 (.ev 18 (.take 19 .done) .stop) .stop) .stop) .stop) .stop) (.ev 13 (.ev 1 (.ev 15 (.ev 16 (.ev 17 (.ev 18 (.take 19 .done) .stop) .stop) .stop) .stop) (.ev 15 (.ev 1 (.ev 16 (.ev 17 (.ev 18 (.take 19 .done) .stop) .stop) .stop) .stop) .stop)) .stop)) .stop)) (.ev 10 (.ev 0 (.ev 1 (.ev 13 (.ev 15 (.ev 16 (.ev 17 (.ev 18 (.take 19 .done) .stop) .stop) .stop) .stop) .stop) (.ev 13 (.ev 1 (.ev 15 (.ev 16 (.ev 17 (.ev 18 (.take 19 .done) .stop) .stop) .stop) .stop) (.ev 15 (.ev 1 (.ev 16 (.ev 17 (.ev 18 (.take 19 .done) .stop) .stop) .stop) .stop) .stop)) .stop)) (.ev 13 (.ev 0 (.ev 1 (.ev 15 (.ev 16 (.ev 17 (.ev 18 (.take 19 .done) .stop) .stop) .stop) .stop) (.ev 15 (.ev 1 (.ev 16 (.ev 17 (.ev 18 (.take 19 .done) .stop) .stop) .stop) .stop) .stop)) (.ev 15 (.ev 0 (.ev 1 (.ev 16 (.ev 17 (.ev 18 (.take 19 .done) .stop) .stop) .stop) .stop) .stop) .stop)) .stop)) .stop)) .stop)) .stop)))))))))))) (by kernel_rfl) (by kernel_rfl) (by kernel_rfl) ?_ (fun hHeld => ?_)
  · exact ⟨(Blk.drew (Blk.new w #[.int .i64 g, .int .i64 l, .int .i64 d, .int .i64 r] 71)).cell 0, (Blk.drew (Blk.new w #[.int .i64 g, .int .i64 l, .int .i64 d, .int .i64 r] 71)).cell 1, (Blk.drew (Blk.new w #[.int .i64 g, .int .i64 l, .int .i64 d, .int .i64 r] 71)).cell 2, (Blk.drew (Blk.new w #[.int .i64 g, .int .i64 l, .int .i64 d, .int .i64 r] 71)).cell 3⟩
  clear hHeld
  have HBw := Lib.hid (((Bl.refl w).alloc (.cells #[.int .i64 g, .int .i64 l, .int .i64 d, .int .i64 r] 71)).drew)
  have HBK := Lib.hid (Blk.drew (Blk.new w #[.int .i64 g, .int .i64 l, .int .i64 d, .int .i64 r] 71))
  generalize (w.alloc (.cells #[.int .i64 g, .int .i64 l, .int .i64 d, .int .i64 r] 71)).drew = w0 at *
  have hS : ∀ w1, Bl w0 w1 → w1.cell? ⟨w.heap.size, 0, none⟩ = some (.int .i64 g) ∧ w1.cell? ⟨w.heap.size, 1, none⟩ = some (.int .i64 l) ∧ w1.cell? ⟨w.heap.size, 2, none⟩ = some (.int .i64 d) ∧ w1.cell? ⟨w.heap.size, 3, none⟩ = some (.int .i64 r) := fun w1 hb => ⟨(HBK.out.bl hb).cell 0, (HBK.out.bl hb).cell 1, (HBK.out.bl hb).cell 2, (HBK.out.bl hb).cell 3⟩
  repeat (first | (refine wpWay_take rfl (by rfl) (by intro w hSw; (try dsimp only at hSw); first | (go_simp; done) | (go_simp; with_reducible rfl)) ?_; try simp only [Act.put, List.setIfInBounds_toArray, List.set_cons_zero, List.set_cons_succ]) | (refine wpWay_skip rfl (by rfl) ?_; try simp only [Act.put, List.setIfInBounds_toArray, List.set_cons_zero, List.set_cons_succ]))
  refine way_start fun W hW => ?_
  have H25 : ∀ (N : Nat) (x5 x6 : Value) (y : Nat → Value) (w1 : World), SI 5 2 5 w0 w1 N (fun i => [g, l, d, r, cells].getD i 0) x5 x6 y → W (.ev 16 (.ev 17 (.ev 18 (.take 19 .done) .stop) .stop) .stop) { tmps := #[.agg #[.int .i64 g, .int .i64 l, .int .i64 d, .int .i64 r], .int .i64 cells, .pointer (some ⟨w.heap.size, 0, none⟩), undef, .slice none 0 0, x5, x6, .pointer (some ⟨w.heap.size, 0, none⟩), .int .i64 g, y 0, .pointer (some ⟨w.heap.size, 1, none⟩), .int .i64 l, y 1, .pointer (some ⟨w.heap.size, 2, none⟩), .int .i64 d, y 2, .pointer (some ⟨w.heap.size, 3, none⟩), .int .i64 r, y 3, .int .i64 cells, y 4, undef, undef, undef], defers := [] } w1 := by
    intro N x5 x6 y w1 hs
    rw [hW]
    obtain ⟨A0, c0, e0, i0⟩ := hs.h 0 (by decide)
    obtain ⟨A1, c1, e1, i1⟩ := hs.h 1 (by decide)
    obtain ⟨A2, c2, e2, i2⟩ := hs.h 2 (by decide)
    obtain ⟨A3, c3, e3, i3⟩ := hs.h 3 (by decide)
    obtain ⟨A4, c4, e4, i4⟩ := hs.h 4 (by decide)
    obtain ⟨e5, -, -, fr, e7⟩ := hs.lit (by decide)
    have e6 := hs.cv (Nat.le_refl _)
    have HB := Lib.hid hs.bl
    have HL := Lib.hid (word_is e7)
    rw [e6, e5, e0, e1, e2, e3, e4]
    rw [e0] at i0
    rw [e1] at i1
    rw [e2] at i2
    rw [e3] at i3
    rw [e4] at i4
    replace i0 := Lib.hid ((Sub.un _ _).is i0)
    replace i1 := Lib.hid ((Sub.un _ _).is i1)
    replace i2 := Lib.hid ((Sub.un _ _).is i2)
    replace i3 := Lib.hid ((Sub.un _ _).is i3)
    replace i4 := Lib.hid ((Sub.un _ _).is i4)
    clear e5 e6 e7 e0 e1 e2 e3 e4 hs
    simp only [List.getD_cons_zero, List.getD_cons_succ] at i0 i1 i2 i3 i4 ⊢
    refine wpWay_ev rfl (fun K hK => ?_) wpWay_stop
    go_wp2_with fail
    have hb := (Bl.refl w1).alloc (.cells #[.slice (some ⟨N, 0, none⟩) 8 8, .slice A0 (putF g 4).length c0, .slice A1 (putF l 4).length c1, .slice A2 (putF d 4).length c2, .slice A3 (putF r 4).length c3, .slice A4 (putF cells 4).length c4] 25)
    have hh : headE.Own 25 _ 0 _ [(⟨some ⟨N, 0, none⟩, 8, 8⟩ : Head), ⟨A0, (putF g 4).length, c0⟩, ⟨A1, (putF l 4).length, c1⟩, ⟨A2, (putF d 4).length, c2⟩, ⟨A3, (putF r 4).length, c3⟩, ⟨A4, (putF cells 4).length, c4⟩] := Enc.Own.lit w1 _ _ #[.slice (some ⟨N, 0, none⟩) 8 8, .slice A0 (putF g 4).length c0, .slice A1 (putF l 4).length c1, .slice A2 (putF d 4).length c2, .slice A3 (putF r 4).length c3, .slice A4 (putF cells 4).length c4] rfl 6 rfl (Nat.zero_le _) (by decide) rfl
    have HR := Lib.hid (BRows.cons (x := ⟨some ⟨N, 0, none⟩, 8, 8⟩) HL.out (BRows.cons (x := ⟨A0, (putF g 4).length, c0⟩) i0.out (BRows.cons (x := ⟨A1, (putF l 4).length, c1⟩) i1.out (BRows.cons (x := ⟨A2, (putF d 4).length, c2⟩) i2.out (BRows.cons (x := ⟨A3, (putF r 4).length, c3⟩) i3.out (BRows.cons (x := ⟨A4, (putF cells 4).length, c4⟩) i4.out (BRows.nil _)))))))
    have HR2 := Lib.hid (HR.out.sub (Sub.bl hb))
    replace HB := Lib.hid (HB.out.bl hb)
    refine ⟨hS _ HB.out, ?_⟩
    repeat (first | (refine wpWay_take rfl (by rfl) (by intro w hSw; (try dsimp only at hSw); first | (go_simp; done) | (go_simp; with_reducible rfl)) ?_; try simp only [Act.put, List.setIfInBounds_toArray, List.set_cons_zero, List.set_cons_succ]) | (refine wpWay_skip rfl (by rfl) ?_; try simp only [Act.put, List.setIfInBounds_toArray, List.set_cons_zero, List.set_cons_succ]))
    refine wpWay_ev rfl (fun K hK => ?_) wpWay_stop
    go_wp2_with fail
    refine (fJoin_any _ _ _ _ hh.is HR2.out (by rw [superB_flat]; rw [superB_len]; decide)).mono ?_
    rintro e w7 ⟨u7, rfl, ho7, hb7⟩
    rw [superB_flat] at ho7
    have H7 := Lib.hid ho7
    replace HB := Lib.hid (HB.out.bl hb7)
    clear ho7 hb7 HR HR2 hb i0 i1 i2 i3 i4 HL
    go_wp2_with fail
    refine ⟨hS _ HB.out, ?_⟩
    repeat (first | (refine wpWay_take rfl (by rfl) (by intro w hSw; (try dsimp only at hSw); first | (go_simp; done) | (go_simp; with_reducible rfl)) ?_; try simp only [Act.put, List.setIfInBounds_toArray, List.set_cons_zero, List.set_cons_succ]) | (refine wpWay_skip rfl (by rfl) ?_; try simp only [Act.put, List.setIfInBounds_toArray, List.set_cons_zero, List.set_cons_succ]))
    refine wpWay_ev rfl (fun K hK => ?_) wpWay_stop
    go_wp2_with fail
    refine (seSeal_any _ _ _ H7.out.is (by rw [superB_len]; decide) (superB_ok _ _) (superB_ne _ _)).mono ?_
    rintro e w8 ⟨u8, rfl, ho8, hb8⟩
    have H8 := Lib.hid (ho8.low (HBw.out.bl HB.out).size)
    have HB8 := Lib.hid ((HBw.out.bl HB.out).bl hb8)
    have HB9 := Lib.hid (HB.out.bl hb8)
    clear ho8 hb8
    go_wp2_with fail
    refine ⟨hS _ HB9.out, ?_⟩
    repeat (first | (refine wpWay_take rfl (by rfl) (by intro w hSw; (try dsimp only at hSw); first | (go_simp; done) | (go_simp; with_reducible rfl)) ?_; try simp only [Act.put, List.setIfInBounds_toArray, List.set_cons_zero, List.set_cons_succ]) | (refine wpWay_skip rfl (by rfl) ?_; try simp only [Act.put, List.setIfInBounds_toArray, List.set_cons_zero, List.set_cons_succ]))
    refine wpWay_done ?_
    go_wp2_with fail
    go_ret
    exact ⟨u8, rfl, H8.out, HB8.out⟩
  have H24 : ∀ (N : Nat) (x5 x6 : Value) (y : Nat → Value) (w1 : World), SI 5 2 4 w0 w1 N (fun i => [g, l, d, r, cells].getD i 0) x5 x6 y → W (.ev 15 (.ev 16 (.ev 17 (.ev 18 (.take 19 .done) .stop) .stop) .stop) .stop) { tmps := #[.agg #[.int .i64 g, .int .i64 l, .int .i64 d, .int .i64 r], .int .i64 cells, .pointer (some ⟨w.heap.size, 0, none⟩), undef, .slice none 0 0, x5, x6, .pointer (some ⟨w.heap.size, 0, none⟩), .int .i64 g, y 0, .pointer (some ⟨w.heap.size, 1, none⟩), .int .i64 l, y 1, .pointer (some ⟨w.heap.size, 2, none⟩), .int .i64 d, y 2, .pointer (some ⟨w.heap.size, 3, none⟩), .int .i64 r, y 3, .int .i64 cells, y 4, undef, undef, undef], defers := [] } w1 := by
    intro N x5 x6 y w1 hs
    rw [hW]
    refine wpWay_ev rfl (fun K hK => ?_) wpWay_stop
    go_wp2_with fail
    refine (fPut_any cells 4 _ (by decide) (by omega)).mono ?_
    rintro e w7 ⟨u, rfl, ho, hb⟩
    rw [show max 0 cells = cells by omega] at ho
    have q1 := hs.stepB hb ho
    go_wp2_with fail
    refine ⟨hS _ q1.bl, ?_⟩
    rw [← hW]
    exact H25 _ _ _ _ _ q1
  have H23 : ∀ (N : Nat) (x5 x6 : Value) (y : Nat → Value) (w1 : World), SI 5 2 3 w0 w1 N (fun i => [g, l, d, r, cells].getD i 0) x5 x6 y → W (.ev 13 (.ev 15 (.ev 16 (.ev 17 (.ev 18 (.take 19 .done) .stop) .stop) .stop) .stop) .stop) { tmps := #[.agg #[.int .i64 g, .int .i64 l, .int .i64 d, .int .i64 r], .int .i64 cells, .pointer (some ⟨w.heap.size, 0, none⟩), undef, .slice none 0 0, x5, x6, .pointer (some ⟨w.heap.size, 0, none⟩), .int .i64 g, y 0, .pointer (some ⟨w.heap.size, 1, none⟩), .int .i64 l, y 1, .pointer (some ⟨w.heap.size, 2, none⟩), .int .i64 d, y 2, .pointer (some ⟨w.heap.size, 3, none⟩), .int .i64 r, y 3, .int .i64 cells, y 4, undef, undef, undef], defers := [] } w1 := by
    intro N x5 x6 y w1 hs
    rw [hW]
    refine wpWay_ev rfl (fun K hK => ?_) wpWay_stop
    go_wp2_with fail
    refine (fPut_any r 4 _ (by decide) (by omega)).mono ?_
    rintro e w7 ⟨u, rfl, ho, hb⟩
    rw [show max 0 r = r by omega] at ho
    have q1 := hs.stepB hb ho
    go_wp2_with fail
    refine ⟨hS _ q1.bl, ?_⟩
    rw [← hW]
    exact H24 _ _ _ _ _ q1
  have H22 : ∀ (N : Nat) (x5 x6 : Value) (y : Nat → Value) (w1 : World), SI 5 2 2 w0 w1 N (fun i => [g, l, d, r, cells].getD i 0) x5 x6 y → W (.ev 10 (.ev 13 (.ev 15 (.ev 16 (.ev 17 (.ev 18 (.take 19 .done) .stop) .stop) .stop) .stop) .stop) .stop) { tmps := #[.agg #[.int .i64 g, .int .i64 l, .int .i64 d, .int .i64 r], .int .i64 cells, .pointer (some ⟨w.heap.size, 0, none⟩), undef, .slice none 0 0, x5, x6, .pointer (some ⟨w.heap.size, 0, none⟩), .int .i64 g, y 0, .pointer (some ⟨w.heap.size, 1, none⟩), .int .i64 l, y 1, .pointer (some ⟨w.heap.size, 2, none⟩), .int .i64 d, y 2, .pointer (some ⟨w.heap.size, 3, none⟩), .int .i64 r, y 3, .int .i64 cells, y 4, undef, undef, undef], defers := [] } w1 := by
    intro N x5 x6 y w1 hs
    rw [hW]
    refine wpWay_ev rfl (fun K hK => ?_) wpWay_stop
    go_wp2_with fail
    refine (fPut_any d 4 _ (by decide) (by omega)).mono ?_
    rintro e w7 ⟨u, rfl, ho, hb⟩
    rw [show max 0 d = d by omega] at ho
    have q1 := hs.stepB hb ho
    go_wp2_with fail
    refine ⟨hS _ q1.bl, ?_⟩
    rw [← hW]
    exact H23 _ _ _ _ _ q1
  have H21 : ∀ (N : Nat) (x5 x6 : Value) (y : Nat → Value) (w1 : World), SI 5 2 1 w0 w1 N (fun i => [g, l, d, r, cells].getD i 0) x5 x6 y → W (.ev 7 (.ev 10 (.ev 13 (.ev 15 (.ev 16 (.ev 17 (.ev 18 (.take 19 .done) .stop) .stop) .stop) .stop) .stop) .stop) .stop) { tmps := #[.agg #[.int .i64 g, .int .i64 l, .int .i64 d, .int .i64 r], .int .i64 cells, .pointer (some ⟨w.heap.size, 0, none⟩), undef, .slice none 0 0, x5, x6, .pointer (some ⟨w.heap.size, 0, none⟩), .int .i64 g, y 0, .pointer (some ⟨w.heap.size, 1, none⟩), .int .i64 l, y 1, .pointer (some ⟨w.heap.size, 2, none⟩), .int .i64 d, y 2, .pointer (some ⟨w.heap.size, 3, none⟩), .int .i64 r, y 3, .int .i64 cells, y 4, undef, undef, undef], defers := [] } w1 := by
    intro N x5 x6 y w1 hs
    rw [hW]
    refine wpWay_ev rfl (fun K hK => ?_) wpWay_stop
    go_wp2_with fail
    refine (fPut_any l 4 _ (by decide) (by omega)).mono ?_
    rintro e w7 ⟨u, rfl, ho, hb⟩
    rw [show max 0 l = l by omega] at ho
    have q1 := hs.stepB hb ho
    go_wp2_with fail
    refine ⟨hS _ q1.bl, ?_⟩
    rw [← hW]
    exact H22 _ _ _ _ _ q1
  have H20 : ∀ (N : Nat) (x5 x6 : Value) (y : Nat → Value) (w1 : World), SI 5 2 0 w0 w1 N (fun i => [g, l, d, r, cells].getD i 0) x5 x6 y → W (.ev 4 (.ev 7 (.ev 10 (.ev 13 (.ev 15 (.ev 16 (.ev 17 (.ev 18 (.take 19 .done) .stop) .stop) .stop) .stop) .stop) .stop) .stop) .stop) { tmps := #[.agg #[.int .i64 g, .int .i64 l, .int .i64 d, .int .i64 r], .int .i64 cells, .pointer (some ⟨w.heap.size, 0, none⟩), undef, .slice none 0 0, x5, x6, .pointer (some ⟨w.heap.size, 0, none⟩), .int .i64 g, y 0, .pointer (some ⟨w.heap.size, 1, none⟩), .int .i64 l, y 1, .pointer (some ⟨w.heap.size, 2, none⟩), .int .i64 d, y 2, .pointer (some ⟨w.heap.size, 3, none⟩), .int .i64 r, y 3, .int .i64 cells, y 4, undef, undef, undef], defers := [] } w1 := by
    intro N x5 x6 y w1 hs
    rw [hW]
    refine wpWay_ev rfl (fun K hK => ?_) wpWay_stop
    go_wp2_with fail
    refine (fPut_any g 4 _ (by decide) (by omega)).mono ?_
    rintro e w7 ⟨u, rfl, ho, hb⟩
    rw [show max 0 g = g by omega] at ho
    have q1 := hs.stepB hb ho
    go_wp2_with fail
    refine ⟨hS _ q1.bl, ?_⟩
    rw [← hW]
    exact H21 _ _ _ _ _ q1
  have H15 : ∀ (N : Nat) (x5 x6 : Value) (y : Nat → Value) (w1 : World), SI 5 1 5 w0 w1 N (fun i => [g, l, d, r, cells].getD i 0) x5 x6 y → W (.ev 1 (.ev 16 (.ev 17 (.ev 18 (.take 19 .done) .stop) .stop) .stop) .stop) { tmps := #[.agg #[.int .i64 g, .int .i64 l, .int .i64 d, .int .i64 r], .int .i64 cells, .pointer (some ⟨w.heap.size, 0, none⟩), undef, .slice none 0 0, x5, x6, .pointer (some ⟨w.heap.size, 0, none⟩), .int .i64 g, y 0, .pointer (some ⟨w.heap.size, 1, none⟩), .int .i64 l, y 1, .pointer (some ⟨w.heap.size, 2, none⟩), .int .i64 d, y 2, .pointer (some ⟨w.heap.size, 3, none⟩), .int .i64 r, y 3, .int .i64 cells, y 4, undef, undef, undef], defers := [] } w1 := by
    intro N x5 x6 y w1 hs
    rw [hW]
    refine wpWay_ev rfl (fun K hK => ?_) wpWay_stop
    have q1 := hs.stepA1
    obtain ⟨e5, -, -, fr, e6⟩ := hs.lit (Nat.le_refl _)
    subst e5
    have hcv := run_markRow (P := Tryz.prog) 25 5 Tryz.underlying25 Tryz.underlying5 e6 8 8
    clear e6
    go_wp2_with fail
    refine ⟨hS _ q1.bl, ?_⟩
    rw [← hW]
    exact H25 _ _ _ _ _ q1
  have H14 : ∀ (N : Nat) (x5 x6 : Value) (y : Nat → Value) (w1 : World), SI 5 1 4 w0 w1 N (fun i => [g, l, d, r, cells].getD i 0) x5 x6 y → W (.ev 1 (.ev 15 (.ev 16 (.ev 17 (.ev 18 (.take 19 .done) .stop) .stop) .stop) .stop) (.ev 15 (.ev 1 (.ev 16 (.ev 17 (.ev 18 (.take 19 .done) .stop) .stop) .stop) .stop) .stop)) { tmps := #[.agg #[.int .i64 g, .int .i64 l, .int .i64 d, .int .i64 r], .int .i64 cells, .pointer (some ⟨w.heap.size, 0, none⟩), undef, .slice none 0 0, x5, x6, .pointer (some ⟨w.heap.size, 0, none⟩), .int .i64 g, y 0, .pointer (some ⟨w.heap.size, 1, none⟩), .int .i64 l, y 1, .pointer (some ⟨w.heap.size, 2, none⟩), .int .i64 d, y 2, .pointer (some ⟨w.heap.size, 3, none⟩), .int .i64 r, y 3, .int .i64 cells, y 4, undef, undef, undef], defers := [] } w1 := by
    intro N x5 x6 y w1 hs
    rw [hW]
    refine wpWay_ev rfl (fun K hK => ?_) ?_
    · have q1 := hs.stepA1
      obtain ⟨e5, -, -, fr, e6⟩ := hs.lit (Nat.le_refl _)
      subst e5
      have hcv := run_markRow (P := Tryz.prog) 25 5 Tryz.underlying25 Tryz.underlying5 e6 8 8
      clear e6
      go_wp2_with fail
      refine ⟨hS _ q1.bl, ?_⟩
      rw [← hW]
      exact H24 _ _ _ _ _ q1
    · refine wpWay_ev rfl (fun K hK => ?_) wpWay_stop
      go_wp2_with fail
      refine (fPut_any cells 4 _ (by decide) (by omega)).mono ?_
      rintro e w7 ⟨u, rfl, ho, hb⟩
      rw [show max 0 cells = cells by omega] at ho
      have q1 := hs.stepB hb ho
      go_wp2_with fail
      refine ⟨hS _ q1.bl, ?_⟩
      rw [← hW]
      exact H15 _ _ _ _ _ q1
  have H13 : ∀ (N : Nat) (x5 x6 : Value) (y : Nat → Value) (w1 : World), SI 5 1 3 w0 w1 N (fun i => [g, l, d, r, cells].getD i 0) x5 x6 y → W (.ev 1 (.ev 13 (.ev 15 (.ev 16 (.ev 17 (.ev 18 (.take 19 .done) .stop) .stop) .stop) .stop) .stop) (.ev 13 (.ev 1 (.ev 15 (.ev 16 (.ev 17 (.ev 18 (.take 19 .done) .stop) .stop) .stop) .stop) (.ev 15 (.ev 1 (.ev 16 (.ev 17 (.ev 18 (.take 19 .done) .stop) .stop) .stop) .stop) .stop)) .stop)) { tmps := #[.agg #[.int .i64 g, .int .i64 l, .int .i64 d, .int .i64 r], .int .i64 cells, .pointer (some ⟨w.heap.size, 0, none⟩), undef, .slice none 0 0, x5, x6, .pointer (some ⟨w.heap.size, 0, none⟩), .int .i64 g, y 0, .pointer (some ⟨w.heap.size, 1, none⟩), .int .i64 l, y 1, .pointer (some ⟨w.heap.size, 2, none⟩), .int .i64 d, y 2, .pointer (some ⟨w.heap.size, 3, none⟩), .int .i64 r, y 3, .int .i64 cells, y 4, undef, undef, undef], defers := [] } w1 := by
    intro N x5 x6 y w1 hs
    rw [hW]
    refine wpWay_ev rfl (fun K hK => ?_) ?_
    · have q1 := hs.stepA1
      obtain ⟨e5, -, -, fr, e6⟩ := hs.lit (Nat.le_refl _)
      subst e5
      have hcv := run_markRow (P := Tryz.prog) 25 5 Tryz.underlying25 Tryz.underlying5 e6 8 8
      clear e6
      go_wp2_with fail
      refine ⟨hS _ q1.bl, ?_⟩
      rw [← hW]
      exact H23 _ _ _ _ _ q1
    · refine wpWay_ev rfl (fun K hK => ?_) wpWay_stop
      go_wp2_with fail
      refine (fPut_any r 4 _ (by decide) (by omega)).mono ?_
      rintro e w7 ⟨u, rfl, ho, hb⟩
      rw [show max 0 r = r by omega] at ho
      have q1 := hs.stepB hb ho
      go_wp2_with fail
      refine ⟨hS _ q1.bl, ?_⟩
      rw [← hW]
      exact H14 _ _ _ _ _ q1
  have H12 : ∀ (N : Nat) (x5 x6 : Value) (y : Nat → Value) (w1 : World), SI 5 1 2 w0 w1 N (fun i => [g, l, d, r, cells].getD i 0) x5 x6 y → W (.ev 1 (.ev 10 (.ev 13 (.ev 15 (.ev 16 (.ev 17 (.ev 18 (.take 19 .done) .stop) .stop) .stop) .stop) .stop) .stop) (.ev 10 (.ev 1 (.ev 13 (.ev 15 (.ev 16 (.ev 17 (.ev 18 (.take 19 .done) .stop) .stop) .stop) .stop) .stop) (.ev 13 (.ev 1 (.ev 15 (.ev 16 (.ev 17 (.ev 18 (.take 19 .done) .stop) .stop) .stop) .stop) (.ev 15 (.ev 1 (.ev 16 (.ev 17 (.ev 18 (.take 19 .done) .stop) .stop) .stop) .stop) .stop)) .stop)) .stop)) { tmps := #[.agg #[.int .i64 g, .int .i64 l, .int .i64 d, .int .i64 r], .int .i64 cells, .pointer (some ⟨w.heap.size, 0, none⟩), undef, .slice none 0 0, x5, x6, .pointer (some ⟨w.heap.size, 0, none⟩), .int .i64 g, y 0, .pointer (some ⟨w.heap.size, 1, none⟩), .int .i64 l, y 1, .pointer (some ⟨w.heap.size, 2, none⟩), .int .i64 d, y 2, .pointer (some ⟨w.heap.size, 3, none⟩), .int .i64 r, y 3, .int .i64 cells, y 4, undef, undef, undef], defers := [] } w1 := by
    intro N x5 x6 y w1 hs
    rw [hW]
    refine wpWay_ev rfl (fun K hK => ?_) ?_
    · have q1 := hs.stepA1
      obtain ⟨e5, -, -, fr, e6⟩ := hs.lit (Nat.le_refl _)
      subst e5
      have hcv := run_markRow (P := Tryz.prog) 25 5 Tryz.underlying25 Tryz.underlying5 e6 8 8
      clear e6
      go_wp2_with fail
      refine ⟨hS _ q1.bl, ?_⟩
      rw [← hW]
      exact H22 _ _ _ _ _ q1
    · refine wpWay_ev rfl (fun K hK => ?_) wpWay_stop
      go_wp2_with fail
      refine (fPut_any d 4 _ (by decide) (by omega)).mono ?_
      rintro e w7 ⟨u, rfl, ho, hb⟩
      rw [show max 0 d = d by omega] at ho
      have q1 := hs.stepB hb ho
      go_wp2_with fail
      refine ⟨hS _ q1.bl, ?_⟩
      rw [← hW]
      exact H13 _ _ _ _ _ q1
  have H11 : ∀ (N : Nat) (x5 x6 : Value) (y : Nat → Value) (w1 : World), SI 5 1 1 w0 w1 N (fun i => [g, l, d, r, cells].getD i 0) x5 x6 y → W (.ev 1 (.ev 7 (.ev 10 (.ev 13 (.ev 15 (.ev 16 (.ev 17 (.ev 18 (.take 19 .done) .stop) .stop) .stop) .stop) .stop) .stop) .stop) (.ev 7 (.ev 1 (.ev 10 (.ev 13 (.ev 15 (.ev 16 (.ev 17 (.ev 18 (.take 19 .done) .stop) .stop) .stop) .stop) .stop) .stop) (.ev 10 (.ev 1 (.ev 13 (.ev 15 (.ev 16 (.ev 17 (.ev 18 (.take 19 .done) .stop) .stop) .stop) .stop) .stop) (.ev 13 (.ev 1 (.ev 15 (.ev 16 (.ev 17 (.ev 18 (.take 19 .done) .stop) .stop) .stop) .stop) (.ev 15 (.ev 1 (.ev 16 (.ev 17 (.ev 18 (.take 19 .done) .stop) .stop) .stop) .stop) .stop)) .stop)) .stop)) .stop)) { tmps := #[.agg #[.int .i64 g, .int .i64 l, .int .i64 d, .int .i64 r], .int .i64 cells, .pointer (some ⟨w.heap.size, 0, none⟩), undef, .slice none 0 0, x5, x6, .pointer (some ⟨w.heap.size, 0, none⟩), .int .i64 g, y 0, .pointer (some ⟨w.heap.size, 1, none⟩), .int .i64 l, y 1, .pointer (some ⟨w.heap.size, 2, none⟩), .int .i64 d, y 2, .pointer (some ⟨w.heap.size, 3, none⟩), .int .i64 r, y 3, .int .i64 cells, y 4, undef, undef, undef], defers := [] } w1 := by
    intro N x5 x6 y w1 hs
    rw [hW]
    refine wpWay_ev rfl (fun K hK => ?_) ?_
    · have q1 := hs.stepA1
      obtain ⟨e5, -, -, fr, e6⟩ := hs.lit (Nat.le_refl _)
      subst e5
      have hcv := run_markRow (P := Tryz.prog) 25 5 Tryz.underlying25 Tryz.underlying5 e6 8 8
      clear e6
      go_wp2_with fail
      refine ⟨hS _ q1.bl, ?_⟩
      rw [← hW]
      exact H21 _ _ _ _ _ q1
    · refine wpWay_ev rfl (fun K hK => ?_) wpWay_stop
      go_wp2_with fail
      refine (fPut_any l 4 _ (by decide) (by omega)).mono ?_
      rintro e w7 ⟨u, rfl, ho, hb⟩
      rw [show max 0 l = l by omega] at ho
      have q1 := hs.stepB hb ho
      go_wp2_with fail
      refine ⟨hS _ q1.bl, ?_⟩
      rw [← hW]
      exact H12 _ _ _ _ _ q1
  have H10 : ∀ (N : Nat) (x5 x6 : Value) (y : Nat → Value) (w1 : World), SI 5 1 0 w0 w1 N (fun i => [g, l, d, r, cells].getD i 0) x5 x6 y → W (.ev 1 (.ev 4 (.ev 7 (.ev 10 (.ev 13 (.ev 15 (.ev 16 (.ev 17 (.ev 18 (.take 19 .done) .stop) .stop) .stop) .stop) .stop) .stop) .stop) .stop) (.ev 4 (.ev 1 (.ev 7 (.ev 10 (.ev 13 (.ev 15 (.ev 16 (.ev 17 (.ev 18 (.take 19 .done) .stop) .stop) .stop) .stop) .stop) .stop) .stop) (.ev 7 (.ev 1 (.ev 10 (.ev 13 (.ev 15 (.ev 16 (.ev 17 (.ev 18 (.take 19 .done) .stop) .stop) .stop) .stop) .stop) .stop) (.ev 10 (.ev 1 (.ev 13 (.ev 15 (.ev 16 (.ev 17 (.ev 18 (.take 19 .done) .stop) .stop) .stop) .stop) .stop) (.ev 13 (.ev 1 (.ev 15 (.ev 16 (.ev 17 (.ev 18 (.take 19 .done) .stop) .stop) .stop) .stop) (.ev 15 (.ev 1 (.ev 16 (.ev 17 (.ev 18 (.take 19 .done) .stop) .stop) .stop) .stop) .stop)) .stop)) .stop)) .stop)) .stop)) { tmps := #[.agg #[.int .i64 g, .int .i64 l, .int .i64 d, .int .i64 r], .int .i64 cells, .pointer (some ⟨w.heap.size, 0, none⟩), undef, .slice none 0 0, x5, x6, .pointer (some ⟨w.heap.size, 0, none⟩), .int .i64 g, y 0, .pointer (some ⟨w.heap.size, 1, none⟩), .int .i64 l, y 1, .pointer (some ⟨w.heap.size, 2, none⟩), .int .i64 d, y 2, .pointer (some ⟨w.heap.size, 3, none⟩), .int .i64 r, y 3, .int .i64 cells, y 4, undef, undef, undef], defers := [] } w1 := by
    intro N x5 x6 y w1 hs
    rw [hW]
    refine wpWay_ev rfl (fun K hK => ?_) ?_
    · have q1 := hs.stepA1
      obtain ⟨e5, -, -, fr, e6⟩ := hs.lit (Nat.le_refl _)
      subst e5
      have hcv := run_markRow (P := Tryz.prog) 25 5 Tryz.underlying25 Tryz.underlying5 e6 8 8
      clear e6
      go_wp2_with fail
      refine ⟨hS _ q1.bl, ?_⟩
      rw [← hW]
      exact H20 _ _ _ _ _ q1
    · refine wpWay_ev rfl (fun K hK => ?_) wpWay_stop
      go_wp2_with fail
      refine (fPut_any g 4 _ (by decide) (by omega)).mono ?_
      rintro e w7 ⟨u, rfl, ho, hb⟩
      rw [show max 0 g = g by omega] at ho
      have q1 := hs.stepB hb ho
      go_wp2_with fail
      refine ⟨hS _ q1.bl, ?_⟩
      rw [← hW]
      exact H11 _ _ _ _ _ q1
  have H05 : ∀ (N : Nat) (x5 x6 : Value) (y : Nat → Value) (w1 : World), SI 5 0 5 w0 w1 N (fun i => [g, l, d, r, cells].getD i 0) x5 x6 y → W (.ev 0 (.ev 1 (.ev 16 (.ev 17 (.ev 18 (.take 19 .done) .stop) .stop) .stop) .stop) .stop) { tmps := #[.agg #[.int .i64 g, .int .i64 l, .int .i64 d, .int .i64 r], .int .i64 cells, .pointer (some ⟨w.heap.size, 0, none⟩), undef, .slice none 0 0, x5, x6, .pointer (some ⟨w.heap.size, 0, none⟩), .int .i64 g, y 0, .pointer (some ⟨w.heap.size, 1, none⟩), .int .i64 l, y 1, .pointer (some ⟨w.heap.size, 2, none⟩), .int .i64 d, y 2, .pointer (some ⟨w.heap.size, 3, none⟩), .int .i64 r, y 3, .int .i64 cells, y 4, undef, undef, undef], defers := [] } w1 := by
    intro N x5 x6 y w1 hs
    rw [hW]
    refine wpWay_ev rfl (fun K hK => ?_) wpWay_stop
    have q1 := hs.stepA0
    go_wp2_with fail
    refine ⟨hS _ q1.bl, ?_⟩
    rw [← hW]
    exact H15 _ _ _ _ _ q1
  have H04 : ∀ (N : Nat) (x5 x6 : Value) (y : Nat → Value) (w1 : World), SI 5 0 4 w0 w1 N (fun i => [g, l, d, r, cells].getD i 0) x5 x6 y → W (.ev 0 (.ev 1 (.ev 15 (.ev 16 (.ev 17 (.ev 18 (.take 19 .done) .stop) .stop) .stop) .stop) (.ev 15 (.ev 1 (.ev 16 (.ev 17 (.ev 18 (.take 19 .done) .stop) .stop) .stop) .stop) .stop)) (.ev 15 (.ev 0 (.ev 1 (.ev 16 (.ev 17 (.ev 18 (.take 19 .done) .stop) .stop) .stop) .stop) .stop) .stop)) { tmps := #[.agg #[.int .i64 g, .int .i64 l, .int .i64 d, .int .i64 r], .int .i64 cells, .pointer (some ⟨w.heap.size, 0, none⟩), undef, .slice none 0 0, x5, x6, .pointer (some ⟨w.heap.size, 0, none⟩), .int .i64 g, y 0, .pointer (some ⟨w.heap.size, 1, none⟩), .int .i64 l, y 1, .pointer (some ⟨w.heap.size, 2, none⟩), .int .i64 d, y 2, .pointer (some ⟨w.heap.size, 3, none⟩), .int .i64 r, y 3, .int .i64 cells, y 4, undef, undef, undef], defers := [] } w1 := by
    intro N x5 x6 y w1 hs
    rw [hW]
    refine wpWay_ev rfl (fun K hK => ?_) ?_
    · have q1 := hs.stepA0
      go_wp2_with fail
      refine ⟨hS _ q1.bl, ?_⟩
      rw [← hW]
      exact H14 _ _ _ _ _ q1
    · refine wpWay_ev rfl (fun K hK => ?_) wpWay_stop
      go_wp2_with fail
      refine (fPut_any cells 4 _ (by decide) (by omega)).mono ?_
      rintro e w7 ⟨u, rfl, ho, hb⟩
      rw [show max 0 cells = cells by omega] at ho
      have q1 := hs.stepB hb ho
      go_wp2_with fail
      refine ⟨hS _ q1.bl, ?_⟩
      rw [← hW]
      exact H05 _ _ _ _ _ q1
  have H03 : ∀ (N : Nat) (x5 x6 : Value) (y : Nat → Value) (w1 : World), SI 5 0 3 w0 w1 N (fun i => [g, l, d, r, cells].getD i 0) x5 x6 y → W (.ev 0 (.ev 1 (.ev 13 (.ev 15 (.ev 16 (.ev 17 (.ev 18 (.take 19 .done) .stop) .stop) .stop) .stop) .stop) (.ev 13 (.ev 1 (.ev 15 (.ev 16 (.ev 17 (.ev 18 (.take 19 .done) .stop) .stop) .stop) .stop) (.ev 15 (.ev 1 (.ev 16 (.ev 17 (.ev 18 (.take 19 .done) .stop) .stop) .stop) .stop) .stop)) .stop)) (.ev 13 (.ev 0 (.ev 1 (.ev 15 (.ev 16 (.ev 17 (.ev 18 (.take 19 .done) .stop) .stop) .stop) .stop) (.ev 15 (.ev 1 (.ev 16 (.ev 17 (.ev 18 (.take 19 .done) .stop) .stop) .stop) .stop) .stop)) (.ev 15 (.ev 0 (.ev 1 (.ev 16 (.ev 17 (.ev 18 (.take 19 .done) .stop) .stop) .stop) .stop) .stop) .stop)) .stop)) { tmps := #[.agg #[.int .i64 g, .int .i64 l, .int .i64 d, .int .i64 r], .int .i64 cells, .pointer (some ⟨w.heap.size, 0, none⟩), undef, .slice none 0 0, x5, x6, .pointer (some ⟨w.heap.size, 0, none⟩), .int .i64 g, y 0, .pointer (some ⟨w.heap.size, 1, none⟩), .int .i64 l, y 1, .pointer (some ⟨w.heap.size, 2, none⟩), .int .i64 d, y 2, .pointer (some ⟨w.heap.size, 3, none⟩), .int .i64 r, y 3, .int .i64 cells, y 4, undef, undef, undef], defers := [] } w1 := by
    intro N x5 x6 y w1 hs
    rw [hW]
    refine wpWay_ev rfl (fun K hK => ?_) ?_
    · have q1 := hs.stepA0
      go_wp2_with fail
      refine ⟨hS _ q1.bl, ?_⟩
      rw [← hW]
      exact H13 _ _ _ _ _ q1
    · refine wpWay_ev rfl (fun K hK => ?_) wpWay_stop
      go_wp2_with fail
      refine (fPut_any r 4 _ (by decide) (by omega)).mono ?_
      rintro e w7 ⟨u, rfl, ho, hb⟩
      rw [show max 0 r = r by omega] at ho
      have q1 := hs.stepB hb ho
      go_wp2_with fail
      refine ⟨hS _ q1.bl, ?_⟩
      rw [← hW]
      exact H04 _ _ _ _ _ q1
  have H02 : ∀ (N : Nat) (x5 x6 : Value) (y : Nat → Value) (w1 : World), SI 5 0 2 w0 w1 N (fun i => [g, l, d, r, cells].getD i 0) x5 x6 y → W (.ev 0 (.ev 1 (.ev 10 (.ev 13 (.ev 15 (.ev 16 (.ev 17 (.ev 18 (.take 19 .done) .stop) .stop) .stop) .stop) .stop) .stop) (.ev 10 (.ev 1 (.ev 13 (.ev 15 (.ev 16 (.ev 17 (.ev 18 (.take 19 .done) .stop) .stop) .stop) .stop) .stop) (.ev 13 (.ev 1 (.ev 15 (.ev 16 (.ev 17 (.ev 18 (.take 19 .done) .stop) .stop) .stop) .stop) (.ev 15 (.ev 1 (.ev 16 (.ev 17 (.ev 18 (.take 19 .done) .stop) .stop) .stop) .stop) .stop)) .stop)) .stop)) (.ev 10 (.ev 0 (.ev 1 (.ev 13 (.ev 15 (.ev 16 (.ev 17 (.ev 18 (.take 19 .done) .stop) .stop) .stop) .stop) .stop) (.ev 13 (.ev 1 (.ev 15 (.ev 16 (.ev 17 (.ev 18 (.take 19 .done) .stop) .stop) .stop) .stop) (.ev 15 (.ev 1 (.ev 16 (.ev 17 (.ev 18 (.take 19 .done) .stop) .stop) .stop) .stop) .stop)) .stop)) (.ev 13 (.ev 0 (.ev 1 (.ev 15 (.ev 16 (.ev 17 (.ev 18 (.take 19 .done) .stop) .stop) .stop) .stop) (.ev 15 (.ev 1 (.ev 16 (.ev 17 (.ev 18 (.take 19 .done) .stop) .stop) .stop) .stop) .stop)) (.ev 15 (.ev 0 (.ev 1 (.ev 16 (.ev 17 (.ev 18 (.take 19 .done) .stop) .stop) .stop) .stop) .stop) .stop)) .stop)) .stop)) { tmps := #[.agg #[.int .i64 g, .int .i64 l, .int .i64 d, .int .i64 r], .int .i64 cells, .pointer (some ⟨w.heap.size, 0, none⟩), undef, .slice none 0 0, x5, x6, .pointer (some ⟨w.heap.size, 0, none⟩), .int .i64 g, y 0, .pointer (some ⟨w.heap.size, 1, none⟩), .int .i64 l, y 1, .pointer (some ⟨w.heap.size, 2, none⟩), .int .i64 d, y 2, .pointer (some ⟨w.heap.size, 3, none⟩), .int .i64 r, y 3, .int .i64 cells, y 4, undef, undef, undef], defers := [] } w1 := by
    intro N x5 x6 y w1 hs
    rw [hW]
    refine wpWay_ev rfl (fun K hK => ?_) ?_
    · have q1 := hs.stepA0
      go_wp2_with fail
      refine ⟨hS _ q1.bl, ?_⟩
      rw [← hW]
      exact H12 _ _ _ _ _ q1
    · refine wpWay_ev rfl (fun K hK => ?_) wpWay_stop
      go_wp2_with fail
      refine (fPut_any d 4 _ (by decide) (by omega)).mono ?_
      rintro e w7 ⟨u, rfl, ho, hb⟩
      rw [show max 0 d = d by omega] at ho
      have q1 := hs.stepB hb ho
      go_wp2_with fail
      refine ⟨hS _ q1.bl, ?_⟩
      rw [← hW]
      exact H03 _ _ _ _ _ q1
  have H01 : ∀ (N : Nat) (x5 x6 : Value) (y : Nat → Value) (w1 : World), SI 5 0 1 w0 w1 N (fun i => [g, l, d, r, cells].getD i 0) x5 x6 y → W (.ev 0 (.ev 1 (.ev 7 (.ev 10 (.ev 13 (.ev 15 (.ev 16 (.ev 17 (.ev 18 (.take 19 .done) .stop) .stop) .stop) .stop) .stop) .stop) .stop) (.ev 7 (.ev 1 (.ev 10 (.ev 13 (.ev 15 (.ev 16 (.ev 17 (.ev 18 (.take 19 .done) .stop) .stop) .stop) .stop) .stop) .stop) (.ev 10 (.ev 1 (.ev 13 (.ev 15 (.ev 16 (.ev 17 (.ev 18 (.take 19 .done) .stop) .stop) .stop) .stop) .stop) (.ev 13 (.ev 1 (.ev 15 (.ev 16 (.ev 17 (.ev 18 (.take 19 .done) .stop) .stop) .stop) .stop) (.ev 15 (.ev 1 (.ev 16 (.ev 17 (.ev 18 (.take 19 .done) .stop) .stop) .stop) .stop) .stop)) .stop)) .stop)) .stop)) (.ev 7 (.ev 0 (.ev 1 (.ev 10 (.ev 13 (.ev 15 (.ev 16 (.ev 17 (.ev 18 (.take 19 .done) .stop) .stop) .stop) .stop) .stop) .stop) (.ev 10 (.ev 1 (.ev 13 (.ev 15 (.ev 16 (.ev 17 (.ev 18 (.take 19 .done) .stop) .stop) .stop) .stop) .stop) (.ev 13 (.ev 1 (.ev 15 (.ev 16 (.ev 17 (.ev 18 (.take 19 .done) .stop) .stop) .stop) .stop) (.ev 15 (.ev 1 (.ev 16 (.ev 17 (.ev 18 (.take 19 .done) .stop) .stop) .stop) .stop) .stop)) .stop)) .stop)) (.ev 10 (.ev 0 (.ev 1 (.ev 13 (.ev 15 (.ev 16 (.ev 17 (.ev 18 (.take 19 .done) .stop) .stop) .stop) .stop) .stop) (.ev 13 (.ev 1 (.ev 15 (.ev 16 (.ev 17 (.ev 18 (.take 19 .done) .stop) .stop) .stop) .stop) (.ev 15 (.ev 1 (.ev 16 (.ev 17 (.ev 18 (.take 19 .done) .stop) .stop) .stop) .stop) .stop)) .stop)) (.ev 13 (.ev 0 (.ev 1 (.ev 15 (.ev 16 (.ev 17 (.ev 18 (.take 19 .done) .stop) .stop) .stop) .stop) (.ev 15 (.ev 1 (.ev 16 (.ev 17 (.ev 18 (.take 19 .done) .stop) .stop) .stop) .stop) .stop)) (.ev 15 (.ev 0 (.ev 1 (.ev 16 (.ev 17 (.ev 18 (.take 19 .done) .stop) .stop) .stop) .stop) .stop) .stop)) .stop)) .stop)) .stop)) { tmps := #[.agg #[.int .i64 g, .int .i64 l, .int .i64 d, .int .i64 r], .int .i64 cells, .pointer (some ⟨w.heap.size, 0, none⟩), undef, .slice none 0 0, x5, x6, .pointer (some ⟨w.heap.size, 0, none⟩), .int .i64 g, y 0, .pointer (some ⟨w.heap.size, 1, none⟩), .int .i64 l, y 1, .pointer (some ⟨w.heap.size, 2, none⟩), .int .i64 d, y 2, .pointer (some ⟨w.heap.size, 3, none⟩), .int .i64 r, y 3, .int .i64 cells, y 4, undef, undef, undef], defers := [] } w1 := by
    intro N x5 x6 y w1 hs
    rw [hW]
    refine wpWay_ev rfl (fun K hK => ?_) ?_
    · have q1 := hs.stepA0
      go_wp2_with fail
      refine ⟨hS _ q1.bl, ?_⟩
      rw [← hW]
      exact H11 _ _ _ _ _ q1
    · refine wpWay_ev rfl (fun K hK => ?_) wpWay_stop
      go_wp2_with fail
      refine (fPut_any l 4 _ (by decide) (by omega)).mono ?_
      rintro e w7 ⟨u, rfl, ho, hb⟩
      rw [show max 0 l = l by omega] at ho
      have q1 := hs.stepB hb ho
      go_wp2_with fail
      refine ⟨hS _ q1.bl, ?_⟩
      rw [← hW]
      exact H02 _ _ _ _ _ q1
  have H00 : ∀ (N : Nat) (x5 x6 : Value) (y : Nat → Value) (w1 : World), SI 5 0 0 w0 w1 N (fun i => [g, l, d, r, cells].getD i 0) x5 x6 y → W (.ev 0 (.ev 1 (.ev 4 (.ev 7 (.ev 10 (.ev 13 (.ev 15 (.ev 16 (.ev 17 (.ev 18 (.take 19 .done) .stop) .stop) .stop) .stop) .stop) .stop) .stop) .stop) (.ev 4 (.ev 1 (.ev 7 (.ev 10 (.ev 13 (.ev 15 (.ev 16 (.ev 17 (.ev 18 (.take 19 .done) .stop) .stop) .stop) .stop) .stop) .stop) .stop) (.ev 7 (.ev 1 (.ev 10 (.ev 13 (.ev 15 (.ev 16 (.ev 17 (.ev 18 (.take 19 .done) .stop) .stop) .stop) .stop) .stop) .stop) (.ev 10 (.ev 1 (.ev 13 (.ev 15 (.ev 16 (.ev 17 (.ev 18 (.take 19 .done) .stop) .stop) .stop) .stop) .stop) (.ev 13 (.ev 1 (.ev 15 (.ev 16 (.ev 17 (.ev 18 (.take 19 .done) .stop) .stop) .stop) .stop) (.ev 15 (.ev 1 (.ev 16 (.ev 17 (.ev 18 (.take 19 .done) .stop) .stop) .stop) .stop) .stop)) .stop)) .stop)) .stop)) .stop)) (.ev 4 (.ev 0 (.ev 1 (.ev 7 (.ev 10 (.ev 13 (.ev 15 (.ev 16 (.ev 17 (.ev 18 (.take 19 .done) .stop) .stop) .stop) .stop) .stop) .stop) .stop) (.ev 7 (.ev 1 (.ev 10 (.ev 13 (.ev 15 (.ev 16 (.ev 17 (.ev 18 (.take 19 .done) .stop) .stop) .stop) .stop) .stop) .stop) (.ev 10 (.ev 1 (.ev 13 (.ev 15 (.ev 16 (.ev 17 (.ev 18 (.take 19 .done) .stop) .stop) .stop) .stop) .stop) (.ev 13 (.ev 1 (.ev 15 (.ev 16 (.ev 17 (.ev 18 (.take 19 .done) .stop) .stop) .stop) .stop) (.ev 15 (.ev 1 (.ev 16 (.ev 17 (.ev 18 (.take 19 .done) .stop) .stop) .stop) .stop) .stop)) .stop)) .stop)) .stop)) (.ev 7 (.ev 0 (.ev 1 (.ev 10 (.ev 13 (.ev 15 (.ev 16 (.ev 17 (.ev 18 (.take 19 .done) .stop) .stop) .stop) .stop) .stop) .stop) (.ev 10 (.ev 1 (.ev 13 (.ev 15 (.ev 16 (.ev 17 (.ev 18 (.take 19 .done) .stop) .stop) .stop) .stop) .stop) (.ev 13 (.ev 1 (.ev 15 (.ev 16 (.ev 17 (.ev 18 (.take 19 .done) .stop) .stop) .stop) .stop) (.ev 15 (.ev 1 (.ev 16 (.ev 17 (.ev 18 (.take 19 .done) .stop) .stop) .stop) .stop) .stop)) .stop)) .stop)) (.ev 10 (.ev 0 (.ev 1 (.ev 13 (.ev 15 (.ev 16 (.ev 17 (.ev 18 (.take 19 .done) .stop) .stop) .stop) .stop) .stop) (.ev 13 (.ev 1 (.ev 15 (.ev 16 (.ev 17 (.ev 18 (.take 19 .done) .stop) .stop) .stop) .stop) (.ev 15 (.ev 1 (.ev 16 (.ev 17 (.ev 18 (.take 19 .done) .stop) .stop) .stop) .stop) .stop)) .stop)) (.ev 13 (.ev 0 (.ev 1 (.ev 15 (.ev 16 (.ev 17 (.ev 18 (.take 19 .done) .stop) .stop) .stop) .stop) (.ev 15 (.ev 1 (.ev 16 (.ev 17 (.ev 18 (.take 19 .done) .stop) .stop) .stop) .stop) .stop)) (.ev 15 (.ev 0 (.ev 1 (.ev 16 (.ev 17 (.ev 18 (.take 19 .done) .stop) .stop) .stop) .stop) .stop) .stop)) .stop)) .stop)) .stop)) .stop)) { tmps := #[.agg #[.int .i64 g, .int .i64 l, .int .i64 d, .int .i64 r], .int .i64 cells, .pointer (some ⟨w.heap.size, 0, none⟩), undef, .slice none 0 0, x5, x6, .pointer (some ⟨w.heap.size, 0, none⟩), .int .i64 g, y 0, .pointer (some ⟨w.heap.size, 1, none⟩), .int .i64 l, y 1, .pointer (some ⟨w.heap.size, 2, none⟩), .int .i64 d, y 2, .pointer (some ⟨w.heap.size, 3, none⟩), .int .i64 r, y 3, .int .i64 cells, y 4, undef, undef, undef], defers := [] } w1 := by
    intro N x5 x6 y w1 hs
    rw [hW]
    refine wpWay_ev rfl (fun K hK => ?_) ?_
    · have q1 := hs.stepA0
      go_wp2_with fail
      refine ⟨hS _ q1.bl, ?_⟩
      rw [← hW]
      exact H10 _ _ _ _ _ q1
    · refine wpWay_ev rfl (fun K hK => ?_) wpWay_stop
      go_wp2_with fail
      refine (fPut_any g 4 _ (by decide) (by omega)).mono ?_
      rintro e w7 ⟨u, rfl, ho, hb⟩
      rw [show max 0 g = g by omega] at ho
      have q1 := hs.stepB hb ho
      go_wp2_with fail
      refine ⟨hS _ q1.bl, ?_⟩
      rw [← hW]
      exact H01 _ _ _ _ _ q1
  exact H00 0 _ _ (fun _ => undef) _ ⟨Bl.refl _, fun q => by omega, fun q => by omega, fun i hi => by omega⟩
end Go.Proofs.YtoocebghlchcoaaGreat.ExtW
