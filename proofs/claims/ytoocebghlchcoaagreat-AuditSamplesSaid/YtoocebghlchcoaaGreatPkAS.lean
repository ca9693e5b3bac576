/- Several texts joined (see each one's head). -/
import Derived.Test.YtoocebghlchcoaaGreatPkAR
import Derived.Test.YtoocebghlchcoaaGreatPkAG
import Derived.Deep.MidRow
import Derived.Great.FillDense
import Derived.Great.BuildSlice
/- Contracts of super: Unpack, Choose. -/
namespace Go.Proofs.YtoocebghlchcoaaGreat.ExtW
open Go.RowKit Go.Ov Go.Proofs.YtoocebghlchcoaaGreat.Need

theorem cells5 {w : World} {g c2 : Nat} {a b c d e : Int} (h : intE.Is w (.slice (some ⟨g, 0, none⟩) 5 c2) [a, b, c, d, e]) :
    w.cell? ⟨g, 0, none⟩ = some (.int .i64 a) ∧ w.cell? ⟨g, 1, none⟩ = some (.int .i64 b) ∧ w.cell? ⟨g, 2, none⟩ = some (.int .i64 c) ∧ w.cell? ⟨g, 3, none⟩ = some (.int .i64 d) ∧ w.cell? ⟨g, 4, none⟩ = some (.int .i64 e) := by
  obtain ⟨_, _, e1, _, _, _, hat⟩ := h
  simp only [Value.slice.injEq] at e1
  obtain ⟨rfl, -, -⟩ := e1
  have key : ∀ k (hk : k < 5), w.cell? ⟨g, k, none⟩ = some (.int .i64 ([a, b, c, d, e][k])) := fun k hk => by
    obtain ⟨_, e', t⟩ := int_at hat k hk
    injection e' with e'
    subst e'
    rwa [addr_add0] at t
  exact ⟨key 0 (by decide), key 1 (by decide), key 2 (by decide), key 3 (by decide), key 4 (by decide)⟩
def supV (s : SuperM) : Value := .agg #[.int .i64 s.gen, .int .i64 s.life, .int .i64 s.done, .int .i64 s.root]
def UnpP (w w' : World) (l : List Int) (e : Ending) : Prop := Bl w w' ∧ match unpackSuper l with
  | some (s, c) => e = .returned (.tuple #[supV s, .int .i64 c, .bool true])
  | none => e = .returned (.tuple #[.agg #[.int .i64 0, .int .i64 0, .int .i64 0, .int .i64 0], .int .i64 0, .bool false])
theorem unp_none {l : List Int} (h : whole l = false) : unpackSuper l = none := by unfold unpackSuper; rw [if_neg (by rw [h]; decide)]
theorem take5 (m : List Int) (h : 20 ≤ m.length) : ∃ a b c d e, takeF m [4, 4, 4, 4, 4] = some [a, b, c, d, e] ∧ (okB m → (0 ≤ a ∧ a < 1099511627776) ∧ (0 ≤ b ∧ b < 1099511627776) ∧ (0 ≤ c ∧ c < 1099511627776) ∧ (0 ≤ d ∧ d < 1099511627776) ∧ (0 ≤ e ∧ e < 1099511627776)) := by
  refine ⟨_, _, _, _, _, by
    unfold takeF; rw [if_neg (by omega)]
    unfold takeF; rw [if_neg (by rw [List.length_drop]; omega)]
    unfold takeF; rw [if_neg (by rw [List.length_drop, List.length_drop]; omega)]
    unfold takeF; rw [if_neg (by rw [List.length_drop, List.length_drop, List.length_drop]; omega)]
    unfold takeF; rw [if_neg (by rw [List.length_drop, List.length_drop, List.length_drop, List.length_drop]; omega)]
    unfold takeF; rfl, fun h => ⟨get_small _ (h.take _) ?_, get_small _ ((h.drop _).take _) ?_, get_small _ (((h.drop _).drop _).take _) ?_, get_small _ ((((h.drop _).drop _).drop _).take _) ?_, get_small _ (((((h.drop _).drop _).drop _).drop _).take _) ?_⟩⟩ <;> (rw [List.length_take]; omega)
set_option maxRecDepth 100000 in
set_option maxHeartbeats 4000000 in
theorem suUnpack_any (vb : Value) (l : List Int) (w : World) (hb : byteE.Is w vb l) (hl : l.length ≤ 1000000) (ho : okB l) :
    Calls Tryz.prog 109 #[vb] w fun e w' => UnpP w w' l e := by
  have HX := Lib.hid hb
  have HO := Lib.hid ho
  clear hb ho
  go_enter Tryz.func109, Tryz.ntmps109
  go_wp2_with fail
  refine (seOpen_any vb l _ (HX.out.bl ((Bl.refl _).alloc _)) hl HO.out).mono ?_
  rintro e w1 ⟨hb1, u, rfl, hu⟩
  have HB1 := Lib.hid (((Bl.refl w).alloc _).bl hb1)
  have HR := Lib.hid ((Blk.new w #[.int .i64 0, .int .i64 0, .int .i64 0, .int .i64 0] 71).bl hb1)
  obtain ⟨R, hR⟩ : ∃ R, R = w.heap.size := ⟨_, rfl⟩
  rw [← hR] at HR ⊢
  have HRs := Lib.hid hR
  have HU := Lib.hid hu
  clear hb1 hu hR
  have r0 := HR.out.cell 0
  have r1 := HR.out.cell 1
  have r2 := HR.out.cell 2
  have r3 := HR.out.cell 3
  have f0 := HR.out.frozen 0
  have f1 := HR.out.frozen 1
  have f2 := HR.out.frozen 2
  have f3 := HR.out.frozen 3
  simp at r0 r1 r2 r3
  cases hw : whole l
  · have HN := Lib.hid (unp_none hw)
    go_wp2
    have HF := Lib.hid ((((HR.out.set 0 (.int .i64 0)).set 1 (.int .i64 0)).set 2 (.int .i64 0)).set 3 (.int .i64 0))
    have HB2 := Lib.hid ((((HB1.out.grown (setCell_grown _ R 0 (.int .i64 0)) (fun k hk => by injection hk with hk; rw [← hk, HRs.out]; exact Nat.le_refl _)).grown (setCell_grown _ R 1 (.int .i64 0)) (fun k hk => by injection hk with hk; rw [← hk, HRs.out]; exact Nat.le_refl _)).grown (setCell_grown _ R 2 (.int .i64 0)) (fun k hk => by injection hk with hk; rw [← hk, HRs.out]; exact Nat.le_refl _)).grown (setCell_grown _ R 3 (.int .i64 0)) (fun k hk => by injection hk with hk; rw [← hk, HRs.out]; exact Nat.le_refl _))
    try simp only [Exit.inBlock, Exit.then]
    refine bodyPost_ret (results_cell3 rfl _ rfl HF.out Tryz.underlying71 rfl (by kernel_rfl)) rfl ?_
    refine ⟨HB2.out, ?_⟩
    rw [HN.out]
    rfl
  · have hu := HU.out hw
    have hlen : (l.take 124).length = 124 := by
      have h1 := hw
      unfold whole at h1
      simp at h1
      rw [List.length_take]; omega
    have HLn := Lib.hid (show l.length = 128 by have h1 := hw; unfold whole at h1; simp at h1; exact h1.1)
    have HM := Lib.hid (show okB (l.take 124) from HO.out.take _)
    have HU2 := Lib.hid hu
    obtain ⟨A, c, rfl⟩ := hu.slice
    obtain ⟨m, hm⟩ : ∃ m, m = l.take 124 := ⟨_, rfl⟩
    rw [← hm] at hlen HM HU2 ⊢
    have HMe := Lib.hid hm
    have HMl := Lib.hid hlen
    obtain ⟨V1, hV1, hI1⟩ := slice_l (E := byteE) (P := Tryz.prog) (t := 25) (by kernel_rfl) (fun w => by kernel_rfl) A c m 8 (by omega) (by omega)
    have HV1 := Lib.hid (show byteE.Is w1 V1 (m.drop 8) from hI1 _ HU2.out.is)
    obtain ⟨a, b, cc, d, e, ht, hbd⟩ := take5 (m.drop 8) (by rw [List.length_drop]; omega)
    have HT := Lib.hid ht
    have hbd := hbd (HM.out.drop 8)
    obtain ⟨n, hn⟩ : ∃ n, n = m.length := ⟨_, rfl⟩
    rw [← hn] at hlen hV1 ⊢
    subst hlen
    clear hu hm hI1 ht HU hn
    go_wp2_with fail
    have HLit := Lib.hid (show intE.Own 3 (w1.alloc (.cells #[.int .i64 4, .int .i64 4, .int .i64 4, .int .i64 4, .int .i64 4] 3)) 0 (.slice (some ⟨w1.heap.size, 0, none⟩) 5 5) ([4, 4, 4, 4, 4] : List Int) from Enc.Own.lit _ _ _ _ rfl 5 rfl (Nat.zero_le _) (by decide) rfl)
    have hb := (Bl.refl w1).alloc (.cells #[.int .i64 4, .int .i64 4, .int .i64 4, .int .i64 4, .int .i64 4] 3)
    refine (fTake_any _ _ (m.drop 8) [4, 4, 4, 4, 4] _ (HV1.out.bl hb) HLit.out.is (HM.out.drop 8) (by have := HMl.out; rw [List.length_drop]; omega) (by decide) (by decide)).mono ?_
    rintro e2 w2 ⟨hb2, hk⟩
    rw [HT.out] at hk
    obtain ⟨ut, rfl, hot⟩ := hk
    have HB2 := Lib.hid ((HB1.out.bl hb).bl hb2)
    have HR2 := Lib.hid ((HR.out.bl hb).bl hb2)
    have HOt := Lib.hid hot
    obtain ⟨ga, c2, rfl⟩ : ∃ g c, ut = .slice (some ⟨g, 0, none⟩) 5 c := by
      rcases hot.2 with ⟨_, e⟩ | ⟨g, c, _, e, _⟩
      · simp at e
      · exact ⟨g, c, e⟩
    have HC5 := Lib.hid (cells5 hot.is)
    have HneR := Lib.hid (show ga ≠ R from fun q => by
      have h1 := (hot.lt ga rfl).1
      have h2 := HB1.out.size
      have h3 := hb.size
      have h4 := HR.out.lt
      omega)
    clear hb hb2 hot r0 r1 r2 r3 f0 f1 f2 f3
    have r0 := HR2.out.cell 0
    have r1 := HR2.out.cell 1
    have r2 := HR2.out.cell 2
    have r3 := HR2.out.cell 3
    have f0 := HR2.out.frozen 0
    have f1 := HR2.out.frozen 1
    have f2 := HR2.out.frozen 2
    have f3 := HR2.out.frozen 3
    simp at r0 r1 r2 r3
    have b0 := hbd.1
    go_wp2_with fail
    refine wp_region_ways (S := (fun w' => w'.cell? ⟨ga, 0, none⟩ = some (.int .i64 a) ∧ w'.cell? ⟨ga, 1, none⟩ = some (.int .i64 b) ∧ w'.cell? ⟨ga, 2, none⟩ = some (.int .i64 cc) ∧ w'.cell? ⟨ga, 3, none⟩ = some (.int .i64 d) ∧ w'.cell? ⟨ga, 4, none⟩ = some (.int .i64 e))) [0, 1, 2, 3, 4, 5, 6, 7, 8, 9, 10, 11, 12, 13, 14, 15, 17] (y := .take 0 (.take 1 (.take 2 (.take 3 (.take 4 (.take 5 (.take 6 (.take 7 (.take 8 (.take 9 (.take 10 (.take 11 (.take 12 (.take 13 (.take 14 (.take 15 (.ev 16 (.take 17 (.done)) (.stop)))))))))))))))))) (by kernel_rfl) (by kernel_rfl) (by kernel_rfl) ?_ (fun hHeld => ?_)
    · exact HC5.out
    clear hHeld
    repeat (first | (refine wpWay_take rfl (by rfl) (by intro w hSw; (try dsimp only at hSw); first | (go_simp; done) | (go_simp; with_reducible rfl)) ?_; try simp only [Act.put, List.setIfInBounds_toArray, List.set_cons_zero, List.set_cons_succ]) | (refine wpWay_skip rfl (by rfl) ?_; try simp only [Act.put, List.setIfInBounds_toArray, List.set_cons_zero, List.set_cons_succ]))
    refine wpWay_ev rfl (fun K hK => ?_) wpWay_stop
    go_wp2_with fail
    obtain ⟨w3, hw3⟩ : ∃ w3, w3 = ((((w2.setCell ⟨R, 0, none⟩ (.int .i64 a)).setCell ⟨R, 1, none⟩ (.int .i64 b)).setCell ⟨R, 2, none⟩ (.int .i64 cc)).setCell ⟨R, 3, none⟩ (.int .i64 d)).drew := ⟨_, rfl⟩
    rw [← hw3]
    have HR3 := Lib.hid (show Blk w3 R #[.int .i64 a, .int .i64 b, .int .i64 cc, .int .i64 d] 71 by rw [hw3]; exact (((((HR2.out.set 0 (.int .i64 a)).set 1 (.int .i64 b)).set 2 (.int .i64 cc)).set 3 (.int .i64 d)).bl (Bl.refl _).drew))
    have HC3 := Lib.hid (show intE.Own 3 w3 0 (.slice (some ⟨ga, 0, none⟩) 5 c2) [a, b, cc, d, e] by
      have hn : ∀ j, (some ga : Option Nat) = none ∨ (some ga : Option Nat) ≠ some j → True := fun _ _ => trivial
      have hne : (Value.slice (some ⟨ga, 0, none⟩) 5 c2).ownBlock = none ∨ (Value.slice (some ⟨ga, 0, none⟩) 5 c2).ownBlock ≠ some R := .inr fun q => HneR.out (Option.some.inj q)
      rw [hw3]
      exact ((((((HOt.out.low (Nat.zero_le _)).grown (setCell_grown _ R 0 (.int .i64 a)) hne).grown (setCell_grown _ R 1 (.int .i64 b)) hne).grown (setCell_grown _ R 2 (.int .i64 cc)) hne).grown (setCell_grown _ R 3 (.int .i64 d)) hne).bl (Bl.refl _).drew))
    have hge : ∀ k, (some R : Option Nat) = some k → w.heap.size ≤ k := fun k hk => by injection hk with hk; rw [← hk, HRs.out]; exact Nat.le_refl _
    have HB3 := Lib.hid (show Bl w w3 by rw [hw3]; exact ((((HB2.out.grown (setCell_grown _ R 0 (.int .i64 a)) hge).grown (setCell_grown _ R 1 (.int .i64 b)) hge).grown (setCell_grown _ R 2 (.int .i64 cc)) hge).grown (setCell_grown _ R 3 (.int .i64 d)) hge).drew)
    refine ⟨cells5 HC3.out.is, ?_⟩
    clear hw3 r0 r1 r2 r3 f0 f1 f2 f3 HC5 HOt HR2 HB2 HLit
    repeat (first | (refine wpWay_take rfl (by rfl) (by intro w hSw; (try dsimp only at hSw); first | (go_simp; done) | (go_simp; with_reducible rfl)) ?_; try simp only [Act.put, List.setIfInBounds_toArray, List.set_cons_zero, List.set_cons_succ]) | (refine wpWay_skip rfl (by rfl) ?_; try simp only [Act.put, List.setIfInBounds_toArray, List.set_cons_zero, List.set_cons_succ]))
    refine wpWay_done ?_
    have r0 := HR3.out.cell 0
    have r1 := HR3.out.cell 1
    have r2 := HR3.out.cell 2
    have r3 := HR3.out.cell 3
    have f0 := HR3.out.frozen 0
    have f1 := HR3.out.frozen 1
    have f2 := HR3.out.frozen 2
    have f3 := HR3.out.frozen 3
    simp at r0 r1 r2 r3
    have HOK := Lib.hid (show okSuper ⟨a, b, cc, d⟩ e = false → unpackSuper l = none from fun h => by
      unfold unpackSuper
      rw [if_pos hw, ← HMe.out, HT.out]
      simp [h])
    rcases (show a < 1 ∨ (1 ≤ a ∧ 2147483648 ≤ a) ∨ (1 ≤ a ∧ a < 2147483648) by omega) with h | ⟨h, h2⟩ | ⟨ha1, ha2⟩
    · have HN := Lib.hid (HOK.out (by unfold okSuper; simp; omega))
      go_wp2
      have HF := Lib.hid ((((HR3.out.set 0 (.int .i64 0)).set 1 (.int .i64 0)).set 2 (.int .i64 0)).set 3 (.int .i64 0))
      have HB5 := Lib.hid ((((HB3.out.grown (setCell_grown _ R 0 (.int .i64 0)) hge).grown (setCell_grown _ R 1 (.int .i64 0)) hge).grown (setCell_grown _ R 2 (.int .i64 0)) hge).grown (setCell_grown _ R 3 (.int .i64 0)) hge)
      try simp only [Exit.inBlock, Exit.then]
      refine bodyPost_ret (results_cell3 rfl _ rfl HF.out Tryz.underlying71 rfl (by kernel_rfl)) rfl ?_
      refine ⟨HB5.out, ?_⟩
      rw [HN.out]
      rfl
    · have HN := Lib.hid (HOK.out (by unfold okSuper; simp; omega))
      go_wp2
      have HF := Lib.hid ((((HR3.out.set 0 (.int .i64 0)).set 1 (.int .i64 0)).set 2 (.int .i64 0)).set 3 (.int .i64 0))
      have HB5 := Lib.hid ((((HB3.out.grown (setCell_grown _ R 0 (.int .i64 0)) hge).grown (setCell_grown _ R 1 (.int .i64 0)) hge).grown (setCell_grown _ R 2 (.int .i64 0)) hge).grown (setCell_grown _ R 3 (.int .i64 0)) hge)
      try simp only [Exit.inBlock, Exit.then]
      refine bodyPost_ret (results_cell3 rfl _ rfl HF.out Tryz.underlying71 rfl (by kernel_rfl)) rfl ?_
      refine ⟨HB5.out, ?_⟩
      rw [HN.out]
      rfl
    rcases (show b < 1 ∨ (1 ≤ b ∧ 2147483648 ≤ b) ∨ (1 ≤ b ∧ b < 2147483648) by omega) with h | ⟨h, h2⟩ | ⟨hb1, hb2⟩
    · have HN := Lib.hid (HOK.out (by unfold okSuper; simp; omega))
      go_wp2
      have HF := Lib.hid ((((HR3.out.set 0 (.int .i64 0)).set 1 (.int .i64 0)).set 2 (.int .i64 0)).set 3 (.int .i64 0))
      have HB5 := Lib.hid ((((HB3.out.grown (setCell_grown _ R 0 (.int .i64 0)) hge).grown (setCell_grown _ R 1 (.int .i64 0)) hge).grown (setCell_grown _ R 2 (.int .i64 0)) hge).grown (setCell_grown _ R 3 (.int .i64 0)) hge)
      try simp only [Exit.inBlock, Exit.then]
      refine bodyPost_ret (results_cell3 rfl _ rfl HF.out Tryz.underlying71 rfl (by kernel_rfl)) rfl ?_
      refine ⟨HB5.out, ?_⟩
      rw [HN.out]
      rfl
    · have HN := Lib.hid (HOK.out (by unfold okSuper; simp; omega))
      go_wp2
      have HF := Lib.hid ((((HR3.out.set 0 (.int .i64 0)).set 1 (.int .i64 0)).set 2 (.int .i64 0)).set 3 (.int .i64 0))
      have HB5 := Lib.hid ((((HB3.out.grown (setCell_grown _ R 0 (.int .i64 0)) hge).grown (setCell_grown _ R 1 (.int .i64 0)) hge).grown (setCell_grown _ R 2 (.int .i64 0)) hge).grown (setCell_grown _ R 3 (.int .i64 0)) hge)
      try simp only [Exit.inBlock, Exit.then]
      refine bodyPost_ret (results_cell3 rfl _ rfl HF.out Tryz.underlying71 rfl (by kernel_rfl)) rfl ?_
      refine ⟨HB5.out, ?_⟩
      rw [HN.out]
      rfl
    rcases (show 2147483648 ≤ cc ∨ cc < 2147483648 by omega) with h | hc2
    · have HN := Lib.hid (HOK.out (by unfold okSuper; simp; omega))
      go_wp2
      have HF := Lib.hid ((((HR3.out.set 0 (.int .i64 0)).set 1 (.int .i64 0)).set 2 (.int .i64 0)).set 3 (.int .i64 0))
      have HB5 := Lib.hid ((((HB3.out.grown (setCell_grown _ R 0 (.int .i64 0)) hge).grown (setCell_grown _ R 1 (.int .i64 0)) hge).grown (setCell_grown _ R 2 (.int .i64 0)) hge).grown (setCell_grown _ R 3 (.int .i64 0)) hge)
      try simp only [Exit.inBlock, Exit.then]
      refine bodyPost_ret (results_cell3 rfl _ rfl HF.out Tryz.underlying71 rfl (by kernel_rfl)) rfl ?_
      refine ⟨HB5.out, ?_⟩
      rw [HN.out]
      rfl
    rcases (show 4096 ≤ d ∨ d < 4096 by omega) with h | hd2
    · have HN := Lib.hid (HOK.out (by unfold okSuper; simp; omega))
      go_wp2
      have HF := Lib.hid ((((HR3.out.set 0 (.int .i64 0)).set 1 (.int .i64 0)).set 2 (.int .i64 0)).set 3 (.int .i64 0))
      have HB5 := Lib.hid ((((HB3.out.grown (setCell_grown _ R 0 (.int .i64 0)) hge).grown (setCell_grown _ R 1 (.int .i64 0)) hge).grown (setCell_grown _ R 2 (.int .i64 0)) hge).grown (setCell_grown _ R 3 (.int .i64 0)) hge)
      try simp only [Exit.inBlock, Exit.then]
      refine bodyPost_ret (results_cell3 rfl _ rfl HF.out Tryz.underlying71 rfl (by kernel_rfl)) rfl ?_
      refine ⟨HB5.out, ?_⟩
      rw [HN.out]
      rfl
    rcases (show e < 1 ∨ (1 ≤ e ∧ 1024 < e) ∨ (1 ≤ e ∧ e ≤ 1024) by omega) with h | ⟨h, h2⟩ | ⟨he1, he2⟩
    · have HN := Lib.hid (HOK.out (by unfold okSuper; simp; omega))
      go_wp2
      have HF := Lib.hid ((((HR3.out.set 0 (.int .i64 0)).set 1 (.int .i64 0)).set 2 (.int .i64 0)).set 3 (.int .i64 0))
      have HB5 := Lib.hid ((((HB3.out.grown (setCell_grown _ R 0 (.int .i64 0)) hge).grown (setCell_grown _ R 1 (.int .i64 0)) hge).grown (setCell_grown _ R 2 (.int .i64 0)) hge).grown (setCell_grown _ R 3 (.int .i64 0)) hge)
      try simp only [Exit.inBlock, Exit.then]
      refine bodyPost_ret (results_cell3 rfl _ rfl HF.out Tryz.underlying71 rfl (by kernel_rfl)) rfl ?_
      refine ⟨HB5.out, ?_⟩
      rw [HN.out]
      rfl
    · have HN := Lib.hid (HOK.out (by unfold okSuper; simp; omega))
      go_wp2
      have HF := Lib.hid ((((HR3.out.set 0 (.int .i64 0)).set 1 (.int .i64 0)).set 2 (.int .i64 0)).set 3 (.int .i64 0))
      have HB5 := Lib.hid ((((HB3.out.grown (setCell_grown _ R 0 (.int .i64 0)) hge).grown (setCell_grown _ R 1 (.int .i64 0)) hge).grown (setCell_grown _ R 2 (.int .i64 0)) hge).grown (setCell_grown _ R 3 (.int .i64 0)) hge)
      try simp only [Exit.inBlock, Exit.then]
      refine bodyPost_ret (results_cell3 rfl _ rfl HF.out Tryz.underlying71 rfl (by kernel_rfl)) rfl ?_
      refine ⟨HB5.out, ?_⟩
      rw [HN.out]
      rfl
    go_wp2_with fail
    refine (suPack_any a b cc d e _ (by omega) (by omega) (by omega) (by omega) (by omega)).mono ?_
    rintro e2 w4 ⟨u4, rfl, ho4, hb4⟩
    have HO4 := Lib.hid ho4
    have HB4 := Lib.hid (HB3.out.bl hb4)
    have HR4 := Lib.hid (HR3.out.bl hb4)
    clear ho4 hb4 r0 r1 r2 r3 f0 f1 f2 f3
    go_wp2_with fail
    refine (bEqual_any _ _ _ _ _ HO4.out.is (HX.out.bl HB4.out) (seal_ok (superB_ok _ _)) HO.out).mono ?_
    rintro e2 w5 ⟨rfl, rfl⟩
    have r0 := HR4.out.cell 0
    have r1 := HR4.out.cell 1
    have r2 := HR4.out.cell 2
    have r3 := HR4.out.cell 3
    have f0 := HR4.out.frozen 0
    have f1 := HR4.out.frozen 1
    have f2 := HR4.out.frozen 2
    have f3 := HR4.out.frozen 3
    simp at r0 r1 r2 r3
    have HQ := Lib.hid (show okSuper ⟨a, b, cc, d⟩ e = true by unfold okSuper; simp; omega)
    cases hq : decide (packSuper ⟨a, b, cc, d⟩ e = l)
    · have HN := Lib.hid (show unpackSuper l = none by
        unfold unpackSuper
        rw [if_pos hw, ← HMe.out, HT.out]
        simp only [hq, Bool.and_false]
        rfl)
      clear HR3
      have HR3 := HR4
      have HB3 := HB4
      go_wp2
      have HF := Lib.hid ((((HR3.out.set 0 (.int .i64 0)).set 1 (.int .i64 0)).set 2 (.int .i64 0)).set 3 (.int .i64 0))
      have HB5 := Lib.hid ((((HB3.out.grown (setCell_grown _ R 0 (.int .i64 0)) hge).grown (setCell_grown _ R 1 (.int .i64 0)) hge).grown (setCell_grown _ R 2 (.int .i64 0)) hge).grown (setCell_grown _ R 3 (.int .i64 0)) hge)
      try simp only [Exit.inBlock, Exit.then]
      refine bodyPost_ret (results_cell3 rfl _ rfl HF.out Tryz.underlying71 rfl (by kernel_rfl)) rfl ?_
      refine ⟨HB5.out, ?_⟩
      rw [HN.out]
      rfl
    · have HN := Lib.hid (show unpackSuper l = some (⟨a, b, cc, d⟩, e) by
        unfold unpackSuper
        rw [if_pos hw, ← HMe.out, HT.out]
        simp only [hq, HQ.out, Bool.and_self]
        rfl)
      go_wp2
      have HF := Lib.hid ((((HR4.out.set 0 (.int .i64 a)).set 1 (.int .i64 b)).set 2 (.int .i64 cc)).set 3 (.int .i64 d))
      have HB5 := Lib.hid ((((HB4.out.grown (setCell_grown _ R 0 (.int .i64 a)) hge).grown (setCell_grown _ R 1 (.int .i64 b)) hge).grown (setCell_grown _ R 2 (.int .i64 cc)) hge).grown (setCell_grown _ R 3 (.int .i64 d)) hge)
      try simp only [Exit.inBlock, Exit.then]
      refine bodyPost_ret (results_cell3 rfl _ rfl HF.out Tryz.underlying71 rfl (by kernel_rfl)) rfl ?_
      refine ⟨HB5.out, ?_⟩
      rw [HN.out]
      rfl
end Go.Proofs.YtoocebghlchcoaaGreat.ExtW

/- Contract of super.Choose. -/
namespace Go.Proofs.YtoocebghlchcoaaGreat.ExtW
open Go.RowKit Go.Ov Go.Proofs.YtoocebghlchcoaaGreat.Need
def unpS (l : List Int) : SuperM × Int × Bool := match unpackSuper l with
  | some (s, c) => (s, c, true)
  | none => (⟨0, 0, 0, 0⟩, 0, false)
theorem UnpP.s {w w' : World} {l : List Int} {e : Ending} (h : UnpP w w' l e) : Bl w w' ∧ ∃ s c b, unpS l = (s, c, b) ∧ e = .returned (.tuple #[supV s, .int .i64 c, .bool b]) := by
  refine ⟨h.1, ?_⟩
  have h2 := h.2
  unfold unpS
  cases hq : unpackSuper l with
  | none => rw [hq] at h2; exact ⟨_, _, _, rfl, h2⟩
  | some p => obtain ⟨s, c⟩ := p; rw [hq] at h2; exact ⟨_, _, _, rfl, h2⟩
/-- the superblock that counts, its cells, its slot -/
def chooseM (a b : List Int) : SuperM × Int × Int × Bool :=
  if (unpS b).2.2 && (!(unpS a).2.2 || decide ((unpS a).1.gen < (unpS b).1.gen)) then ((unpS b).1, (unpS b).2.1, 1, true) else ((unpS a).1, (unpS a).2.1, 0, (unpS a).2.2)
def ChoP (w w' : World) (la lb : List Int) (e : Ending) : Prop := Bl w w' ∧ e = .returned (.tuple #[supV (chooseM la lb).1, .int .i64 (chooseM la lb).2.1, .int .i64 (chooseM la lb).2.2.1, .bool (chooseM la lb).2.2.2])
set_option maxRecDepth 100000 in
set_option maxHeartbeats 1000000 in
theorem suChoose_any (va vb : Value) (la lb : List Int) (w : World) (ha : byteE.Is w va la) (hb : byteE.Is w vb lb) (hla : la.length ≤ 1000000) (hlb : lb.length ≤ 1000000) (oa : okB la) (ob : okB lb) :
    Calls Tryz.prog 83 #[va, vb] w fun e w' => ChoP w w' la lb e := by
  have HX := Lib.hid ha
  have HY := Lib.hid hb
  have HOa := Lib.hid oa
  have HOb := Lib.hid ob
  clear ha hb oa ob
  go_enter Tryz.func83, Tryz.ntmps83
  go_wp2_with fail
  refine (suUnpack_any va la _ (HX.out.bl ((Bl.refl _).alloc _)) hla HOa.out).mono ?_
  rintro e w1 hu
  obtain ⟨hb1, s, c, okA, hs, rfl⟩ := hu.s
  have HSa := Lib.hid hs
  have HB1 := Lib.hid (((Bl.refl w).alloc _).bl hb1)
  have HR := Lib.hid ((Blk.new w #[.int .i64 0, .int .i64 0, .int .i64 0, .int .i64 0] 71).bl hb1)
  obtain ⟨sg, sl, sd, sr⟩ := s
  have r0 := HR.out.cell 0
  have r1 := HR.out.cell 1
  have r2 := HR.out.cell 2
  have r3 := HR.out.cell 3
  have f0 := HR.out.frozen 0
  have f1 := HR.out.frozen 1
  have f2 := HR.out.frozen 2
  have f3 := HR.out.frozen 3
  simp at r0 r1 r2 r3
  clear hb1 hu hs
  simp only [supV]
  go_wp2_with fail
  obtain ⟨w2, hw2⟩ : ∃ w2, w2 = (((w1.setCell ⟨w.heap.size, 0, none⟩ (.int .i64 sg)).setCell ⟨w.heap.size, 1, none⟩ (.int .i64 sl)).setCell ⟨w.heap.size, 2, none⟩ (.int .i64 sd)).setCell ⟨w.heap.size, 3, none⟩ (.int .i64 sr) := ⟨_, rfl⟩
  rw [← hw2]
  have hge : ∀ k, (some w.heap.size : Option Nat) = some k → w.heap.size ≤ k := fun k hk => by injection hk with hk; omega
  have HR2 := Lib.hid (show Blk w2 w.heap.size #[.int .i64 sg, .int .i64 sl, .int .i64 sd, .int .i64 sr] 71 by rw [hw2]; exact ((((HR.out.set 0 (.int .i64 sg)).set 1 (.int .i64 sl)).set 2 (.int .i64 sd)).set 3 (.int .i64 sr)))
  have HB2 := Lib.hid (show Bl w w2 by rw [hw2]; exact ((((HB1.out.grown (setCell_grown _ w.heap.size 0 (.int .i64 sg)) hge).grown (setCell_grown _ w.heap.size 1 (.int .i64 sl)) hge).grown (setCell_grown _ w.heap.size 2 (.int .i64 sd)) hge).grown (setCell_grown _ w.heap.size 3 (.int .i64 sr)) hge))
  clear hw2 r0 r1 r2 r3 f0 f1 f2 f3 HR HB1
  refine (suUnpack_any vb lb _ (HY.out.bl HB2.out) hlb HOb.out).mono ?_
  rintro e w3 hu
  obtain ⟨hb3, t, n, okb, hs, rfl⟩ := hu.s
  have HSb := Lib.hid hs
  have HB3 := Lib.hid (HB2.out.bl hb3)
  have HR3 := Lib.hid (HR2.out.bl hb3)
  obtain ⟨tg, tl, td, tr⟩ := t
  clear hb3 hu hs HR2 HB2
  simp only [supV]
  have HRx := Lib.hid (HR3.out.bl ((Bl.refl w3).alloc (.cells #[.int .i64 tg, .int .i64 tl, .int .i64 td, .int .i64 tr] 71)))
  have HBx := Lib.hid (HB3.out.alloc (.cells #[.int .i64 tg, .int .i64 tl, .int .i64 td, .int .i64 tr] 71))
  have hlt := HR3.out.lt
  have r0 := HRx.out.cell 0
  have r1 := HRx.out.cell 1
  have r2 := HRx.out.cell 2
  have r3 := HRx.out.cell 3
  have f0 := HRx.out.frozen 0
  have f1 := HRx.out.frozen 1
  have f2 := HRx.out.frozen 2
  have f3 := HRx.out.frozen 3
  simp at r0 r1 r2 r3
  have q0 := HR3.out.cell 0
  have q1 := HR3.out.cell 1
  have q2 := HR3.out.cell 2
  have q3 := HR3.out.cell 3
  have p0 := HR3.out.frozen 0
  have p1 := HR3.out.frozen 1
  have p2 := HR3.out.frozen 2
  have p3 := HR3.out.frozen 3
  simp at q0 q1 q2 q3
  cases okb
  · have HCH := Lib.hid (show chooseM la lb = (⟨sg, sl, sd, sr⟩, c, 0, okA) by unfold chooseM; rw [HSa.out, HSb.out]; rfl)
    go_wp2
    have HF := Lib.hid (((((HR3.out.set 0 (.int .i64 sg)).set 1 (.int .i64 sl)).set 2 (.int .i64 sd)).set 3 (.int .i64 sr)).bl ((Bl.refl _).alloc (.cells #[.int .i64 tg, .int .i64 tl, .int .i64 td, .int .i64 tr] 71)))
    have HB5 := Lib.hid (((((HB3.out.grown (setCell_grown _ w.heap.size 0 (.int .i64 sg)) hge).grown (setCell_grown _ w.heap.size 1 (.int .i64 sl)) hge).grown (setCell_grown _ w.heap.size 2 (.int .i64 sd)) hge).grown (setCell_grown _ w.heap.size 3 (.int .i64 sr)) hge).alloc (.cells #[.int .i64 tg, .int .i64 tl, .int .i64 td, .int .i64 tr] 71))
    generalize ((((w3.setCell ⟨w.heap.size, 0, none⟩ (.int .i64 sg)).setCell ⟨w.heap.size, 1, none⟩ (.int .i64 sl)).setCell ⟨w.heap.size, 2, none⟩ (.int .i64 sd)).setCell ⟨w.heap.size, 3, none⟩ (.int .i64 sr)).alloc (.cells #[.int .i64 tg, .int .i64 tl, .int .i64 td, .int .i64 tr] 71) = w5 at *
    try simp only [Exit.inBlock, Exit.then]
    refine bodyPost_ret (results_cell4 rfl _ rfl HF.out Tryz.underlying71 rfl (by kernel_rfl)) rfl ?_
    refine ⟨HB5.out, ?_⟩
    rw [HCH.out]
    rfl
  cases okA
  · have HCH := Lib.hid (show chooseM la lb = (⟨tg, tl, td, tr⟩, n, 1, true) by unfold chooseM; rw [HSa.out, HSb.out]; rfl)
    go_wp2
    have HF := Lib.hid (((((HR3.out.set 0 (.int .i64 tg)).set 1 (.int .i64 tl)).set 2 (.int .i64 td)).set 3 (.int .i64 tr)).bl ((Bl.refl _).alloc (.cells #[.int .i64 tg, .int .i64 tl, .int .i64 td, .int .i64 tr] 71)))
    have HB5 := Lib.hid (((((HB3.out.grown (setCell_grown _ w.heap.size 0 (.int .i64 tg)) hge).grown (setCell_grown _ w.heap.size 1 (.int .i64 tl)) hge).grown (setCell_grown _ w.heap.size 2 (.int .i64 td)) hge).grown (setCell_grown _ w.heap.size 3 (.int .i64 tr)) hge).alloc (.cells #[.int .i64 tg, .int .i64 tl, .int .i64 td, .int .i64 tr] 71))
    generalize ((((w3.setCell ⟨w.heap.size, 0, none⟩ (.int .i64 tg)).setCell ⟨w.heap.size, 1, none⟩ (.int .i64 tl)).setCell ⟨w.heap.size, 2, none⟩ (.int .i64 td)).setCell ⟨w.heap.size, 3, none⟩ (.int .i64 tr)).alloc (.cells #[.int .i64 tg, .int .i64 tl, .int .i64 td, .int .i64 tr] 71) = w5 at *
    try simp only [Exit.inBlock, Exit.then]
    refine bodyPost_ret (results_cell4 rfl _ rfl HF.out Tryz.underlying71 rfl (by kernel_rfl)) rfl ?_
    refine ⟨HB5.out, ?_⟩
    rw [HCH.out]
    rfl
  rcases (show sg < tg ∨ ¬ sg < tg by omega) with hlt2 | hlt2
  · have HCH := Lib.hid (show chooseM la lb = (⟨tg, tl, td, tr⟩, n, 1, true) by unfold chooseM; rw [HSa.out, HSb.out]; simp [hlt2])
    go_wp2
    have HF := Lib.hid (((((HR3.out.set 0 (.int .i64 tg)).set 1 (.int .i64 tl)).set 2 (.int .i64 td)).set 3 (.int .i64 tr)).bl ((Bl.refl _).alloc (.cells #[.int .i64 tg, .int .i64 tl, .int .i64 td, .int .i64 tr] 71)))
    have HB5 := Lib.hid (((((HB3.out.grown (setCell_grown _ w.heap.size 0 (.int .i64 tg)) hge).grown (setCell_grown _ w.heap.size 1 (.int .i64 tl)) hge).grown (setCell_grown _ w.heap.size 2 (.int .i64 td)) hge).grown (setCell_grown _ w.heap.size 3 (.int .i64 tr)) hge).alloc (.cells #[.int .i64 tg, .int .i64 tl, .int .i64 td, .int .i64 tr] 71))
    generalize ((((w3.setCell ⟨w.heap.size, 0, none⟩ (.int .i64 tg)).setCell ⟨w.heap.size, 1, none⟩ (.int .i64 tl)).setCell ⟨w.heap.size, 2, none⟩ (.int .i64 td)).setCell ⟨w.heap.size, 3, none⟩ (.int .i64 tr)).alloc (.cells #[.int .i64 tg, .int .i64 tl, .int .i64 td, .int .i64 tr] 71) = w5 at *
    try simp only [Exit.inBlock, Exit.then]
    refine bodyPost_ret (results_cell4 rfl _ rfl HF.out Tryz.underlying71 rfl (by kernel_rfl)) rfl ?_
    refine ⟨HB5.out, ?_⟩
    rw [HCH.out]
    rfl
  · have HCH := Lib.hid (show chooseM la lb = (⟨sg, sl, sd, sr⟩, c, 0, true) by unfold chooseM; rw [HSa.out, HSb.out]; simp [hlt2])
    go_wp2
    have HF := Lib.hid (((((HR3.out.set 0 (.int .i64 sg)).set 1 (.int .i64 sl)).set 2 (.int .i64 sd)).set 3 (.int .i64 sr)).bl ((Bl.refl _).alloc (.cells #[.int .i64 tg, .int .i64 tl, .int .i64 td, .int .i64 tr] 71)))
    have HB5 := Lib.hid (((((HB3.out.grown (setCell_grown _ w.heap.size 0 (.int .i64 sg)) hge).grown (setCell_grown _ w.heap.size 1 (.int .i64 sl)) hge).grown (setCell_grown _ w.heap.size 2 (.int .i64 sd)) hge).grown (setCell_grown _ w.heap.size 3 (.int .i64 sr)) hge).alloc (.cells #[.int .i64 tg, .int .i64 tl, .int .i64 td, .int .i64 tr] 71))
    generalize ((((w3.setCell ⟨w.heap.size, 0, none⟩ (.int .i64 sg)).setCell ⟨w.heap.size, 1, none⟩ (.int .i64 sl)).setCell ⟨w.heap.size, 2, none⟩ (.int .i64 sd)).setCell ⟨w.heap.size, 3, none⟩ (.int .i64 sr)).alloc (.cells #[.int .i64 tg, .int .i64 tl, .int .i64 td, .int .i64 tr] 71) = w5 at *
    try simp only [Exit.inBlock, Exit.then]
    refine bodyPost_ret (results_cell4 rfl _ rfl HF.out Tryz.underlying71 rfl (by kernel_rfl)) rfl ?_
    refine ⟨HB5.out, ?_⟩
    rw [HCH.out]
    rfl
end Go.Proofs.YtoocebghlchcoaaGreat.ExtW

/- A disk as data: an image, writes that wait; how it lies in memory; what reads, writes, flushes make of it. No program in sight. -/
namespace Go.Ov
open Go.RowKit

/-- one sector of an image -/
def secM (img : List Int) (i : Nat) : List Int := (img.drop (128 * i)).take 128
theorem sec_len {img : List Int} {n i : Nat} (h : img.length = 128 * n) (hi : i < n) : (secM img i).length = 128 := by unfold secM; rw [List.length_take, List.length_drop]; omega
/-- a disk -/
structure DiskM where
  img : List Int
  waits : List (Nat × List Int)
  dead : Bool
  stops : Bool
  pos : Int
def waitE : Enc (Nat × List Int) := ⟨129, fun p => .int .i64 p.1 :: (List.range 128).map (fun j => .int .u8 (p.2.getD j 0)), fun p => by simp, fun p u h => by
  rcases List.mem_cons.1 h with rfl | h
  · rfl
  · obtain ⟨j, _, rfl⟩ := List.mem_map.1 h; rfl⟩
theorem wait_c (i : Nat) (s : List Int) (h : s.length = 128) : waitE.c (i, s) = .int .i64 i :: s.map (.int .u8) := by
  show Value.int .i64 i :: (List.range 128).map _ = _
  congr 1
  apply List.ext_getElem (by simp [h])
  intro j h1 h2
  simp only [List.getElem_map, List.getElem_range, List.getD_eq_getElem?_getD]
  rw [List.getElem?_eq_getElem (by simp at h1; omega)]; rfl
/-- a right disk of so many sectors -/
structure DOK (m : DiskM) (n : Nat) : Prop where
  len : m.img.length = 128 * n
  n1 : 1 ≤ n
  n2 : n ≤ 4096
  ok : okB m.img
  wt : ∀ p ∈ m.waits, p.1 < n ∧ p.2.length = 128 ∧ okB p.2
  wl : m.waits.length ≤ 1000000
  pb : 0 ≤ m.pos ∧ m.pos ≤ 4611686018427387903
/-- a disk in block D -/
structure DiskIs (Td Ts Tw : TypeId) (w : World) (base D K : Nat) (vw : Value) (m : DiskM) (n : Nat) : Prop where
  dsk : ∃ r wr fl : Int, Blk w D #[.slice (some ⟨K, 0, none⟩) n n, vw, .bool m.dead, .bool m.stops, .int .i64 m.pos, .int .i64 r, .int .i64 wr, .int .i64 fl] Td
  kept : Blk w K (rowB m.img) Ts
  wait : waitE.Own Tw w base vw m.waits
  ok : DOK m n
  lowD : base ≤ D
  lowK : base ≤ K
theorem DiskIs.bl {Td Ts Tw : TypeId} {w w' : World} {base D K : Nat} {vw : Value} {m : DiskM} {n : Nat} (h : DiskIs Td Ts Tw w base D K vw m n) (hb : Bl w w') : DiskIs Td Ts Tw w' base D K vw m n := by
  obtain ⟨r, wr, fl, hk⟩ := h.dsk
  exact ⟨⟨r, wr, fl, hk.bl hb⟩, h.kept.bl hb, h.wait.bl hb, h.ok, h.lowD, h.lowK⟩
/-- a disk's blocks -/
abbrev dFoot (D K : Nat) (vw : Value) : List (Option Nat) := [some D, some K, vw.ownBlock]
theorem blk_ne {w : World} {B C : Nat} {cs ds : Array Value} {T U : TypeId} (h : Blk w B cs T) (k : Blk w C ds U) (hT : T ≠ U) : B ≠ C := fun e => by
  subst e
  unfold Blk at h k
  rw [h] at k
  injection k with k
  injection k with _ k _
  exact hT k
theorem own_blk_ne {α : Type} {E : Enc α} {e T : TypeId} {w : World} {base B : Nat} {v : Value} {xs : List α} {cs : Array Value} (h : E.Own e w base v xs) (k : Blk w B cs T) (hT : e ≠ T) : v.ownBlock ≠ some B := fun q => by
  rcases h.2 with ⟨rfl, _⟩ | ⟨g, cap, cur, rfl, _, h3, _⟩
  · cases q
  · obtain rfl : g = B := Option.some.inj q
    unfold Blk at k
    rw [h3] at k
    injection k with k
    injection k with _ k _
    exact hT k

theorem row_range {w : World} {g o n : Nat} {xs : List Int} {T : TypeId} (h : Blk w g (rowB xs) T) (hn : o + n ≤ xs.length) : w.rangeAt g o (((xs.drop o).take n).map (.int .u8)) := fun j v hv => by
  have hj : j < n := by have := (List.getElem?_eq_some_iff.1 hv).1; simp at this; omega
  rw [h.cell (o + j), rowB_at _ _ (by omega), ← hv]
  simp only [List.getElem?_map]
  rw [List.getElem?_take, if_pos hj, List.getElem?_drop, List.getElem?_eq_getElem (by omega)]; rfl
/-- an array out of the middle of a row -/
theorem load_row {P : Program} {w : World} {g o n : Nat} {xs : List Int} {T ty : TypeId} {d : TypeDesc} (h : Blk w g (rowB xs) T) (hn : o + n ≤ xs.length) (hu : P.underlying ty = some d) (hd : d.isRow = true) (hi : (P.info? ty).map (·.size) = some n) :
    (Instr.loadAt ty (.pointer (some ⟨g, o, none⟩))).run P w = .ok (.agg (rowB ((xs.drop o).take n))) w :=
  run_loadAt_mid w g o ty _ d (row_range h hn) hu hd (by rw [hi]; simp; omega)
/-- .. into it -/
theorem store_row {P : Program} {w : World} {g o : Nat} {xs s : List Int} {T ty : TypeId} (h : Blk w g (rowB xs) T) (hn : o + s.length ≤ xs.length) (hi : (P.info? ty).map (·.size) = some s.length) :
    (Instr.storeAt ty (.pointer (some ⟨g, o, none⟩)) (.agg (rowB s))).run P w = .ok () (w.setRow g (rowB (lay xs o s))) := by
  have hst := run_storeCells_at P g o T (rowB s).toList 0 (rowB xs) w h (by rw [rowB_list, List.length_map, rowB_size]; omega) (fun v hv => by rw [rowB_list] at hv; obtain ⟨x, -, rfl⟩ := List.mem_map.1 hv; rfl)
  have he : ((rowB xs).toList.take (o + 0) ++ (rowB s).toList ++ (rowB xs).toList.drop (o + 0 + (rowB s).toList.length)).toArray = rowB (lay xs o s) := by
    simp only [rowB_list, Nat.add_zero, List.length_map]
    unfold rowB lay
    simp only [List.map_append, List.map_take, List.map_drop]
  rw [he] at hst
  simp only [Instr.storeAt, Instr.sureAddr, Sem.run_bind, Sem.run_pure, Result.andThen_ok]
  cases hq : P.info? ty with
  | none => simp [hq] at hi
  | some i =>
    have hs : (rowB s).size = i.size := by simp [hq] at hi; rw [rowB_size]; omega
    simp [storeVar, sizeOf, typeInfo, hq, Value.cells, hs, hst]
/-- a value of two fields: a number, an array -/
theorem fill_two (place : Nat → Option (Nat × Nat)) (z : Array Value) (x : Value) (C : Array Value) (h0 : place 0 = some (0, 1)) (h1 : place 1 = some (1, 128)) (hx : x.cells = #[x]) (hC : C.size = 128) (hz : z.size = 129) :
    Instr.fill place z [(0, x), (1, .agg C)] = some (#[x] ++ C) := by
  have e1 : Instr.fill place z [(0, x), (1, .agg C)] = Instr.fill place (z.setIfInBounds 0 x) [(1, .agg C)] := by
    conv => lhs; unfold Instr.fill
    rw [h0]
    simp [hx, hz]
  rw [e1]
  unfold Instr.fill
  rw [h1]
  have e2 : (Value.agg C).cells = C := rfl
  simp only [e2, hC, Array.size_setIfInBounds, hz]
  simp
  unfold Instr.fill
  congr 1
  obtain ⟨q1, q2⟩ := Great.foldl_set 1 C.toList 0 (z.setIfInBounds 0 x)
  have e3 : Array.foldl (fun cs (x : Value × Nat) => cs.setIfInBounds (1 + x.2) x.1) (z.setIfInBounds 0 x) C.zipIdx = (C.toList.zipIdx 0).foldl (fun cs (x : Value × Nat) => cs.setIfInBounds (1 + x.2) x.1) (z.setIfInBounds 0 x) := by
    rw [← Array.foldl_toList, Array.toList_zipIdx]
  apply Array.ext_getElem?
  intro k
  have q := q2 k
  rw [← e3] at q
  refine Eq.trans ?_ (q.trans ?_)
  · first | rfl | simp
  · simp only [Array.length_toList, hC, Array.size_setIfInBounds, hz, Nat.add_zero]
    by_cases hk : 1 ≤ k ∧ k < 1 + 128 ∧ k < 129
    · rw [if_pos hk, Array.getElem?_append_right (by simp; omega)]
      simp
    · rw [if_neg hk]
      by_cases h0 : k = 0
      · subst h0
        rw [Array.getElem?_append_left (by simp)]
        simp [hz]
      · rw [Array.getElem?_eq_none (by simp; omega), Array.getElem?_eq_none (by simp [hC]; omega)]
theorem wpList_storeB {P : Program} {ops : Array Oper} {rest : List Oper} {op : Oper} {a : Act} {w : World} {Q : Exit → Act → World → Prop} (hgd : op.guard = none) (ty : TypeId) (x y : Operand) (ho : op.op = .store ty x y)
    (g o : Nat) (xs s : List Int) (T : TypeId) (hx : a.eval x = .pointer (some ⟨g, o, none⟩)) (hy : a.eval y = .agg (rowB s)) (h : Blk w g (rowB xs) T) (hn : o + s.length ≤ xs.length) (hi : (P.info? ty).map (·.size) = some s.length)
    (hK : wpList P ops Q rest (a.put op.dst undef) (w.setRow g (rowB (lay xs o s)))) : wpList P ops Q (op :: rest) a w :=
  wpList_plain hgd fun K hK' => by
    have hst := store_row (P := P) (ty := ty) h hn hi
    unfold Oper.wp execOp
    simp only [ho, hx, hy, Sem.run_bind, hst, Result.andThen_ok]
    exact hK' _ _ hK
theorem range_own {α : Type} {E : Enc α} {w : World} {A : Addr} {c : Nat} {xs : List α} (h : E.Is w (.slice (some A) xs.length c) xs) {g : Nat} (hA : A = ⟨g, 0, none⟩) (k : Nat) (x : α) (hk : xs[k]? = some x) : w.rangeAt g (k * E.sz) (E.c x) := fun j v hv => by
  obtain ⟨_, _, e1, _, _, _, hat⟩ := h
  simp only [Value.slice.injEq] at e1
  obtain ⟨rfl, -, -⟩ := e1
  obtain ⟨ad, e, hc⟩ := hat k x hk
  injection e with e
  have := hc j v hv
  rw [← e, hA, addr_add0] at this
  exact this
/-- all that waits is kept -/
def flushI (img : List Int) (l : List (Nat × List Int)) : List Int := l.foldl (fun im p => lay im (128 * p.1) p.2) img
theorem flush_len {n : Nat} : ∀ (l : List (Nat × List Int)) (img : List Int), img.length = 128 * n → (∀ p ∈ l, p.1 < n ∧ p.2.length = 128 ∧ okB p.2) → (flushI img l).length = 128 * n
  | [], img, h, _ => h
  | p :: l, img, h, hl => by
    have hp := hl p (by simp)
    exact flush_len l _ (by rw [lay_len _ _ _ (by omega)]; exact h) (fun q hq => hl q (by simp [hq]))
theorem lay_ok {img s : List Int} (h : okB img) (k : okB s) (o : Nat) : okB (lay img o s) := ((h.take _).app k).app (h.drop _)
theorem flush_ok : ∀ (l : List (Nat × List Int)) (img : List Int), okB img → (∀ p ∈ l, okB p.2) → okB (flushI img l)
  | [], _, h, _ => h
  | p :: l, _, h, hl => flush_ok l _ (lay_ok h (hl p (by simp)) _) (fun q hq => hl q (by simp [hq]))
end Go.Ov
