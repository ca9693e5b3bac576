/- Contracts of super: Unpack, Choose. -/
import Derived.Test.YtoocebghlchcoaaGreatSuperW
namespace Go.Proofs.YtoocebghlchcoaaGreat.ExtW
open Go.RowKit Go.Ov Go.Proofs.YtoocebghlchcoaaGreat.Need

theorem cells5 {w : World} {g c2 : Nat} {a b c d e : Int} (h : intE.Is w (.slice (some ⟨g, 0, none⟩) 5 c2) [a, b, c, d, e]) :
    w.cell? ⟨g, 0, none⟩ = some (.int .i64 a) ∧ w.cell? ⟨g, 1, none⟩ = some (.int .i64 b) ∧ w.cell? ⟨g, 2, none⟩ = some (.int .i64 c) ∧ w.cell? ⟨g, 3, none⟩ = some (.int .i64 d) ∧ w.cell? ⟨g, 4, none⟩ = some (.int .i64 e) := by
  obtain ⟨_, _, e1, _, _, _, hat⟩ := h
  simp only [Value.slice.injEq] at e1
  obtain ⟨rfl, -, -⟩ := e1
  have key : ∀ k (hk : k < 5), w.cell? ⟨g, k, none⟩ = some (.int .i64 ([a, b, c, d, e][k])) := fun k hk => by
    obtain ⟨_, e', t⟩ := int_at hat k hk
    injection e' with e'
    subst e'
    rwa [addr_add0] at t
  exact ⟨key 0 (by decide), key 1 (by decide), key 2 (by decide), key 3 (by decide), key 4 (by decide)⟩
def supV (s : SuperM) : Value := .agg #[.int .i64 s.gen, .int .i64 s.life, .int .i64 s.done, .int .i64 s.root]
def UnpP (w w' : World) (l : List Int) (e : Ending) : Prop := Bl w w' ∧ match unpackSuper l with
  | some (s, c) => e = .returned (.tuple #[supV s, .int .i64 c, .bool true])
  | none => e = .returned (.tuple #[.agg #[.int .i64 0, .int .i64 0, .int .i64 0, .int .i64 0], .int .i64 0, .bool false])
theorem unp_none {l : List Int} (h : whole l = false) : unpackSuper l = none := by unfold unpackSuper; rw [if_neg (by rw [h]; decide)]
theorem take5 (m : List Int) (h : 20 ≤ m.length) : ∃ a b c d e, takeF m [4, 4, 4, 4, 4] = some [a, b, c, d, e] ∧ (okB m → (0 ≤ a ∧ a < 1099511627776) ∧ (0 ≤ b ∧ b < 1099511627776) ∧ (0 ≤ c ∧ c < 1099511627776) ∧ (0 ≤ d ∧ d < 1099511627776) ∧ (0 ≤ e ∧ e < 1099511627776)) := by
  refine ⟨_, _, _, _, _, by
    unfold takeF; rw [if_neg (by omega)]
    unfold takeF; rw [if_neg (by rw [List.length_drop]; omega)]
    unfold takeF; rw [if_neg (by rw [List.length_drop, List.length_drop]; omega)]
    unfold takeF; rw [if_neg (by rw [List.length_drop, List.length_drop, List.length_drop]; omega)]
    unfold takeF; rw [if_neg (by rw [List.length_drop, List.length_drop, List.length_drop, List.length_drop]; omega)]
    unfold takeF; rfl, fun h => ⟨get_small _ (h.take _) ?_, get_small _ ((h.drop _).take _) ?_, get_small _ (((h.drop _).drop _).take _) ?_, get_small _ ((((h.drop _).drop _).drop _).take _) ?_, get_small _ (((((h.drop _).drop _).drop _).drop _).take _) ?_⟩⟩ <;> (rw [List.length_take]; omega)
set_option maxRecDepth 100000 in
set_option maxHeartbeats 4000000 in
theorem suUnpack_any (vb : Value) (l : List Int) (w : World) (hb : byteE.Is w vb l) (hl : l.length ≤ 1000000) (ho : okB l) :
    Calls Tryz.prog 109 #[vb] w fun e w' => UnpP w w' l e := by
  have HX := Lib.hid hb
  have HO := Lib.hid ho
  clear hb ho
  go_enter Tryz.func109, Tryz.ntmps109
  go_wp2_with fail
  refine (seOpen_any vb l _ (HX.out.bl ((Bl.refl _).alloc _)) hl HO.out).mono ?_
  rintro e w1 ⟨hb1, u, rfl, hu⟩
  have HB1 := Lib.hid (((Bl.refl w).alloc _).bl hb1)
  have HR := Lib.hid ((Blk.new w #[.int .i64 0, .int .i64 0, .int .i64 0, .int .i64 0] 71).bl hb1)
  obtain ⟨R, hR⟩ : ∃ R, R = w.heap.size := ⟨_, rfl⟩
  rw [← hR] at HR ⊢
  have HRs := Lib.hid hR
  have HU := Lib.hid hu
  clear hb1 hu hR
  have r0 := HR.out.cell 0
  have r1 := HR.out.cell 1
  have r2 := HR.out.cell 2
  have r3 := HR.out.cell 3
  have f0 := HR.out.frozen 0
  have f1 := HR.out.frozen 1
  have f2 := HR.out.frozen 2
  have f3 := HR.out.frozen 3
  simp at r0 r1 r2 r3
  cases hw : whole l
  · have HN := Lib.hid (unp_none hw)
    go_wp2
    have HF := Lib.hid ((((HR.out.set 0 (.int .i64 0)).set 1 (.int .i64 0)).set 2 (.int .i64 0)).set 3 (.int .i64 0))
    have HB2 := Lib.hid ((((HB1.out.grown (setCell_grown _ R 0 (.int .i64 0)) (fun k hk => by injection hk with hk; rw [← hk, HRs.out]; exact Nat.le_refl _)).grown (setCell_grown _ R 1 (.int .i64 0)) (fun k hk => by injection hk with hk; rw [← hk, HRs.out]; exact Nat.le_refl _)).grown (setCell_grown _ R 2 (.int .i64 0)) (fun k hk => by injection hk with hk; rw [← hk, HRs.out]; exact Nat.le_refl _)).grown (setCell_grown _ R 3 (.int .i64 0)) (fun k hk => by injection hk with hk; rw [← hk, HRs.out]; exact Nat.le_refl _))
    try simp only [Exit.inBlock, Exit.then]
    refine bodyPost_ret (results_cell3 rfl _ rfl HF.out Tryz.underlying71 rfl (by kernel_rfl)) rfl ?_
    refine ⟨HB2.out, ?_⟩
    rw [HN.out]
    rfl
  · have hu := HU.out hw
    have hlen : (l.take 124).length = 124 := by
      have h1 := hw
      unfold whole at h1
      simp at h1
      rw [List.length_take]; omega
    have HLn := Lib.hid (show l.length = 128 by have h1 := hw; unfold whole at h1; simp at h1; exact h1.1)
    have HM := Lib.hid (show okB (l.take 124) from HO.out.take _)
    have HU2 := Lib.hid hu
    obtain ⟨A, c, rfl⟩ := hu.slice
    obtain ⟨m, hm⟩ : ∃ m, m = l.take 124 := ⟨_, rfl⟩
    rw [← hm] at hlen HM HU2 ⊢
    have HMe := Lib.hid hm
    have HMl := Lib.hid hlen
    obtain ⟨V1, hV1, hI1⟩ := slice_l (E := byteE) (P := Tryz.prog) (t := 25) (by kernel_rfl) (fun w => by kernel_rfl) A c m 8 (by omega) (by omega)
    have HV1 := Lib.hid (show byteE.Is w1 V1 (m.drop 8) from hI1 _ HU2.out.is)
    obtain ⟨a, b, cc, d, e, ht, hbd⟩ := take5 (m.drop 8) (by rw [List.length_drop]; omega)
    have HT := Lib.hid ht
    have hbd := hbd (HM.out.drop 8)
    obtain ⟨n, hn⟩ : ∃ n, n = m.length := ⟨_, rfl⟩
    rw [← hn] at hlen hV1 ⊢
    subst hlen
    clear hu hm hI1 ht HU hn
    go_wp2_with fail
    have HLit := Lib.hid (show intE.Own 3 (w1.alloc (.cells #[.int .i64 4, .int .i64 4, .int .i64 4, .int .i64 4, .int .i64 4] 3)) 0 (.slice (some ⟨w1.heap.size, 0, none⟩) 5 5) ([4, 4, 4, 4, 4] : List Int) from Enc.Own.lit _ _ _ _ rfl 5 rfl (Nat.zero_le _) (by decide) rfl)
    have hb := (Bl.refl w1).alloc (.cells #[.int .i64 4, .int .i64 4, .int .i64 4, .int .i64 4, .int .i64 4] 3)
    refine (fTake_any _ _ (m.drop 8) [4, 4, 4, 4, 4] _ (HV1.out.bl hb) HLit.out.is (HM.out.drop 8) (by have := HMl.out; rw [List.length_drop]; omega) (by decide) (by decide)).mono ?_
    rintro e2 w2 ⟨hb2, hk⟩
    rw [HT.out] at hk
    obtain ⟨ut, rfl, hot⟩ := hk
    have HB2 := Lib.hid ((HB1.out.bl hb).bl hb2)
    have HR2 := Lib.hid ((HR.out.bl hb).bl hb2)
    have HOt := Lib.hid hot
    obtain ⟨ga, c2, rfl⟩ : ∃ g c, ut = .slice (some ⟨g, 0, none⟩) 5 c := by
      rcases hot.2 with ⟨_, e⟩ | ⟨g, c, _, e, _⟩
      · simp at e
      · exact ⟨g, c, e⟩
    have HC5 := Lib.hid (cells5 hot.is)
    have HneR := Lib.hid (show ga ≠ R from fun q => by
      have h1 := (hot.lt ga rfl).1
      have h2 := HB1.out.size
      have h3 := hb.size
      have h4 := HR.out.lt
      omega)
    clear hb hb2 hot r0 r1 r2 r3 f0 f1 f2 f3
    have r0 := HR2.out.cell 0
    have r1 := HR2.out.cell 1
    have r2 := HR2.out.cell 2
    have r3 := HR2.out.cell 3
    have f0 := HR2.out.frozen 0
    have f1 := HR2.out.frozen 1
    have f2 := HR2.out.frozen 2
    have f3 := HR2.out.frozen 3
    simp at r0 r1 r2 r3
    have b0 := hbd.1
    go_wp2_with fail
    refine wp_region_ways (S := (fun w' => w'.cell? ⟨ga, 0, none⟩ = some (.int .i64 a) ∧ w'.cell? ⟨ga, 1, none⟩ = some (.int .i64 b) ∧ w'.cell? ⟨ga, 2, none⟩ = some (.int .i64 cc) ∧ w'.cell? ⟨ga, 3, none⟩ = some (.int .i64 d) ∧ w'.cell? ⟨ga, 4, none⟩ = some (.int .i64 e))) [0, 1, 2, 3, 4, 5, 6, 7, 8, 9, 10, 11, 12, 13, 14, 15, 17] (y := .take 0 (.take 1 (.take 2 (.take 3 (.take 4 (.take 5 (.take 6 (.take 7 (.take 8 (.take 9 (.take 10 (.take 11 (.take 12 (.take 13 (.take 14 (.take 15 (.ev 16 (.take 17 (.done)) (.stop)))))))))))))))))) (by kernel_rfl) (by kernel_rfl) (by kernel_rfl) ?_ (fun hHeld => ?_)
    · exact HC5.out
    clear hHeld
    repeat (first | (refine wpWay_take rfl (by rfl) (by intro w hSw; (try dsimp only at hSw); first | (go_simp; done) | (go_simp; with_reducible rfl)) ?_; try simp only [Act.put, List.setIfInBounds_toArray, List.set_cons_zero, List.set_cons_succ]) | (refine wpWay_skip rfl (by rfl) ?_; try simp only [Act.put, List.setIfInBounds_toArray, List.set_cons_zero, List.set_cons_succ]))
    refine wpWay_ev rfl (fun K hK => ?_) wpWay_stop
    go_wp2_with fail
    obtain ⟨w3, hw3⟩ : ∃ w3, w3 = ((((w2.setCell ⟨R, 0, none⟩ (.int .i64 a)).setCell ⟨R, 1, none⟩ (.int .i64 b)).setCell ⟨R, 2, none⟩ (.int .i64 cc)).setCell ⟨R, 3, none⟩ (.int .i64 d)).drew := ⟨_, rfl⟩
    rw [← hw3]
    have HR3 := Lib.hid (show Blk w3 R #[.int .i64 a, .int .i64 b, .int .i64 cc, .int .i64 d] 71 by rw [hw3]; exact (((((HR2.out.set 0 (.int .i64 a)).set 1 (.int .i64 b)).set 2 (.int .i64 cc)).set 3 (.int .i64 d)).bl (Bl.refl _).drew))
    have HC3 := Lib.hid (show intE.Own 3 w3 0 (.slice (some ⟨ga, 0, none⟩) 5 c2) [a, b, cc, d, e] by
      have hn : ∀ j, (some ga : Option Nat) = none ∨ (some ga : Option Nat) ≠ some j → True := fun _ _ => trivial
      have hne : (Value.slice (some ⟨ga, 0, none⟩) 5 c2).ownBlock = none ∨ (Value.slice (some ⟨ga, 0, none⟩) 5 c2).ownBlock ≠ some R := .inr fun q => HneR.out (Option.some.inj q)
      rw [hw3]
      exact ((((((HOt.out.low (Nat.zero_le _)).grown (setCell_grown _ R 0 (.int .i64 a)) hne).grown (setCell_grown _ R 1 (.int .i64 b)) hne).grown (setCell_grown _ R 2 (.int .i64 cc)) hne).grown (setCell_grown _ R 3 (.int .i64 d)) hne).bl (Bl.refl _).drew))
    have hge : ∀ k, (some R : Option Nat) = some k → w.heap.size ≤ k := fun k hk => by injection hk with hk; rw [← hk, HRs.out]; exact Nat.le_refl _
    have HB3 := Lib.hid (show Bl w w3 by rw [hw3]; exact ((((HB2.out.grown (setCell_grown _ R 0 (.int .i64 a)) hge).grown (setCell_grown _ R 1 (.int .i64 b)) hge).grown (setCell_grown _ R 2 (.int .i64 cc)) hge).grown (setCell_grown _ R 3 (.int .i64 d)) hge).drew)
    refine ⟨cells5 HC3.out.is, ?_⟩
    clear hw3 r0 r1 r2 r3 f0 f1 f2 f3 HC5 HOt HR2 HB2 HLit
    repeat (first | (refine wpWay_take rfl (by rfl) (by intro w hSw; (try dsimp only at hSw); first | (go_simp; done) | (go_simp; with_reducible rfl)) ?_; try simp only [Act.put, List.setIfInBounds_toArray, List.set_cons_zero, List.set_cons_succ]) | (refine wpWay_skip rfl (by rfl) ?_; try simp only [Act.put, List.setIfInBounds_toArray, List.set_cons_zero, List.set_cons_succ]))
    refine wpWay_done ?_
    have r0 := HR3.out.cell 0
    have r1 := HR3.out.cell 1
    have r2 := HR3.out.cell 2
    have r3 := HR3.out.cell 3
    have f0 := HR3.out.frozen 0
    have f1 := HR3.out.frozen 1
    have f2 := HR3.out.frozen 2
    have f3 := HR3.out.frozen 3
    simp at r0 r1 r2 r3
    have HOK := Lib.hid (show okSuper ⟨a, b, cc, d⟩ e = false → unpackSuper l = none from fun h => by
      unfold unpackSuper
      rw [if_pos hw, ← HMe.out, HT.out]
      simp [h])
    rcases (show a < 1 ∨ (1 ≤ a ∧ 2147483648 ≤ a) ∨ (1 ≤ a ∧ a < 2147483648) by omega) with h | ⟨h, h2⟩ | ⟨ha1, ha2⟩
    · have HN := Lib.hid (HOK.out (by unfold okSuper; simp; omega))
      go_wp2
      have HF := Lib.hid ((((HR3.out.set 0 (.int .i64 0)).set 1 (.int .i64 0)).set 2 (.int .i64 0)).set 3 (.int .i64 0))
      have HB5 := Lib.hid ((((HB3.out.grown (setCell_grown _ R 0 (.int .i64 0)) hge).grown (setCell_grown _ R 1 (.int .i64 0)) hge).grown (setCell_grown _ R 2 (.int .i64 0)) hge).grown (setCell_grown _ R 3 (.int .i64 0)) hge)
      try simp only [Exit.inBlock, Exit.then]
      refine bodyPost_ret (results_cell3 rfl _ rfl HF.out Tryz.underlying71 rfl (by kernel_rfl)) rfl ?_
      refine ⟨HB5.out, ?_⟩
      rw [HN.out]
      rfl
    · have HN := Lib.hid (HOK.out (by unfold okSuper; simp; omega))
      go_wp2
      have HF := Lib.hid ((((HR3.out.set 0 (.int .i64 0)).set 1 (.int .i64 0)).set 2 (.int .i64 0)).set 3 (.int .i64 0))
      have HB5 := Lib.hid ((((HB3.out.grown (setCell_grown _ R 0 (.int .i64 0)) hge).grown (setCell_grown _ R 1 (.int .i64 0)) hge).grown (setCell_grown _ R 2 (.int .i64 0)) hge).grown (setCell_grown _ R 3 (.int .i64 0)) hge)
      try simp only [Exit.inBlock, Exit.then]
      refine bodyPost_ret (results_cell3 rfl _ rfl HF.out Tryz.underlying71 rfl (by kernel_rfl)) rfl ?_
      refine ⟨HB5.out, ?_⟩
      rw [HN.out]
      rfl
    rcases (show b < 1 ∨ (1 ≤ b ∧ 2147483648 ≤ b) ∨ (1 ≤ b ∧ b < 2147483648) by omega) with h | ⟨h, h2⟩ | ⟨hb1, hb2⟩
    · have HN := Lib.hid (HOK.out (by unfold okSuper; simp; omega))
      go_wp2
      have HF := Lib.hid ((((HR3.out.set 0 (.int .i64 0)).set 1 (.int .i64 0)).set 2 (.int .i64 0)).set 3 (.int .i64 0))
      have HB5 := Lib.hid ((((HB3.out.grown (setCell_grown _ R 0 (.int .i64 0)) hge).grown (setCell_grown _ R 1 (.int .i64 0)) hge).grown (setCell_grown _ R 2 (.int .i64 0)) hge).grown (setCell_grown _ R 3 (.int .i64 0)) hge)
      try simp only [Exit.inBlock, Exit.then]
      refine bodyPost_ret (results_cell3 rfl _ rfl HF.out Tryz.underlying71 rfl (by kernel_rfl)) rfl ?_
      refine ⟨HB5.out, ?_⟩
      rw [HN.out]
      rfl
    · have HN := Lib.hid (HOK.out (by unfold okSuper; simp; omega))
      go_wp2
      have HF := Lib.hid ((((HR3.out.set 0 (.int .i64 0)).set 1 (.int .i64 0)).set 2 (.int .i64 0)).set 3 (.int .i64 0))
      have HB5 := Lib.hid ((((HB3.out.grown (setCell_grown _ R 0 (.int .i64 0)) hge).grown (setCell_grown _ R 1 (.int .i64 0)) hge).grown (setCell_grown _ R 2 (.int .i64 0)) hge).grown (setCell_grown _ R 3 (.int .i64 0)) hge)
      try simp only [Exit.inBlock, Exit.then]
      refine bodyPost_ret (results_cell3 rfl _ rfl HF.out Tryz.underlying71 rfl (by kernel_rfl)) rfl ?_
      refine ⟨HB5.out, ?_⟩
      rw [HN.out]
      rfl
    rcases (show 2147483648 ≤ cc ∨ cc < 2147483648 by omega) with h | hc2
    · have HN := Lib.hid (HOK.out (by unfold okSuper; simp; omega))
      go_wp2
      have HF := Lib.hid ((((HR3.out.set 0 (.int .i64 0)).set 1 (.int .i64 0)).set 2 (.int .i64 0)).set 3 (.int .i64 0))
      have HB5 := Lib.hid ((((HB3.out.grown (setCell_grown _ R 0 (.int .i64 0)) hge).grown (setCell_grown _ R 1 (.int .i64 0)) hge).grown (setCell_grown _ R 2 (.int .i64 0)) hge).grown (setCell_grown _ R 3 (.int .i64 0)) hge)
      try simp only [Exit.inBlock, Exit.then]
      refine bodyPost_ret (results_cell3 rfl _ rfl HF.out Tryz.underlying71 rfl (by kernel_rfl)) rfl ?_
      refine ⟨HB5.out, ?_⟩
      rw [HN.out]
      rfl
    rcases (show 4096 ≤ d ∨ d < 4096 by omega) with h | hd2
    · have HN := Lib.hid (HOK.out (by unfold okSuper; simp; omega))
      go_wp2
      have HF := Lib.hid ((((HR3.out.set 0 (.int .i64 0)).set 1 (.int .i64 0)).set 2 (.int .i64 0)).set 3 (.int .i64 0))
      have HB5 := Lib.hid ((((HB3.out.grown (setCell_grown _ R 0 (.int .i64 0)) hge).grown (setCell_grown _ R 1 (.int .i64 0)) hge).grown (setCell_grown _ R 2 (.int .i64 0)) hge).grown (setCell_grown _ R 3 (.int .i64 0)) hge)
      try simp only [Exit.inBlock, Exit.then]
      refine bodyPost_ret (results_cell3 rfl _ rfl HF.out Tryz.underlying71 rfl (by kernel_rfl)) rfl ?_
      refine ⟨HB5.out, ?_⟩
      rw [HN.out]
      rfl
    rcases (show e < 1 ∨ (1 ≤ e ∧ 1024 < e) ∨ (1 ≤ e ∧ e ≤ 1024) by omega) with h | ⟨h, h2⟩ | ⟨he1, he2⟩
    · have HN := Lib.hid (HOK.out (by unfold okSuper; simp; omega))
      go_wp2
      have HF := Lib.hid ((((HR3.out.set 0 (.int .i64 0)).set 1 (.int .i64 0)).set 2 (.int .i64 0)).set 3 (.int .i64 0))
      have HB5 := Lib.hid ((((HB3.out.grown (setCell_grown _ R 0 (.int .i64 0)) hge).grown (setCell_grown _ R 1 (.int .i64 0)) hge).grown (setCell_grown _ R 2 (.int .i64 0)) hge).grown (setCell_grown _ R 3 (.int .i64 0)) hge)
      try simp only [Exit.inBlock, Exit.then]
      refine bodyPost_ret (results_cell3 rfl _ rfl HF.out Tryz.underlying71 rfl (by kernel_rfl)) rfl ?_
      refine ⟨HB5.out, ?_⟩
      rw [HN.out]
      rfl
    · have HN := Lib.hid (HOK.out (by unfold okSuper; simp; omega))
      go_wp2
      have HF := Lib.hid ((((HR3.out.set 0 (.int .i64 0)).set 1 (.int .i64 0)).set 2 (.int .i64 0)).set 3 (.int .i64 0))
      have HB5 := Lib.hid ((((HB3.out.grown (setCell_grown _ R 0 (.int .i64 0)) hge).grown (setCell_grown _ R 1 (.int .i64 0)) hge).grown (setCell_grown _ R 2 (.int .i64 0)) hge).grown (setCell_grown _ R 3 (.int .i64 0)) hge)
      try simp only [Exit.inBlock, Exit.then]
      refine bodyPost_ret (results_cell3 rfl _ rfl HF.out Tryz.underlying71 rfl (by kernel_rfl)) rfl ?_
      refine ⟨HB5.out, ?_⟩
      rw [HN.out]
      rfl
    go_wp2_with fail
    refine (suPack_any a b cc d e _ (by omega) (by omega) (by omega) (by omega) (by omega)).mono ?_
    rintro e2 w4 ⟨u4, rfl, ho4, hb4⟩
    have HO4 := Lib.hid ho4
    have HB4 := Lib.hid (HB3.out.bl hb4)
    have HR4 := Lib.hid (HR3.out.bl hb4)
    clear ho4 hb4 r0 r1 r2 r3 f0 f1 f2 f3
    go_wp2_with fail
    refine (bEqual_any _ _ _ _ _ HO4.out.is (HX.out.bl HB4.out) (seal_ok (superB_ok _ _)) HO.out).mono ?_
    rintro e2 w5 ⟨rfl, rfl⟩
    have r0 := HR4.out.cell 0
    have r1 := HR4.out.cell 1
    have r2 := HR4.out.cell 2
    have r3 := HR4.out.cell 3
    have f0 := HR4.out.frozen 0
    have f1 := HR4.out.frozen 1
    have f2 := HR4.out.frozen 2
    have f3 := HR4.out.frozen 3
    simp at r0 r1 r2 r3
    have HQ := Lib.hid (show okSuper ⟨a, b, cc, d⟩ e = true by unfold okSuper; simp; omega)
    cases hq : decide (packSuper ⟨a, b, cc, d⟩ e = l)
    · have HN := Lib.hid (show unpackSuper l = none by
        unfold unpackSuper
        rw [if_pos hw, ← HMe.out, HT.out]
        simp only [hq, Bool.and_false]
        rfl)
      clear HR3
      have HR3 := HR4
      have HB3 := HB4
      go_wp2
      have HF := Lib.hid ((((HR3.out.set 0 (.int .i64 0)).set 1 (.int .i64 0)).set 2 (.int .i64 0)).set 3 (.int .i64 0))
      have HB5 := Lib.hid ((((HB3.out.grown (setCell_grown _ R 0 (.int .i64 0)) hge).grown (setCell_grown _ R 1 (.int .i64 0)) hge).grown (setCell_grown _ R 2 (.int .i64 0)) hge).grown (setCell_grown _ R 3 (.int .i64 0)) hge)
      try simp only [Exit.inBlock, Exit.then]
      refine bodyPost_ret (results_cell3 rfl _ rfl HF.out Tryz.underlying71 rfl (by kernel_rfl)) rfl ?_
      refine ⟨HB5.out, ?_⟩
      rw [HN.out]
      rfl
    · have HN := Lib.hid (show unpackSuper l = some (⟨a, b, cc, d⟩, e) by
        unfold unpackSuper
        rw [if_pos hw, ← HMe.out, HT.out]
        simp only [hq, HQ.out, Bool.and_self]
        rfl)
      go_wp2
      have HF := Lib.hid ((((HR4.out.set 0 (.int .i64 a)).set 1 (.int .i64 b)).set 2 (.int .i64 cc)).set 3 (.int .i64 d))
      have HB5 := Lib.hid ((((HB4.out.grown (setCell_grown _ R 0 (.int .i64 a)) hge).grown (setCell_grown _ R 1 (.int .i64 b)) hge).grown (setCell_grown _ R 2 (.int .i64 cc)) hge).grown (setCell_grown _ R 3 (.int .i64 d)) hge)
      try simp only [Exit.inBlock, Exit.then]
      refine bodyPost_ret (results_cell3 rfl _ rfl HF.out Tryz.underlying71 rfl (by kernel_rfl)) rfl ?_
      refine ⟨HB5.out, ?_⟩
      rw [HN.out]
      rfl
end Go.Proofs.YtoocebghlchcoaaGreat.ExtW
