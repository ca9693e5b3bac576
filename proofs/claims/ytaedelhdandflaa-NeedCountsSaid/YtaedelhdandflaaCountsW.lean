/- Contracts of overdublaw16.Right, overdubkeep.Cut[int], need.Change, overdubref20's Blocks and Nodes. -/
import Derived.Test.YtaedelhdandflaaRowW
import Derived.Test.YtaedelhdandflaaKeepW
import Derived.Test.YtaedelhdandflaaCanon
import Derived.Test.YtaedelhdandflaaCutsPure
import Derived.Test.YtaedelhdandflaaRecP
namespace Go.Proofs.Ytaedelhdandflaa.ExtW
open Go.RowKit Go.Ov Go.Proofs.Ytaedelhdandflaa.Need

set_option maxHeartbeats 400000 in
theorem rblocks_any (n : Int) (w : World) (hn : n ≤ 9223372036854775807) :
    Calls Try.prog 17 #[.int .i64 n] w fun e w' => e = .returned (.int .i64 (blocks n)) ∧ w = w' := by
  go_enter Try.func17, Try.ntmps17
  go_wp2
  all_goals go_ret
  all_goals refine ⟨ret_int ?_, rfl⟩
  · rename_i h; unfold blocks; rw [if_pos (by omega)]
  · rename_i h; unfold blocks; rw [if_neg (by omega)]

set_option maxHeartbeats 400000 in
theorem rnodes_any (x : Int) (w : World) :
    Calls Try.prog 19 #[.int .i64 x] w fun e w' => e = .returned (.int .i64 (nodesI x)) ∧ w = w' := by
  generalize hm : (min x 1048576).toNat = m
  induction m using Nat.strongRecOn generalizing x w with
  | _ m ih =>
    have IH : ∀ y : Int, (min y 1048576).toNat < m → ∀ w, Calls Try.prog 19 #[.int .i64 y] w fun e w' => e = .returned (.int .i64 (nodesI y)) ∧ w = w' := fun y hy w => ih _ hy y w rfl
    have HIH := Lib.hid IH
    have HM := Lib.hid hm
    clear ih IH hm
    by_cases h0 : x < 1
    · go_enter Try.func19, Try.ntmps19
      go_wp2_with fail
      go_ret
      refine ⟨ret_int ?_, rfl⟩
      show (0 : Int) = _
      unfold nodesI nodes; rw [if_pos (by omega)]; rfl
    · by_cases h1 : x < 8
      · go_enter Try.func19, Try.ntmps19
        go_wp2_with fail
        go_ret
        refine ⟨ret_int ?_, rfl⟩
        show (1 : Int) = _
        unfold nodesI nodes; rw [if_neg (by omega), if_pos (by omega)]; rfl
      · have e0 : nodesI x = (min x 1048576) / 4 + nodesI ((min x 1048576) / 4) := by
          unfold nodesI
          rw [show (min ((min x 1048576) / 4) 1048576).toNat = (min x 1048576).toNat / 4 by omega]
          conv => lhs; unfold nodes
          rw [if_neg (by omega), if_neg (by omega)]; push_cast; omega
        have E0 := Lib.hid e0
        clear e0
        go_enter Try.func19, Try.ntmps19
        go_wp2_with fail
        all_goals
          have hm := HM.out
          refine (HIH.out _ (by omega) _).mono ?_
          rintro e w' ⟨rfl, rfl⟩
          go_wp2
          go_ret
          refine ⟨ret_int ?_, rfl⟩
          have hq := nodes_le (min ((min x 1048576) / 4) 1048576).toNat
          have e := E0.out
          have e2 : nodesI ((min x 1048576) / 4) = (nodes (min ((min x 1048576) / 4) 1048576).toNat : Int) := rfl
          show wrap64 _ = _
          first
            | (unfold wrap64; omega)
            | (have e3 : (min x 1048576) / 4 = x / 4 := by omega
               rw [e3] at e e2 hq
               unfold wrap64; omega)
            | (have e3 : (min x 1048576) / 4 = 262144 := by omega
               rw [e3] at e e2 hq
               unfold wrap64; omega)

def RecOwn (w : World) (base : Nat) (v : Value) (r : Rec) : Prop := ∃ u, v = .agg #[.int .i64 r.kind, .int .i64 r.track, .int .i64 r.fr, .int .i64 r.tt, u] ∧ extE.Own 34 w base u r.l
theorem RecOwn.is {w : World} {base : Nat} {v : Value} {r : Rec} (h : RecOwn w base v r) : RecIs w v r := by
  obtain ⟨u, e, h⟩ := h; exact ⟨u, e, h.is⟩

theorem Enc.Own.set {α : Type} {E : Enc α} {e : TypeId} {w : World} {base : Nat} {v : Value} {xs : List α} (h : E.Own e w base v xs) (g j : Nat) (u : Value) (hg : g < base) : E.Own e (w.setCell ⟨g, j, none⟩ u) base v xs :=
  h.grown (row := some g) ⟨rfl, rfl, rfl, by simp [World.setCell], fun k _ hk => setCell_else _ _ _ _ _ (fun h => hk (by rw [h]))⟩ (by
    cases hv : v.ownBlock with
    | none => exact .inl rfl
    | some k => refine .inr fun hk => ?_
                have := (h.lt k hv).1
                cases hk
                omega)
theorem one_cell_slice {w : World} {v : Value} {l : List Ext} (h : extE.Is w v l) : ∃ A n c, v = .slice A n c := by
  obtain ⟨A, c, e, _⟩ := h; exact ⟨A, _, c, e⟩

set_option maxRecDepth 100000 in
set_option maxHeartbeats 1000000 in
theorem right_any (v : Value) (r : Rec) (w : World) (h : RecIs w v r) :
    Calls Try.prog 16 #[v] w fun e w' => ∃ u, e = .returned u ∧ RecOwn w' w.heap.size u (rightM r) ∧ Bl w w' := by
  obtain ⟨u, rfl, hl⟩ := h
  obtain ⟨k, t, f, o, l⟩ := r
  dsimp only at hl
  have HL := Lib.hid hl
  obtain ⟨A, n, c, rfl⟩ := one_cell_slice hl
  clear hl
  have b1 := within_bd k 5 (by decide)
  have b2 := within_bd o 1001 (by decide)
  have hkk : ∃ kk, kk = within k 5 := ⟨_, rfl⟩
  obtain ⟨kk, hkk⟩ := hkk
  have HK := Lib.hid hkk
  rw [← hkk] at b1
  clear hkk
  have c5 := Try.underlying30
  by_cases h2 : kk ≤ 1
  · have hd : kk = 0 ∨ kk = 1 := by omega
    have b3 := within_bd t 100 (by decide)
    rcases hd with rfl | rfl
    · go_enter Try.func16, Try.ntmps16
      go_wp2_with (first | (go_at_call 11; refine (within_any _ _ _ (by omega)).mono ?_; rintro e w' ⟨rfl, rfl⟩; try rw [← HK.out]))
      refine bodyPost_ret (v := .agg #[.int .i64 1, .int .i64 (within t 100), .int .i64 0, .int .i64 0, .slice none 0 0]) (by simp [results, Try.results16, go_sem]) rfl ⟨_, rfl, ⟨.slice none 0 0, ?_, ?_⟩, ((Bl.refl _).alloc _).alloc _⟩
      · unfold rightM; rw [← HK.out]; simp
      · unfold rightM; rw [← HK.out]; exact Enc.Own.nil _ _ _
    · go_enter Try.func16, Try.ntmps16
      go_wp2_with (first | (go_at_call 11; refine (within_any _ _ _ (by omega)).mono ?_; rintro e w' ⟨rfl, rfl⟩; try rw [← HK.out]))
      refine bodyPost_ret (v := .agg #[.int .i64 2, .int .i64 (within t 100), .int .i64 0, .int .i64 0, .slice none 0 0]) (by simp [results, Try.results16, go_sem]) rfl ⟨_, rfl, ⟨.slice none 0 0, ?_, ?_⟩, ((Bl.refl _).alloc _).alloc _⟩
      · unfold rightM; rw [← HK.out]; simp
      · unfold rightM; rw [← HK.out]; exact Enc.Own.nil _ _ _
  · by_cases h3 : kk = 2
    · subst h3
      have b4 := within_bd f (within o 1001 + 1) (by omega)
      have hwr : IntKind.i64.wrap (within o 1001 + 1) = within o 1001 + 1 := IntWalk.i64_in _ (by omega)
      go_enter Try.func16, Try.ntmps16
      go_wp2_with (first | (go_at_call 11; refine (within_any _ _ _ (by omega)).mono ?_; rintro e w' ⟨rfl, rfl⟩; try rw [← HK.out]))
      refine wp_region_ways (S := (fun w' => w'.cell? ⟨w.heap.size, 1, none⟩ = some (.int .i64 t) ∧ w'.cell? ⟨w.heap.size, 2, none⟩ = some (.int .i64 f) ∧ w'.cell? ⟨w.heap.size, 4, none⟩ = some (.slice A n c))) [0, 1, 2, 4, 5, 6, 7, 9, 10, 11, 13] (y := .take 0 (.take 1 (.take 2 (.take 4 (.take 5 (.take 6 (.take 7 (.take 9 (.take 10 (.take 11 (.ev 3 (.ev 8 (.ev 12 (.take 13 (.ev 14 (.done) (.stop))) (.stop)) (.stop)) (.stop)))))))))))) (by kernel_rfl) (by kernel_rfl) (by kernel_rfl) ?_ (fun hHeld => ?_)
      · refine ⟨?_, ?_, ?_⟩ <;> go_simp
      repeat (first | (refine wpWay_take rfl (by rfl) (by intro w hSw; (try dsimp only at hSw); first | (go_simp; done) | (go_simp; with_reducible rfl)) ?_; try simp only [Act.put, List.setIfInBounds_toArray, List.set_cons_zero, List.set_cons_succ]) | (refine wpWay_skip rfl (by rfl) ?_; try simp only [Act.put, List.setIfInBounds_toArray, List.set_cons_zero, List.set_cons_succ]))
      clear hwr
      have HH := Lib.hid hHeld
      clear hHeld
      refine wpWay_ev rfl (fun K hK => ?_) wpWay_stop
      go_wp2_with fail
      refine (within_any _ _ _ (by omega)).mono ?_
      rintro e w1 ⟨rfl, rfl⟩
      go_wp2_with fail
      refine ⟨HH.out, ?_⟩
      repeat (first | (refine wpWay_take rfl (by rfl) (by intro w hSw; (try dsimp only at hSw); first | (go_simp; done) | (go_simp; with_reducible rfl)) ?_; try simp only [Act.put, List.setIfInBounds_toArray, List.set_cons_zero, List.set_cons_succ]) | (refine wpWay_skip rfl (by rfl) ?_; try simp only [Act.put, List.setIfInBounds_toArray, List.set_cons_zero, List.set_cons_succ]))
      refine wpWay_ev rfl (fun K hK => ?_) wpWay_stop
      go_wp2_with fail
      refine (within_any _ _ _ (by omega)).mono ?_
      rintro e w1 ⟨rfl, rfl⟩
      go_wp2_with fail
      refine ⟨HH.out, ?_⟩
      repeat (first | (refine wpWay_take rfl (by rfl) (by intro w hSw; (try dsimp only at hSw); first | (go_simp; done) | (go_simp; with_reducible rfl)) ?_; try simp only [Act.put, List.setIfInBounds_toArray, List.set_cons_zero, List.set_cons_succ]) | (refine wpWay_skip rfl (by rfl) ?_; try simp only [Act.put, List.setIfInBounds_toArray, List.set_cons_zero, List.set_cons_succ]))
      refine wpWay_ev rfl (fun K hK => ?_) wpWay_stop
      go_wp2_with fail
      refine (row16_any _ _ 20 _ (HL.out.bl (((Bl.refl _).alloc _).alloc _).drew) (by decide)).mono ?_
      rintro e w1 ⟨u, rfl, ho, hb⟩
      obtain ⟨A2, c2, rfl⟩ := ho.slice
      go_wp2_with fail
      refine ⟨⟨hb.cell HH.out.1, hb.cell HH.out.2.1, hb.cell HH.out.2.2⟩, ?_⟩
      repeat (first | (refine wpWay_take rfl (by rfl) (by intro w hSw; (try dsimp only at hSw); first | (go_simp; done) | (go_simp; with_reducible rfl)) ?_; try simp only [Act.put, List.setIfInBounds_toArray, List.set_cons_zero, List.set_cons_succ]) | (refine wpWay_skip rfl (by rfl) ?_; try simp only [Act.put, List.setIfInBounds_toArray, List.set_cons_zero, List.set_cons_succ]))
      refine wpWay_ev rfl (fun K hK => ?_) wpWay_stop
      obtain ⟨hc, hf⟩ := bcell hb
      have hz : w.heap.size + 1 < w1.heap.size := by have := hb.size; simp at this; omega
      go_wp2_with fail
      refine ⟨?_, ?_⟩
      · refine ⟨?_, ?_, ?_⟩ <;> go_simp
      refine wpWay_done ?_
      go_wp2_with fail
      refine bodyPost_ret (v := .agg #[.int .i64 3, .int .i64 (within t 100), .int .i64 (within f (within o 1001 + 1)), .int .i64 (within o 1001), .slice A2 (rowM l 20).length c2]) (by simp [results, Try.results16, go_sem, hc]) rfl ⟨_, rfl, ⟨.slice A2 (rowM l 20).length c2, ?_, ?_⟩, ?_⟩
      · unfold rightM; rw [← HK.out]; simp
      · unfold rightM; rw [← HK.out]
        refine Enc.Own.low (base := w.heap.size + 2) ?_ (by omega)
        iterate 5 refine Enc.Own.set ?_ _ _ _ (by omega)
        exact ho.low (by simp)
      · iterate 5 refine Bl.set ?_ _ _ _ (by omega)
        exact (((Bl.refl _).alloc _).alloc _).drew.bl hb
    · have h4 : kk = 3 ∨ kk = 4 := by omega
      rcases h4 with rfl | rfl
      · go_enter Try.func16, Try.ntmps16
        go_wp2_with (first | (go_at_call 11; refine (within_any _ _ _ (by omega)).mono ?_; rintro e w' ⟨rfl, rfl⟩; try rw [← HK.out]))
        refine bodyPost_ret (v := .agg #[.int .i64 4, .int .i64 0, .int .i64 0, .int .i64 0, .slice none 0 0]) (by simp [results, Try.results16, go_sem]) rfl ⟨_, rfl, ⟨.slice none 0 0, ?_, ?_⟩, ((Bl.refl _).alloc _).alloc _⟩
        · unfold rightM; rw [← HK.out]; simp
        · unfold rightM; rw [← HK.out]; exact Enc.Own.nil _ _ _
      · go_enter Try.func16, Try.ntmps16
        go_wp2_with (first | (go_at_call 11; refine (within_any _ _ _ (by omega)).mono ?_; rintro e w' ⟨rfl, rfl⟩; try rw [← HK.out]))
        refine bodyPost_ret (v := .agg #[.int .i64 5, .int .i64 0, .int .i64 0, .int .i64 0, .slice none 0 0]) (by simp [results, Try.results16, go_sem]) rfl ⟨_, rfl, ⟨.slice none 0 0, ?_, ?_⟩, ((Bl.refl _).alloc _).alloc _⟩
        · unfold rightM; rw [← HK.out]; simp
        · unfold rightM; rw [← HK.out]; exact Enc.Own.nil _ _ _

set_option maxHeartbeats 1000000 in
theorem kcutInt_any (A : Option Addr) (n c m : Nat) (w : World) (hn : n ≤ c) (hc : c ≤ maxLen) (h0 : A = none → c = 0) (hm : m ≤ 1000) :
    Calls Try.prog 18 #[.slice A n c, .int .i64 m] w fun e w' => e = .returned (.slice A (min n m) c) ∧ w = w' := by
  unfold maxLen at hc
  cases A with
  | none =>
    have hc0 : c = 0 := h0 rfl
    have hl : n = 0 := by omega
    subst hc0; subst hl
    go_enter Try.func18, Try.ntmps18
    go_wp2
    go_ret
    refine ⟨?_, rfl⟩
    have e : (min (0 : Int) m).toNat = 0 := by omega
    show Ending.returned (.slice none (min (0 : Int) m).toNat 0) = .returned (.slice none (min 0 m) 0)
    rw [e, Nat.zero_min]
  | some ad =>
    go_enter Try.func18, Try.ntmps18
    go_wp2
    go_ret
    refine ⟨?_, rfl⟩
    rw [show min n m = (min (n : Int) m).toNat by omega]; rfl

set_option maxHeartbeats 1000000 in
theorem kcutExt_ex (A : Option Addr) (n c m : Nat) (w : World) (hn : n ≤ c) (hc : c ≤ maxLen) (h0 : A = none → c = 0) (hm : m ≤ 1000) :
    Calls Try.prog 15 #[.slice A n c, .int .i64 m] w fun e w' => e = .returned (.slice A (min n m) c) ∧ w = w' := by
  unfold maxLen at hc
  cases A with
  | none =>
    have hc0 : c = 0 := h0 rfl
    have hl : n = 0 := by omega
    subst hc0; subst hl
    go_enter Try.func15, Try.ntmps15
    go_wp2
    go_ret
    refine ⟨?_, rfl⟩
    have e : (min (0 : Int) m).toNat = 0 := by omega
    show Ending.returned (.slice none (min (0 : Int) m).toNat 0) = .returned (.slice none (min 0 m) 0)
    rw [e, Nat.zero_min]
  | some ad =>
    go_enter Try.func15, Try.ntmps15
    go_wp2
    go_ret
    refine ⟨?_, rfl⟩
    rw [show min n m = (min (n : Int) m).toNat by omega]; rfl

def changeM (k n : Int) : Int := if k = 3 then blocks n else 0
set_option maxHeartbeats 1000000 in
theorem change_any (v : Value) (r : Rec) (n : Int) (w : World) (h : RecIs w v r) (hn : n ≤ 9223372036854775807) :
    Calls Try.prog 21 #[v, .int .i64 n] w fun e w' => e = .returned (.int .i64 (changeM r.kind n)) ∧ Bl w w' := by
  obtain ⟨u, rfl, hl⟩ := h
  obtain ⟨k, t, f, o, l⟩ := r
  obtain ⟨A, n', c, rfl⟩ := one_cell_slice hl
  clear hl
  dsimp only
  by_cases hk : k = 3
  · subst hk
    go_enter Try.func21, Try.ntmps21
    go_wp2_with (go_at_call 20; refine (blocks_any _ _ hn).mono ?_; rintro e w' ⟨rfl, rfl⟩)
    go_ret
    exact ⟨ret_int (by unfold changeM; rw [if_pos rfl]), (Bl.refl _).alloc _⟩
  · have hk1 : (k == 3) = false := by simpa using hk
    have hk2 : (k != 3) = true := by simpa using hk
    have HK := Lib.hid hk
    clear hk
    go_enter Try.func21, Try.ntmps21
    go_wp2
    go_ret
    exact ⟨ret_int (by unfold changeM; rw [if_neg HK.out]), (Bl.refl _).alloc _⟩
end Go.Proofs.Ytaedelhdandflaa.ExtW
