/- Contracts of overdublaw16.Right, overdubkeep.Cut[int], need.Change, overdubref20's Blocks and Nodes. -/
import Derived.Test.YtddcjekkimajpaaRowW
import Derived.Test.YtddcjekkimajpaaKeepW
import Derived.Test.YtddcjekkimajpaaCanon
import Derived.Test.YtddcjekkimajpaaLib3
import Derived.Test.YtddcjekkimajpaaRecP
namespace Go.Proofs.Ytddcjekkimajpaa.ExtW
open Go.RowKit Go.Ov Go.Proofs.Ytddcjekkimajpaa.Need

def RecOwn (w : World) (base : Nat) (v : Value) (r : Rec) : Prop := ∃ u, v = .agg #[.int .i64 r.kind, .int .i64 r.track, .int .i64 r.fr, .int .i64 r.tt, u] ∧ extE.Own 38 w base u r.l
theorem RecOwn.is {w : World} {base : Nat} {v : Value} {r : Rec} (h : RecOwn w base v r) : RecIs w v r := by
  obtain ⟨u, e, h⟩ := h; exact ⟨u, e, h.is⟩

theorem one_cell_slice {w : World} {v : Value} {l : List Ext} (h : extE.Is w v l) : ∃ A n c, v = .slice A n c := by
  obtain ⟨A, c, e, _⟩ := h; exact ⟨A, _, c, e⟩

set_option maxRecDepth 100000 in
set_option maxHeartbeats 1000000 in
theorem right_any (v : Value) (r : Rec) (w : World) (h : RecIs w v r) :
    Calls Try.prog 52 #[v] w fun e w' => ∃ u, e = .returned u ∧ RecOwn w' w.heap.size u (rightM r) ∧ Bl w w' := by
  obtain ⟨u, rfl, hl⟩ := h
  obtain ⟨k, t, f, o, l⟩ := r
  dsimp only at hl
  have HL := Lib.hid hl
  obtain ⟨A, n, c, rfl⟩ := one_cell_slice hl
  clear hl
  have b1 := within_bd k 5 (by decide)
  have b2 := within_bd o 1001 (by decide)
  have hkk : ∃ kk, kk = within k 5 := ⟨_, rfl⟩
  obtain ⟨kk, hkk⟩ := hkk
  have HK := Lib.hid hkk
  rw [← hkk] at b1
  clear hkk
  have c5 := Try.underlying33
  by_cases h2 : kk ≤ 1
  · have hd : kk = 0 ∨ kk = 1 := by omega
    have b3 := within_bd t 100 (by decide)
    rcases hd with rfl | rfl
    · go_enter Try.func52, Try.ntmps52
      go_wp2_with (first | (go_at_call 12; refine (within_any _ _ _ (by omega)).mono ?_; rintro e w' ⟨rfl, rfl⟩; try rw [← HK.out]))
      refine bodyPost_ret (v := .agg #[.int .i64 1, .int .i64 (within t 100), .int .i64 0, .int .i64 0, .slice none 0 0]) (by simp [results, Try.results52, go_sem]) rfl ⟨_, rfl, ⟨.slice none 0 0, ?_, ?_⟩, ((Bl.refl _).alloc _).alloc _⟩
      · unfold rightM; rw [← HK.out]; simp
      · unfold rightM; rw [← HK.out]; exact Enc.Own.nil _ _ _
    · go_enter Try.func52, Try.ntmps52
      go_wp2_with (first | (go_at_call 12; refine (within_any _ _ _ (by omega)).mono ?_; rintro e w' ⟨rfl, rfl⟩; try rw [← HK.out]))
      refine bodyPost_ret (v := .agg #[.int .i64 2, .int .i64 (within t 100), .int .i64 0, .int .i64 0, .slice none 0 0]) (by simp [results, Try.results52, go_sem]) rfl ⟨_, rfl, ⟨.slice none 0 0, ?_, ?_⟩, ((Bl.refl _).alloc _).alloc _⟩
      · unfold rightM; rw [← HK.out]; simp
      · unfold rightM; rw [← HK.out]; exact Enc.Own.nil _ _ _
  · by_cases h3 : kk = 2
    · subst h3
      have b4 := within_bd f (within o 1001 + 1) (by omega)
      have hwr : IntKind.i64.wrap (within o 1001 + 1) = within o 1001 + 1 := IntWalk.i64_in _ (by omega)
      go_enter Try.func52, Try.ntmps52
      go_wp2_with (first | (go_at_call 12; refine (within_any _ _ _ (by omega)).mono ?_; rintro e w' ⟨rfl, rfl⟩; try rw [← HK.out]))
      refine wp_region_ways (S := (fun w' => w'.cell? ⟨w.heap.size, 1, none⟩ = some (.int .i64 t) ∧ w'.cell? ⟨w.heap.size, 2, none⟩ = some (.int .i64 f) ∧ w'.cell? ⟨w.heap.size, 4, none⟩ = some (.slice A n c))) [0, 1, 2, 4, 5, 6, 7, 9, 10, 11, 13] (y := .take 0 (.take 1 (.take 2 (.take 4 (.take 5 (.take 6 (.take 7 (.take 9 (.take 10 (.take 11 (.ev 3 (.ev 8 (.ev 12 (.take 13 (.ev 14 (.done) (.stop))) (.stop)) (.stop)) (.stop)))))))))))) (by kernel_rfl) (by kernel_rfl) (by kernel_rfl) ?_ (fun hHeld => ?_)
      · refine ⟨?_, ?_, ?_⟩ <;> go_simp
      repeat (first | (refine wpWay_take rfl (by rfl) (by intro w hSw; (try dsimp only at hSw); first | (go_simp; done) | (go_simp; with_reducible rfl)) ?_; try simp only [Act.put, List.setIfInBounds_toArray, List.set_cons_zero, List.set_cons_succ]) | (refine wpWay_skip rfl (by rfl) ?_; try simp only [Act.put, List.setIfInBounds_toArray, List.set_cons_zero, List.set_cons_succ]))
      clear hwr
      have HH := Lib.hid hHeld
      clear hHeld
      refine wpWay_ev rfl (fun K hK => ?_) wpWay_stop
      go_wp2_with fail
      refine (within_any _ _ _ (by omega)).mono ?_
      rintro e w1 ⟨rfl, rfl⟩
      go_wp2_with fail
      refine ⟨HH.out, ?_⟩
      repeat (first | (refine wpWay_take rfl (by rfl) (by intro w hSw; (try dsimp only at hSw); first | (go_simp; done) | (go_simp; with_reducible rfl)) ?_; try simp only [Act.put, List.setIfInBounds_toArray, List.set_cons_zero, List.set_cons_succ]) | (refine wpWay_skip rfl (by rfl) ?_; try simp only [Act.put, List.setIfInBounds_toArray, List.set_cons_zero, List.set_cons_succ]))
      refine wpWay_ev rfl (fun K hK => ?_) wpWay_stop
      go_wp2_with fail
      refine (within_any _ _ _ (by omega)).mono ?_
      rintro e w1 ⟨rfl, rfl⟩
      go_wp2_with fail
      refine ⟨HH.out, ?_⟩
      repeat (first | (refine wpWay_take rfl (by rfl) (by intro w hSw; (try dsimp only at hSw); first | (go_simp; done) | (go_simp; with_reducible rfl)) ?_; try simp only [Act.put, List.setIfInBounds_toArray, List.set_cons_zero, List.set_cons_succ]) | (refine wpWay_skip rfl (by rfl) ?_; try simp only [Act.put, List.setIfInBounds_toArray, List.set_cons_zero, List.set_cons_succ]))
      refine wpWay_ev rfl (fun K hK => ?_) wpWay_stop
      go_wp2_with fail
      refine (row16_any _ _ 20 _ (HL.out.bl (((Bl.refl _).alloc _).alloc _).drew) (by decide)).mono ?_
      rintro e w1 ⟨u, rfl, ho, hb⟩
      obtain ⟨A2, c2, rfl⟩ := ho.slice
      go_wp2_with fail
      refine ⟨⟨hb.cell HH.out.1, hb.cell HH.out.2.1, hb.cell HH.out.2.2⟩, ?_⟩
      repeat (first | (refine wpWay_take rfl (by rfl) (by intro w hSw; (try dsimp only at hSw); first | (go_simp; done) | (go_simp; with_reducible rfl)) ?_; try simp only [Act.put, List.setIfInBounds_toArray, List.set_cons_zero, List.set_cons_succ]) | (refine wpWay_skip rfl (by rfl) ?_; try simp only [Act.put, List.setIfInBounds_toArray, List.set_cons_zero, List.set_cons_succ]))
      refine wpWay_ev rfl (fun K hK => ?_) wpWay_stop
      obtain ⟨hc, hf⟩ := bcell hb
      have hz : w.heap.size + 1 < w1.heap.size := by have := hb.size; simp at this; omega
      go_wp2_with fail
      refine ⟨?_, ?_⟩
      · refine ⟨?_, ?_, ?_⟩ <;> go_simp
      refine wpWay_done ?_
      go_wp2_with fail
      refine bodyPost_ret (v := .agg #[.int .i64 3, .int .i64 (within t 100), .int .i64 (within f (within o 1001 + 1)), .int .i64 (within o 1001), .slice A2 (rowM l 20).length c2]) (by simp [results, Try.results52, go_sem, hc]) rfl ⟨_, rfl, ⟨.slice A2 (rowM l 20).length c2, ?_, ?_⟩, ?_⟩
      · unfold rightM; rw [← HK.out]; simp
      · unfold rightM; rw [← HK.out]
        refine Enc.Own.low (base := w.heap.size + 2) ?_ (by omega)
        iterate 5 refine Enc.Own.set ?_ _ _ _ (by omega)
        exact ho.low (by simp)
      · iterate 5 refine Bl.set ?_ _ _ _ (by omega)
        exact (((Bl.refl _).alloc _).alloc _).drew.bl hb
    · have h4 : kk = 3 ∨ kk = 4 := by omega
      rcases h4 with rfl | rfl
      · go_enter Try.func52, Try.ntmps52
        go_wp2_with (first | (go_at_call 12; refine (within_any _ _ _ (by omega)).mono ?_; rintro e w' ⟨rfl, rfl⟩; try rw [← HK.out]))
        refine bodyPost_ret (v := .agg #[.int .i64 4, .int .i64 0, .int .i64 0, .int .i64 0, .slice none 0 0]) (by simp [results, Try.results52, go_sem]) rfl ⟨_, rfl, ⟨.slice none 0 0, ?_, ?_⟩, ((Bl.refl _).alloc _).alloc _⟩
        · unfold rightM; rw [← HK.out]; simp
        · unfold rightM; rw [← HK.out]; exact Enc.Own.nil _ _ _
      · go_enter Try.func52, Try.ntmps52
        go_wp2_with (first | (go_at_call 12; refine (within_any _ _ _ (by omega)).mono ?_; rintro e w' ⟨rfl, rfl⟩; try rw [← HK.out]))
        refine bodyPost_ret (v := .agg #[.int .i64 5, .int .i64 0, .int .i64 0, .int .i64 0, .slice none 0 0]) (by simp [results, Try.results52, go_sem]) rfl ⟨_, rfl, ⟨.slice none 0 0, ?_, ?_⟩, ((Bl.refl _).alloc _).alloc _⟩
        · unfold rightM; rw [← HK.out]; simp
        · unfold rightM; rw [← HK.out]; exact Enc.Own.nil _ _ _

set_option maxHeartbeats 1000000 in
theorem kcutExt_ex (A : Option Addr) (n c m : Nat) (w : World) (hn : n ≤ c) (hc : c ≤ maxLen) (h0 : A = none → c = 0) (hm : m ≤ 1000) :
    Calls Try.prog 51 #[.slice A n c, .int .i64 m] w fun e w' => e = .returned (.slice A (min n m) c) ∧ w = w' := by
  unfold maxLen at hc
  cases A with
  | none =>
    have hc0 : c = 0 := h0 rfl
    have hl : n = 0 := by omega
    subst hc0; subst hl
    go_enter Try.func51, Try.ntmps51
    go_wp2
    go_ret
    refine ⟨?_, rfl⟩
    have e : (min (0 : Int) m).toNat = 0 := by omega
    show Ending.returned (.slice none (min (0 : Int) m).toNat 0) = .returned (.slice none (min 0 m) 0)
    rw [e, Nat.zero_min]
  | some ad =>
    go_enter Try.func51, Try.ntmps51
    go_wp2
    go_ret
    refine ⟨?_, rfl⟩
    rw [show min n m = (min (n : Int) m).toNat by omega]; rfl

def changeM (k n : Int) : Int := if k = 3 then blocks n else 0
end Go.Proofs.Ytddcjekkimajpaa.ExtW
