/- Contracts of sync.Once at a checksum's table: Lock, Unlock, fill, doSlow, Do. One goroutine. -/
import Derived.Test.YtoocebghlchcoaaGreatCrcW
import Derived.Defers
import Derived.Laws.Pointers
import Derived.Laws.LoneSync
import Derived.RegionTactic
import Derived.RegionCalls
import Derived.Laws.NewBlocks
namespace Go.Proofs.YtoocebghlchcoaaGreat.ExtW
open Go.RowKit Go.Ov Go.Proofs.YtoocebghlchcoaaGreat.Need

theorem rdisable (w : World) : (callFunc 203 #[]).run Tryz.prog w = .ok (.value (.tuple #[])) w := run_call_mark0 Tryz.func203 (by kernel_rfl) (by kernel_rfl) (by kernel_rfl) .disable (by kernel_rfl) w
theorem renable (w : World) : (callFunc 205 #[]).run Tryz.prog w = .ok (.value (.tuple #[])) w := run_call_mark0 Tryz.func205 (by kernel_rfl) (by kernel_rfl) (by kernel_rfl) .enable (by kernel_rfl) w
theorem racquire (a : Addr) (w : World) : (callFunc 206 #[.pointer (some a)]).run Tryz.prog w = .ok (.value (.tuple #[])) w := run_call_marked Tryz.func206 (by kernel_rfl) (by kernel_rfl) (by kernel_rfl) .acquire (by kernel_rfl) a w
theorem rrelmerge (a : Addr) (w : World) : (callFunc 208 #[.pointer (some a)]).run Tryz.prog w = .ok (.value (.tuple #[])) w := run_call_marked Tryz.func208 (by kernel_rfl) (by kernel_rfl) (by kernel_rfl) .releaseMerge (by kernel_rfl) a w
set_option maxRecDepth 100000 in
set_option maxHeartbeats 1600000 in
theorem ostore_def (a : Addr) (x : Value) (u : FrameMode) (w : World) (hc : w.cell? a = some x) (hz : w.frozen? a = false) :
    CallsD Tryz.prog 198 #[.pointer (some a), .bool true] u w fun e u' w' => u' = u ∧ (e = .returned (.tuple #[]) ∧ w' = w.drew.setCell a (.int .u32 1)) := by
  have hc' : w.drew.cell? a = some x := by go_simp
  have hz' : w.drew.frozen? a = false := by go_simp
  have hst := run_call_store (P := Tryz.prog) Tryz.func201 (by kernel_rfl) (by kernel_rfl) (by kernel_rfl) (by kernel_rfl) (k := .u32) (y := 1) hc' hz'
  go_enter_d Tryz.func198, Tryz.ntmps198
  go_wp2
  go_region_calls
  all_goals (go_end0; exact ⟨rfl, rfl⟩)
set_option maxRecDepth 100000 in
set_option maxHeartbeats 1600000 in
theorem ounlock_def (a : Addr) (u : FrameMode) (w : World) (hc : w.cell? a = some (.int .i32 1)) (hz : w.frozen? a = false) :
    CallsD Tryz.prog 197 #[.pointer (some a)] u w fun e u' w' => u' = u ∧ (e = .returned (.tuple #[]) ∧ w' = w.setCell a (.int .i32 0)) := by
  have hd := rdisable
  have he := renable
  have hr := rrelmerge
  have hadd := run_call_add (P := Tryz.prog) Tryz.func209 (by kernel_rfl) (by kernel_rfl) (by kernel_rfl) .i32 (by kernel_rfl) (y := -1) (s := 0) hc hz (by simp [go_sem]; rfl)
  have hcv := run_convert_to_unsafe (P := Tryz.prog) (src := 291) (dst := 295) Tryz.underlying291 Tryz.underlying295 (by kernel_rfl) hc
  go_enter_d Tryz.func197, Tryz.ntmps197
  go_wp2
  go_end0
  go_wp2
  go_end0
  exact ⟨rfl, rfl⟩
set_option maxRecDepth 100000 in
set_option maxHeartbeats 1600000 in
theorem olock (a : Addr) (w : World) (hc : w.cell? a = some (.int .i32 0)) (hz : w.frozen? a = false) :
    Calls Tryz.prog 196 #[.pointer (some a)] w fun e w' => e = .returned (.tuple #[]) ∧ w' = w.setCell a (.int .i32 1) := by
  have hd := rdisable
  have he := renable
  have ha := racquire
  have hcas := run_call_cas_hit (P := Tryz.prog) Tryz.func204 (by kernel_rfl) (by kernel_rfl) (by kernel_rfl) .i32 (by kernel_rfl) (y := 1) hc hz
  have hc' : (w.setCell a (.int .i32 1)).cell? a = some (.int .i32 1) := World.cell?_setCell_same w a _ hc
  have hcv := run_convert_to_unsafe (P := Tryz.prog) (src := 291) (dst := 295) Tryz.underlying291 Tryz.underlying295 (by kernel_rfl) hc'
  go_enter Tryz.func196, Tryz.ntmps196
  go_wp2
  first | go_end0 | (simp only [Exit.inBlock, Exit.then]; refine bodyPost_ret (results_none rfl _ _ _) rfl ?_) | refine bodyPost_ret (results_none rfl _ _ _) rfl ?_
  go_wp2
  go_end0
  exact ⟨rfl, rfl⟩

/-- what a byte does to a sum -/
def tabF (i : Nat) : Int := (stepC 8 (BitVec.ofNat 32 i <<< 24)).toNat
theorem tab_size (d s : Int) (m : Bool) (f : Nat → Int) : (tabC d s m f).size = 260 := by simp [tabC, tabL]
theorem tab_at (d s : Int) (m : Bool) (f : Nat → Int) (i : Nat) (h : i < 256) : (tabC d s m f)[4 + i]? = some (.int .u32 (f i)) := by
  rw [tabC, List.getElem?_toArray, tabL, show 4 + i = i + 1 + 1 + 1 + 1 by omega]
  simp [h]
theorem tab_d (d d' s : Int) (m : Bool) (f : Nat → Int) : (tabC d s m f).setIfInBounds 0 (.int .u32 d') = tabC d' s m f := by simp [tabC, tabL]
theorem tab_s (d s s' : Int) (m : Bool) (f : Nat → Int) : (tabC d s m f).setIfInBounds 1 (.int .i32 s') = tabC d s' m f := by simp [tabC, tabL]
theorem tab_m (d s : Int) (m m' : Bool) (f : Nat → Int) : (tabC d s m f).setIfInBounds 3 (.bool m') = tabC d s m' f := by simp [tabC, tabL]
theorem tab_f (d s : Int) (m : Bool) (f : Nat → Int) (i : Nat) (x : Int) : (tabC d s m f).setIfInBounds (4 + i) (.int .u32 x) = tabC d s m (fun j => if j = i then x else f j) := by
  simp only [tabC, tabL, List.setIfInBounds_toArray, show 4 + i = i + 1 + 1 + 1 + 1 by omega, List.set_cons_succ]
  congr 5
  apply List.ext_getElem (by simp)
  intro j h1 h2
  rw [List.getElem_set]
  simp only [List.getElem_map, List.getElem_range]
  by_cases h : i = j
  · subst h; simp
  · rw [if_neg h, if_neg (fun e => h e.symm)]
theorem tab_ext (d s : Int) (m : Bool) {f g : Nat → Int} (h : ∀ i, i < 256 → f i = g i) : tabC d s m f = tabC d s m g := by
  unfold tabC tabL
  congr 5
  exact List.map_congr_left fun i hi => by rw [h i (List.mem_range.1 hi)]

set_option maxRecDepth 100000 in
set_option maxHeartbeats 1000000 in
theorem cfill_any (B : Nat) (d s : Int) (w : World) (h : Blk w B (tabC d s false fun _ => 0) 201) :
    Calls Tryz.prog 167 #[.pointer (some ⟨B, 0, none⟩)] w fun e w' => e = .returned (.tuple #[]) ∧ Blk w' B (tabC d s true tabF) 201 ∧ w.grownBy w' (some B) := by
  have HB := Lib.hid h
  clear h
  go_enter Tryz.func167, Tryz.ntmps167
  go_wp2_with fail
  go_loopg [3] 256 (fun gk i wr => ∃ (k : Nat), k ≤ 256 ∧ gk = 256 - k ∧ i = .int .i64 k ∧ Hid (Blk wr B (tabC d s false fun j => if j < k then tabF j else 0) 201) ∧ Hid (w.grownBy wr (some B)))
  case atStart => exact ⟨0, by omega, rfl, rfl, Lib.hid (by simpa using HB.out), Lib.hid (World.grownBy.refl _ _)⟩
  case round =>
    obtain ⟨k, hk, hgk, rfl, HK, HG⟩ := hrel
    have hlB := HK.out.lt
    by_cases hlt : k < 256
    · have hlti : (k : Int) < 256 := by omega
      have c0 := HK.out.cell (4 + k)
      rw [tab_at _ _ _ _ _ hlt] at c0
      have f0 := HK.out.frozen (4 + k)
      have HX := Lib.hid (show (k : Int) * (16777216 : Int) = ((BitVec.ofNat 32 k <<< 24).toNat : Int) by
        rw [BitVec.toNat_shiftLeft, BitVec.toNat_ofNat, Nat.shiftLeft_eq]; omega)
      simp only [Nat.lt_irrefl, if_false] at c0
      have i1 : (k : Int) < 256 := hlti
      go_wp2_with fail
      refine wp_region_ways (S := (fun w' => B < w'.heap.size)) [0, 1, 2, 3, 4, 6, 7, 8] (y := .take 0 (.take 1 (.take 2 (.take 3 (.take 4 (.take 6 (.take 7 (.ev 5 (.take 8 (.ev 9 (.done) (.stop))) (.stop))))))))) (by kernel_rfl) (by kernel_rfl) (by kernel_rfl) ?_ (fun hHeld => ?_)
      · exact hlB
      have HHe := Lib.hid hHeld
      clear hHeld
      repeat (first | (refine wpWay_take rfl (by rfl) (by intro w hSw; (try dsimp only at hSw); first | (go_simp; done) | (go_simp; with_reducible rfl)) ?_; try simp only [Act.put, List.setIfInBounds_toArray, List.set_cons_zero, List.set_cons_succ]) | (refine wpWay_skip rfl (by rfl) ?_; try simp only [Act.put, List.setIfInBounds_toArray, List.set_cons_zero, List.set_cons_succ]))
      refine wpWay_ev rfl (fun K hK => ?_) wpWay_stop
      go_wp2_with fail
      refine (cstep_at _ _ HX.out _).mono ?_
      rintro e w' ⟨rfl, rfl⟩
      have HF := Lib.hid (show ((stepC 8 (BitVec.ofNat 32 k <<< 24)).toNat : Int) = tabF k from rfl)
      rw [HF.out]
      generalize tabF k = y at *
      go_wp2_with fail
      refine ⟨HHe.out, ?_⟩
      repeat (first | (refine wpWay_take rfl (by rfl) (by intro w hSw; (try dsimp only at hSw); first | (go_simp; done) | (go_simp; with_reducible rfl)) ?_; try simp only [Act.put, List.setIfInBounds_toArray, List.set_cons_zero, List.set_cons_succ]) | (refine wpWay_skip rfl (by rfl) ?_; try simp only [Act.put, List.setIfInBounds_toArray, List.set_cons_zero, List.set_cons_succ]))
      have d0 := (Bl.refl wr).drew.cell c0
      refine wpWay_ev rfl (fun K hK => ?_) wpWay_stop
      go_wp2_with fail
      have HK2 := Lib.hid (show Blk (wr.setCell ⟨B, 4 + k, none⟩ (.int .u32 y)).drew B (tabC d s false fun j => if j < k + 1 then tabF j else 0) 201 by
        have h := (HK.out.set (4 + k) (.int .u32 y)).bl (Bl.refl _).drew
        rw [tab_f] at h
        rw [tab_ext d s false (g := fun j => if j = k then y else if j < k then tabF j else 0)]
        · exact h
        · intro i _
          by_cases h1 : i = k
          · subst h1; rw [if_pos rfl, if_pos (by omega), ← HF.out]; rfl
          · rw [if_neg h1]
            by_cases h2 : i < k
            · rw [if_pos h2, if_pos (by omega)]
            · rw [if_neg h2, if_neg (by omega)])
      refine ⟨by simp [World.setCell]; exact hlB, ?_⟩
      refine wpWay_done ?_
      go_wp2_with fail
      go_roundg (256 - (k + 1))
      case measure => omega
      case rel => exact ⟨k + 1, by omega, rfl, by go_num, HK2, Lib.hid (gb_drew (HG.out.trans (setCell_grown _ _ _ _)))⟩
    · obtain rfl : k = 256 := by omega
      have HK2 := Lib.hid (show Blk wr B (tabC d s false tabF) 201 by
        rw [tab_ext d s false (f := tabF) (g := fun j => if j < 256 then tabF j else 0) (fun i h => by rw [if_pos h])]; exact HK.out)
      have c3 := HK2.out.cell 3
      have f3 := HK2.out.frozen 3
      have c3 : wr.cell? ⟨B, 3, none⟩ = some (.bool false) := c3
      go_wp2
      go_end0
      refine ⟨rfl, ?_, HG.out.trans (setCell_grown _ _ _ _)⟩
      have := HK2.out.set 3 (.bool true)
      rwa [tab_m] at this
end Go.Proofs.YtoocebghlchcoaaGreat.ExtW
