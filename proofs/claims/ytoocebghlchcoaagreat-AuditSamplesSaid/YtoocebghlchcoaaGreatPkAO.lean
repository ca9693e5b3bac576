/- Several texts joined (see each one's head). -/
import Derived.Test.YtoocebghlchcoaaGreatPkAN
import Derived.Defers
import Derived.Laws.Pointers
import Derived.Laws.LoneSync
import Derived.RegionTactic
import Derived.RegionCalls
import Derived.Laws.NewBlocks
import Derived.Test.YtoocebghlchcoaaGreatPkAH
/- Contracts of sync.Once at a checksum's table: Lock, Unlock, fill, doSlow, Do. One goroutine. -/
namespace Go.Proofs.YtoocebghlchcoaaGreat.ExtW
open Go.RowKit Go.Ov Go.Proofs.YtoocebghlchcoaaGreat.Need

theorem rdisable (w : World) : (callFunc 203 #[]).run Tryz.prog w = .ok (.value (.tuple #[])) w := run_call_mark0 Tryz.func203 (by kernel_rfl) (by kernel_rfl) (by kernel_rfl) .disable (by kernel_rfl) w
theorem renable (w : World) : (callFunc 205 #[]).run Tryz.prog w = .ok (.value (.tuple #[])) w := run_call_mark0 Tryz.func205 (by kernel_rfl) (by kernel_rfl) (by kernel_rfl) .enable (by kernel_rfl) w
theorem racquire (a : Addr) (w : World) : (callFunc 206 #[.pointer (some a)]).run Tryz.prog w = .ok (.value (.tuple #[])) w := run_call_marked Tryz.func206 (by kernel_rfl) (by kernel_rfl) (by kernel_rfl) .acquire (by kernel_rfl) a w
theorem rrelmerge (a : Addr) (w : World) : (callFunc 208 #[.pointer (some a)]).run Tryz.prog w = .ok (.value (.tuple #[])) w := run_call_marked Tryz.func208 (by kernel_rfl) (by kernel_rfl) (by kernel_rfl) .releaseMerge (by kernel_rfl) a w
set_option maxRecDepth 100000 in
set_option maxHeartbeats 1600000 in
theorem ostore_def (a : Addr) (x : Value) (u : FrameMode) (w : World) (hc : w.cell? a = some x) (hz : w.frozen? a = false) :
    CallsD Tryz.prog 198 #[.pointer (some a), .bool true] u w fun e u' w' => u' = u ∧ (e = .returned (.tuple #[]) ∧ w' = w.drew.setCell a (.int .u32 1)) := by
  have hc' : w.drew.cell? a = some x := by go_simp
  have hz' : w.drew.frozen? a = false := by go_simp
  have hst := run_call_store (P := Tryz.prog) Tryz.func201 (by kernel_rfl) (by kernel_rfl) (by kernel_rfl) (by kernel_rfl) (k := .u32) (y := 1) hc' hz'
  go_enter_d Tryz.func198, Tryz.ntmps198
  go_wp2
  go_region_calls
  all_goals (go_end0; exact ⟨rfl, rfl⟩)
set_option maxRecDepth 100000 in
set_option maxHeartbeats 1600000 in
theorem ounlock_def (a : Addr) (u : FrameMode) (w : World) (hc : w.cell? a = some (.int .i32 1)) (hz : w.frozen? a = false) :
    CallsD Tryz.prog 197 #[.pointer (some a)] u w fun e u' w' => u' = u ∧ (e = .returned (.tuple #[]) ∧ w' = w.setCell a (.int .i32 0)) := by
  have hd := rdisable
  have he := renable
  have hr := rrelmerge
  have hadd := run_call_add (P := Tryz.prog) Tryz.func209 (by kernel_rfl) (by kernel_rfl) (by kernel_rfl) .i32 (by kernel_rfl) (y := -1) (s := 0) hc hz (by simp [go_sem]; rfl)
  have hcv := run_convert_to_unsafe (P := Tryz.prog) (src := 291) (dst := 295) Tryz.underlying291 Tryz.underlying295 (by kernel_rfl) hc
  go_enter_d Tryz.func197, Tryz.ntmps197
  go_wp2
  go_end0
  go_wp2
  go_end0
  exact ⟨rfl, rfl⟩
set_option maxRecDepth 100000 in
set_option maxHeartbeats 1600000 in
theorem olock (a : Addr) (w : World) (hc : w.cell? a = some (.int .i32 0)) (hz : w.frozen? a = false) :
    Calls Tryz.prog 196 #[.pointer (some a)] w fun e w' => e = .returned (.tuple #[]) ∧ w' = w.setCell a (.int .i32 1) := by
  have hd := rdisable
  have he := renable
  have ha := racquire
  have hcas := run_call_cas_hit (P := Tryz.prog) Tryz.func204 (by kernel_rfl) (by kernel_rfl) (by kernel_rfl) .i32 (by kernel_rfl) (y := 1) hc hz
  have hc' : (w.setCell a (.int .i32 1)).cell? a = some (.int .i32 1) := World.cell?_setCell_same w a _ hc
  have hcv := run_convert_to_unsafe (P := Tryz.prog) (src := 291) (dst := 295) Tryz.underlying291 Tryz.underlying295 (by kernel_rfl) hc'
  go_enter Tryz.func196, Tryz.ntmps196
  go_wp2
  first | go_end0 | (simp only [Exit.inBlock, Exit.then]; refine bodyPost_ret (results_none rfl _ _ _) rfl ?_) | refine bodyPost_ret (results_none rfl _ _ _) rfl ?_
  go_wp2
  go_end0
  exact ⟨rfl, rfl⟩

/-- what a byte does to a sum -/
def tabF (i : Nat) : Int := (stepC 8 (BitVec.ofNat 32 i <<< 24)).toNat
theorem tab_size (d s : Int) (m : Bool) (f : Nat → Int) : (tabC d s m f).size = 260 := by simp [tabC, tabL]
theorem tab_at (d s : Int) (m : Bool) (f : Nat → Int) (i : Nat) (h : i < 256) : (tabC d s m f)[4 + i]? = some (.int .u32 (f i)) := by
  rw [tabC, List.getElem?_toArray, tabL, show 4 + i = i + 1 + 1 + 1 + 1 by omega]
  simp [h]
theorem tab_d (d d' s : Int) (m : Bool) (f : Nat → Int) : (tabC d s m f).setIfInBounds 0 (.int .u32 d') = tabC d' s m f := by simp [tabC, tabL]
theorem tab_s (d s s' : Int) (m : Bool) (f : Nat → Int) : (tabC d s m f).setIfInBounds 1 (.int .i32 s') = tabC d s' m f := by simp [tabC, tabL]
theorem tab_m (d s : Int) (m m' : Bool) (f : Nat → Int) : (tabC d s m f).setIfInBounds 3 (.bool m') = tabC d s m' f := by simp [tabC, tabL]
theorem tab_f (d s : Int) (m : Bool) (f : Nat → Int) (i : Nat) (x : Int) : (tabC d s m f).setIfInBounds (4 + i) (.int .u32 x) = tabC d s m (fun j => if j = i then x else f j) := by
  simp only [tabC, tabL, List.setIfInBounds_toArray, show 4 + i = i + 1 + 1 + 1 + 1 by omega, List.set_cons_succ]
  congr 5
  apply List.ext_getElem (by simp)
  intro j h1 h2
  rw [List.getElem_set]
  simp only [List.getElem_map, List.getElem_range]
  by_cases h : i = j
  · subst h; simp
  · rw [if_neg h, if_neg (fun e => h e.symm)]
theorem tab_ext (d s : Int) (m : Bool) {f g : Nat → Int} (h : ∀ i, i < 256 → f i = g i) : tabC d s m f = tabC d s m g := by
  unfold tabC tabL
  congr 5
  exact List.map_congr_left fun i hi => by rw [h i (List.mem_range.1 hi)]

set_option maxRecDepth 100000 in
set_option maxHeartbeats 1000000 in
theorem cfill_any (B : Nat) (d s : Int) (w : World) (h : Blk w B (tabC d s false fun _ => 0) 201) :
    Calls Tryz.prog 167 #[.pointer (some ⟨B, 0, none⟩)] w fun e w' => e = .returned (.tuple #[]) ∧ Blk w' B (tabC d s true tabF) 201 ∧ w.grownBy w' (some B) := by
  have HB := Lib.hid h
  clear h
  go_enter Tryz.func167, Tryz.ntmps167
  go_wp2_with fail
  go_loopg [3] 256 (fun gk i wr => ∃ (k : Nat), k ≤ 256 ∧ gk = 256 - k ∧ i = .int .i64 k ∧ Hid (Blk wr B (tabC d s false fun j => if j < k then tabF j else 0) 201) ∧ Hid (w.grownBy wr (some B)))
  case atStart => exact ⟨0, by omega, rfl, rfl, Lib.hid (by simpa using HB.out), Lib.hid (World.grownBy.refl _ _)⟩
  case round =>
    obtain ⟨k, hk, hgk, rfl, HK, HG⟩ := hrel
    have hlB := HK.out.lt
    by_cases hlt : k < 256
    · have hlti : (k : Int) < 256 := by omega
      have c0 := HK.out.cell (4 + k)
      rw [tab_at _ _ _ _ _ hlt] at c0
      have f0 := HK.out.frozen (4 + k)
      have HX := Lib.hid (show (k : Int) * (16777216 : Int) = ((BitVec.ofNat 32 k <<< 24).toNat : Int) by
        rw [BitVec.toNat_shiftLeft, BitVec.toNat_ofNat, Nat.shiftLeft_eq]; omega)
      simp only [Nat.lt_irrefl, if_false] at c0
      have i1 : (k : Int) < 256 := hlti
      go_wp2_with fail
      refine wp_region_ways (S := (fun w' => B < w'.heap.size)) [0, 1, 2, 3, 4, 6, 7, 8] (y := .take 0 (.take 1 (.take 2 (.take 3 (.take 4 (.take 6 (.take 7 (.ev 5 (.take 8 (.ev 9 (.done) (.stop))) (.stop))))))))) (by kernel_rfl) (by kernel_rfl) (by kernel_rfl) ?_ (fun hHeld => ?_)
      · exact hlB
      have HHe := Lib.hid hHeld
      clear hHeld
      repeat (first | (refine wpWay_take rfl (by rfl) (by intro w hSw; (try dsimp only at hSw); first | (go_simp; done) | (go_simp; with_reducible rfl)) ?_; try simp only [Act.put, List.setIfInBounds_toArray, List.set_cons_zero, List.set_cons_succ]) | (refine wpWay_skip rfl (by rfl) ?_; try simp only [Act.put, List.setIfInBounds_toArray, List.set_cons_zero, List.set_cons_succ]))
      refine wpWay_ev rfl (fun K hK => ?_) wpWay_stop
      go_wp2_with fail
      refine (cstep_at _ _ HX.out _).mono ?_
      rintro e w' ⟨rfl, rfl⟩
      have HF := Lib.hid (show ((stepC 8 (BitVec.ofNat 32 k <<< 24)).toNat : Int) = tabF k from rfl)
      rw [HF.out]
      generalize tabF k = y at *
      go_wp2_with fail
      refine ⟨HHe.out, ?_⟩
      repeat (first | (refine wpWay_take rfl (by rfl) (by intro w hSw; (try dsimp only at hSw); first | (go_simp; done) | (go_simp; with_reducible rfl)) ?_; try simp only [Act.put, List.setIfInBounds_toArray, List.set_cons_zero, List.set_cons_succ]) | (refine wpWay_skip rfl (by rfl) ?_; try simp only [Act.put, List.setIfInBounds_toArray, List.set_cons_zero, List.set_cons_succ]))
      have d0 := (Bl.refl wr).drew.cell c0
      refine wpWay_ev rfl (fun K hK => ?_) wpWay_stop
      go_wp2_with fail
      have HK2 := Lib.hid (show Blk (wr.setCell ⟨B, 4 + k, none⟩ (.int .u32 y)).drew B (tabC d s false fun j => if j < k + 1 then tabF j else 0) 201 by
        have h := (HK.out.set (4 + k) (.int .u32 y)).bl (Bl.refl _).drew
        rw [tab_f] at h
        rw [tab_ext d s false (g := fun j => if j = k then y else if j < k then tabF j else 0)]
        · exact h
        · intro i _
          by_cases h1 : i = k
          · subst h1; rw [if_pos rfl, if_pos (by omega), ← HF.out]; rfl
          · rw [if_neg h1]
            by_cases h2 : i < k
            · rw [if_pos h2, if_pos (by omega)]
            · rw [if_neg h2, if_neg (by omega)])
      refine ⟨by simp [World.setCell]; exact hlB, ?_⟩
      refine wpWay_done ?_
      go_wp2_with fail
      go_roundg (256 - (k + 1))
      case measure => omega
      case rel => exact ⟨k + 1, by omega, rfl, by go_num, HK2, Lib.hid (gb_drew (HG.out.trans (setCell_grown _ _ _ _)))⟩
    · obtain rfl : k = 256 := by omega
      have HK2 := Lib.hid (show Blk wr B (tabC d s false tabF) 201 by
        rw [tab_ext d s false (f := tabF) (g := fun j => if j < 256 then tabF j else 0) (fun i h => by rw [if_pos h])]; exact HK.out)
      have c3 := HK2.out.cell 3
      have f3 := HK2.out.frozen 3
      have c3 : wr.cell? ⟨B, 3, none⟩ = some (.bool false) := c3
      go_wp2
      go_end0
      refine ⟨rfl, ?_, HG.out.trans (setCell_grown _ _ _ _)⟩
      have := HK2.out.set 3 (.bool true)
      rwa [tab_m] at this
end Go.Proofs.YtoocebghlchcoaaGreat.ExtW

/- Contracts of sync.Once.Do at a checksum's table; crc.Add, Sum. One goroutine. -/
namespace Go.Proofs.YtoocebghlchcoaaGreat.ExtW
open Go.RowKit Go.Ov Go.Proofs.YtoocebghlchcoaaGreat.Need

set_option maxRecDepth 100000 in
set_option maxHeartbeats 1600000 in
theorem oslow_any (B : Nat) (w : World) (h : Blk w B (tabC 0 0 false fun _ => 0) 201) :
    Calls Tryz.prog 189 #[.pointer (some ⟨B, 0, none⟩), .func (.func 167) #[.pointer (some ⟨B, 0, none⟩)] #[]] w fun e w' => e = .returned (.tuple #[]) ∧ Blk w' B (tabC 1 0 true tabF) 201 ∧ w.grownBy w' (some B) := by
  have HB := Lib.hid h
  have h0 : w.cell? ⟨B, 0, none⟩ = some (.int .u32 0) := h.cell 0
  have h1 : w.cell? ⟨B, 1, none⟩ = some (.int .i32 0) := h.cell 1
  have f0 := h.frozen 0
  have f1 := h.frozen 1
  have HK1 := Lib.hid (show Blk (w.setCell ⟨B, 1, none⟩ (.int .i32 1)) B (tabC 0 1 false fun _ => 0) 201 by have := h.set 1 (.int .i32 1); rwa [tab_s] at this)
  have hl := run_call_load (P := Tryz.prog) Tryz.func195 (by kernel_rfl) (by kernel_rfl) (by kernel_rfl) .u32 (by kernel_rfl) (w := w.setCell ⟨B, 1, none⟩ (.int .i32 1)) (a := ⟨B, 0, none⟩) (x := 0) (HK1.out.cell 0)
  have hnot : ∀ (x : Bool) (w : World), (Op.unary .not (.bool x)).run Tryz.prog w = .ok (.bool (!x)) w := fun _ _ => rfl
  clear h
  go_enter_defers Tryz.func189, Tryz.ntmps189
  go_wp2_with fail
  refine (olock ⟨B, 1, none⟩ _ h1 f1).mono ?_
  rintro e w' ⟨rfl, rfl⟩
  go_wp2_with (first | (go_at_call 167; refine (cfill_any B 0 1 _ HK1.out).mono ?_; rintro e w2 ⟨rfl, hk2, hg2⟩) | (go_at_call 188; go_in))
  have g0 : w2.cell? ⟨B, 0, none⟩ = some (.int .u32 0) := hk2.cell 0
  have k0 := hk2.frozen 0
  refine leaves_cons (f := 198) (args := #[.pointer (some ⟨B, 0, none⟩), .bool true]) (by simp) (by simp [go_sem]) ?_
  refine (ostore_def ⟨B, 0, none⟩ _ .returning _ g0 k0).mono ?_
  rintro e u' w3 ⟨rfl, rfl, rfl⟩
  have hk3 : Blk (w2.drew.setCell ⟨B, 0, none⟩ (.int .u32 1)) B (tabC 1 1 true tabF) 201 := by
    have := (hk2.bl (Bl.refl _).drew).set 0 (.int .u32 1); rwa [tab_d] at this
  have g1 : (w2.drew.setCell ⟨B, 0, none⟩ (.int .u32 1)).cell? ⟨B, 1, none⟩ = some (.int .i32 1) := hk3.cell 1
  have k1 := hk3.frozen 1
  refine leaves_cons (f := 197) (args := #[.pointer (some ⟨B, 1, none⟩)]) (by simp [settle]) (by simp [go_sem]) ?_
  refine (ounlock_def ⟨B, 1, none⟩ _ _ g1 k1).mono ?_
  rintro e u' w4 ⟨rfl, rfl, rfl⟩
  have hk4 := hk3.set 1 (.int .i32 0)
  rw [tab_s] at hk4
  have hg4 : w.grownBy ((w2.drew.setCell ⟨B, 0, none⟩ (.int .u32 1)).setCell ⟨B, 1, none⟩ (.int .i32 0)) (some B) :=
    ((gb_drew ((setCell_grown w B 1 (.int .i32 1)).trans hg2)).trans (setCell_grown _ _ _ _)).trans (setCell_grown _ _ _ _)
  simp only [Leaves, settle, results, Tryz.results189]
  simpa using ⟨hk4, hg4⟩

/-- a table, made or not -/
def TabSt (w : World) (B : Nat) : Prop := Blk w B (tabC 0 0 false fun _ => 0) 201 ∨ Blk w B (tabC 1 0 true tabF) 201
set_option maxRecDepth 100000 in
set_option maxHeartbeats 1600000 in
theorem once_any (B : Nat) (w : World) (h : TabSt w B) :
    Calls Tryz.prog 166 #[.pointer (some ⟨B, 0, none⟩), .func (.func 167) #[.pointer (some ⟨B, 0, none⟩)] #[]] w fun e w' => e = .returned (.tuple #[]) ∧ Blk w' B (tabC 1 0 true tabF) 201 ∧ w.grownBy w' (some B) := by
  have hnot : ∀ (x : Bool) (w : World), (Op.unary .not (.bool x)).run Tryz.prog w = .ok (.bool (!x)) w := fun _ _ => rfl
  rcases h with h | h
  · have hl := run_call_load (P := Tryz.prog) Tryz.func195 (by kernel_rfl) (by kernel_rfl) (by kernel_rfl) .u32 (by kernel_rfl) (w := w) (a := ⟨B, 0, none⟩) (x := 0) (h.cell 0)
    have HB := Lib.hid h
    clear h
    go_enter Tryz.func166, Tryz.ntmps166
    go_wp2_with (first | (go_at_call 189; refine (oslow_any B _ HB.out).mono ?_; rintro e w2 ⟨rfl, hk2, hg2⟩) | (go_at_call 188; go_in))
    go_end0
    exact ⟨rfl, hk2, hg2⟩
  · have hl := run_call_load (P := Tryz.prog) Tryz.func195 (by kernel_rfl) (by kernel_rfl) (by kernel_rfl) .u32 (by kernel_rfl) (w := w) (a := ⟨B, 0, none⟩) (x := 1) (h.cell 0)
    have HB := Lib.hid h
    clear h
    go_enter Tryz.func166, Tryz.ntmps166
    go_wp2
    go_end0
    exact ⟨rfl, HB.out, World.grownBy.refl _ _⟩

/-- all but one block -/
def nb1 (B : Nat) : Nat → Bool := fun b => decide (b ≠ B)

theorem xor_u8 (a b : Nat) (ha : a < 256) (hb : b < 256) : bits .xor .u8 (a : Int) (b : Int) = ((a ^^^ b : Nat) : Int) := by
  have hx : a ^^^ b < 2 ^ 8 := Nat.xor_lt_two_pow (by omega) (by omega)
  have h1 : (BitVec.ofInt 8 (a : Int)).toNat = a := by
    rw [BitVec.ofInt_natCast, BitVec.toNat_ofNat]; exact Nat.mod_eq_of_lt (by omega)
  have h2 : (BitVec.ofInt 8 (b : Int)).toNat = b := by
    rw [BitVec.ofInt_natCast, BitVec.toNat_ofNat]; exact Nat.mod_eq_of_lt (by omega)
  show IntKind.u8.wrap ((BitVec.ofInt 8 (a : Int) ^^^ BitVec.ofInt 8 (b : Int)).toNat : Int) = _
  rw [BitVec.toNat_xor, h1, h2]
  have : IntKind.u8.wrap ((a ^^^ b : Nat) : Int) = ((a ^^^ b : Nat) : Int) % 256 := by simp [IntKind.wrap, IntKind.bits, IntKind.signed]
  rw [this]; omega
theorem crcAdd_step (s : BitVec 32) (l : List Int) (k : Nat) (hk : k < l.length) : crcAdd s (l.take (k + 1)) = stepC 8 (crcAdd s (l.take k) ^^^ (BitVec.ofNat 32 l[k].toNat <<< 24)) := by
  unfold crcAdd; rw [List.take_succ_eq_append_getElem hk, List.foldl_append]; rfl
theorem crc_idx (t : BitVec 32) (c : Nat) (hc : c < 256) : ((t <<< 8) ^^^ BitVec.ofNat 32 (tabF ((t.toNat / 16777216) ^^^ c)).toNat) = stepC 8 (t ^^^ (BitVec.ofNat 32 c <<< 24)) := by
  rw [← crc_table]
  unfold tabF
  rw [Int.toNat_natCast, BitVec.ofNat_toNat, BitVec.setWidth_eq]
  congr 3
  apply BitVec.eq_of_toNat_eq
  have ht := t.isLt
  have hx : (t.toNat / 16777216) ^^^ c < 2 ^ 8 := Nat.xor_lt_two_pow (by omega) (by omega)
  rw [BitVec.toNat_ofNat, BitVec.toNat_xor, BitVec.toNat_ushiftRight, BitVec.toNat_ofNat, Nat.shiftRight_eq_div_pow, Nat.mod_eq_of_lt (by omega), Nat.mod_eq_of_lt (show c < 2 ^ 32 by omega)]
set_option maxRecDepth 100000 in
set_option maxHeartbeats 1600000 in
theorem cadd_any (B : Nat) (s : BitVec 32) (vb : Value) (l : List Int) (w : World) (h : TabSt w B) (hb : byteE.Is (only w (nb1 B)) vb l) (hl : l.length ≤ 1000000) (ho : okB l) :
    Calls Tryz.prog 137 #[.pointer (some ⟨B, 0, none⟩), .int .u32 s.toNat, vb] w fun e w' => e = .returned (.int .u32 (crcAdd s l).toNat) ∧ TabSt w' B ∧ w.grownBy w' (some B) := by
  have HB := Lib.hid h
  have HX := Lib.hid hb
  have HO := Lib.hid ho
  obtain ⟨A, c, rfl, h1, h2, h3, h4⟩ := hb
  have hmf : ∀ (fn : Fn) (first cap : Array Value) (w : World), (Instr.makeFunc fn first cap).run Tryz.prog w = .ok (.func fn first cap) w := fun _ _ _ _ => rfl
  clear h h1 h2 h3 h4 ho
  go_enter Tryz.func137, Tryz.ntmps137
  rcases (show l.length = 0 ∨ 0 < l.length by omega) with h0 | h0
  · have hnil : l = [] := List.eq_nil_of_length_eq_zero h0
    subst hnil
    go_wp2_with fail
    go_loopg [1, 20] 1 (fun gk v i wr => gk = 1 ∧ i = .int .i64 0 ∧ v = .int .u32 s.toNat ∧ wr = w)
    case atStart => exact ⟨rfl, rfl, rfl, rfl⟩
    case round =>
      obtain ⟨hgk, rfl, rfl, hw⟩ := hrel
      obtain rfl : w = wr := hw.symm
      go_wp2
      go_ret
      exact ⟨rfl, HB.out, World.grownBy.refl _ _⟩
  have h0i : (0 : Int) < l.length := by omega
  have hne : ¬ l = [] := fun e => by rw [e] at h0; simp at h0
  go_wp2_with fail
  refine (once_any B _ HB.out).mono ?_
  rintro e w1 ⟨rfl, hk1, hg1⟩
  have HK1 := Lib.hid hk1
  have HG1 := Lib.hid hg1
  have HX1 := Lib.hid ((Sub.grown hg1 (G := nb1 B) (fun k hk => by injection hk with hk; simp [nb1, hk])).is HX.out)
  clear hk1 hg1
  go_wp2_with fail
  go_loopg [1, 20] l.length (fun gk v i wr => ∃ (k : Nat), k ≤ l.length ∧ gk = l.length - k ∧ i = .int .i64 k ∧ v = .int .u32 (crcAdd s (l.take k)).toNat ∧ wr = w1)
  case atStart => exact ⟨0, by omega, rfl, rfl, rfl, rfl⟩
  case round =>
    obtain ⟨k, hk, hgk, rfl, rfl, hw⟩ := hrel
    obtain rfl : w1 = wr := hw.symm
    by_cases hlt : k < l.length
    · have hlti : (k : Int) < l.length := by omega
      obtain ⟨_, _, e1, _, _, _, hat⟩ := HX1.out
      simp only [Value.slice.injEq] at e1
      obtain ⟨rfl, -, -⟩ := e1
      obtain ⟨ad, rfl, c0⟩ := byte_at hat k hlt
      have c0 := (only_cell c0).2
      have HS := Lib.hid (crcAdd_step s l k hlt)
      have hc := HO.out _ (List.getElem_mem hlt)
      clear hat
      generalize l[k] = y at *
      obtain ⟨yn, rfl⟩ := Int.eq_ofNat_of_zero_le hc.1
      have hy : yn < 256 := by omega
      rw [Int.toNat_natCast] at HS
      generalize crcAdd s (l.take k) = t at *
      have HI := Lib.hid (crc_idx t yn hy)
      have ht := t.isLt
      have hq : t.toNat / 16777216 < 256 := by omega
      have hxl : (t.toNat / 16777216) ^^^ yn < 256 := Nat.xor_lt_two_pow (n := 8) (by omega) (by omega)
      have hx8 : bits .xor .u8 ((t.toNat : Int) / 16777216) (yn : Int) = (((t.toNat / 16777216) ^^^ yn : Nat) : Int) := by
        rw [← xor_u8 _ _ hq hy]; congr 1
      have ct := HK1.out.cell (4 + ((t.toNat / 16777216) ^^^ yn))
      rw [tab_at _ _ _ _ _ hxl] at ct
      generalize hxx : (t.toNat / 16777216) ^^^ yn = xx at *
      have hxi : (xx : Int) < 256 := by omega
      go_wp2_with fail
      go_roundg (l.length - (k + 1))
      case measure => omega
      case rel => exact ⟨k + 1, by omega, rfl, by go_num, by
        rw [HS.out, ← HI.out, ← xor_u32]
        have e1 : (t.toNat : Int) * (256 : Int) % (4294967296 : Int) = ((t <<< 8).toNat : Int) := by rw [BitVec.toNat_shiftLeft, Nat.shiftLeft_eq]; omega
        have e2 : tabF xx = ((BitVec.ofNat 32 (tabF xx).toNat).toNat : Int) := by
          unfold tabF
          rw [Int.toNat_natCast, BitVec.ofNat_toNat, BitVec.setWidth_eq]
        rw [← e1, ← e2], rfl⟩
    · obtain rfl : k = l.length := by omega
      go_wp2
      go_ret
      exact ⟨rfl, .inr HK1.out, HG1.out⟩
theorem csum_any (B : Nat) (vb : Value) (l : List Int) (w : World) (h : TabSt w B) (hb : byteE.Is (only w (nb1 B)) vb l) (hl : l.length ≤ 1000000) (ho : okB l) :
    Calls Tryz.prog 115 #[.pointer (some ⟨B, 0, none⟩), vb] w fun e w' => e = .returned (.int .u32 (crcSum l).toNat) ∧ TabSt w' B ∧ w.grownBy w' (some B) := by
  have HB := Lib.hid h
  have HX := Lib.hid hb
  have HO := Lib.hid ho
  clear h hb ho
  have HE := Lib.hid (cadd_any B 0xFFFFFFFF vb l w HB.out HX.out hl HO.out)
  go_enter Tryz.func115, Tryz.ntmps115
  go_wp2_with fail
  refine HE.out.mono ?_
  rintro e w1 ⟨rfl, hk1, hg1⟩
  go_wp2
  go_ret
  exact ⟨rfl, hk1, hg1⟩
end Go.Proofs.YtoocebghlchcoaaGreat.ExtW

/- Contracts of sealed: sum, Seal, Open. -/
namespace Go.Proofs.YtoocebghlchcoaaGreat.ExtW
open Go.RowKit Go.Ov Go.Proofs.YtoocebghlchcoaaGreat.Need

set_option maxRecDepth 100000 in
set_option maxHeartbeats 1000000 in
theorem sesum_any (vb : Value) (l : List Int) (w : World) (hb : byteE.Is w vb l) (hl : l.length ≤ 1000000) (ho : okB l) :
    Calls Tryz.prog 87 #[vb] w fun e w' => ∃ u, e = .returned u ∧ byteE.Own 5 w' w.heap.size u (sum4 l) ∧ Bl w w' := by
  have HX := Lib.hid hb
  have HO := Lib.hid ho
  clear hb ho
  go_enter Tryz.func87, Tryz.ntmps87
  go_wp2_with fail
  refine (cnew_any _).mono ?_
  rintro e w1 ⟨rfl, hb1, hk1⟩
  have HB1 := Lib.hid hb1
  have HK1 := Lib.hid hk1
  clear hb1 hk1
  go_wp2_with fail
  refine (csum_any _ vb l _ (.inl HK1.out) ((sub_old HB1.out (fun k hk => by simp [nb1]; omega)).is HX.out) hl HO.out).mono ?_
  rintro e w2 ⟨rfl, -, hg⟩
  have HB2 := Lib.hid (HB1.out.grown hg (fun k hk => by injection hk with hk; omega))
  obtain ⟨q, hq⟩ : ∃ q, q = crcSum l := ⟨_, rfl⟩
  rw [← hq]
  have HQ := Lib.hid hq
  have hlt := q.isLt
  clear hg hq
  go_wp2
  go_ret
  refine ⟨_, rfl, Enc.Own.lit (E := byteE) w2 _ (sum4 l) _ ?_ 4 rfl HB2.out.size (by decide) rfl, HB2.out.alloc _⟩
  rw [byte_flat]
  unfold sum4
  rw [← HQ.out]
  simp

theorem lay_padS (l : List Int) (h : l.length ≤ 124) : lay (List.replicate 124 0) 0 (l.take (min l.length 124)) = padB l := by
  unfold lay padB
  rw [Nat.min_eq_left h, List.take_length, List.take_zero, List.nil_append, Nat.zero_add, List.drop_replicate]
theorem padS_ok {l : List Int} (h : okB l) : okB (padB l) := h.app (zeros_ok _)
theorem seal_ok {l : List Int} (h : okB l) : okB (sealM l) := (padS_ok h).app (sum4_ok _)
set_option maxRecDepth 100000 in
set_option maxHeartbeats 1000000 in
theorem seSeal_any (vb : Value) (l : List Int) (w : World) (hb : byteE.Is w vb l) (hl : l.length ≤ 124) (ho : okB l) (hne : l ≠ []) :
    Calls Tryz.prog 73 #[vb] w fun e w' => ∃ u, e = .returned u ∧ byteE.Own 5 w' w.heap.size u (sealM l) ∧ Bl w w' := by
  have HX := Lib.hid hb
  have HO := Lib.hid ho
  have HNE := Lib.hid hne
  obtain ⟨A, c, rfl, h1, h2, h3, h4⟩ := hb
  clear h1 h2 h3 h4 ho hne
  obtain ⟨Z, hZ⟩ : ∃ Z, Z = rowB (List.replicate 124 0) := ⟨_, rfl⟩
  have hmk : ∀ w, (Instr.makeSlice 25 (.int .i64 124) (.int .i64 124)).run Tryz.prog w = .ok (.slice (some ⟨w.heap.size, 0, none⟩) 124 124) (w.alloc (.cells Z 5)) := fun w => by
    have := run_make_row' (P := Tryz.prog) 25 5 (.int .u8 0) 1 Tryz.underlying25 infoByte rfl .i64 .i64 124 (by omega) (by omega) w
    rw [hZ, ← row_made]; exact this
  have HB1 := Lib.hid ((Bl.refl w).alloc (.cells Z 5))
  have HZ := Lib.hid (show Blk (w.alloc (.cells Z 5)) w.heap.size (rowB (List.replicate 124 0)) 5 by rw [← hZ]; exact Blk.new _ _ _)
  obtain ⟨R, hR⟩ : ∃ R, R = rowB (padB l) := ⟨_, rfl⟩
  have hcp : ∀ ty, (Builtin.copy_ #[25, 25] ty #[.slice (some ⟨w.heap.size, 0, none⟩) 124 124, .slice A l.length c]).run Tryz.prog (w.alloc (.cells Z 5)) = .ok (goInt (min l.length 124 : Nat)) ((w.alloc (.cells Z 5)).setRow w.heap.size R) := fun ty => by
    rw [hR, ← lay_padS l hl]
    exact byte_copy (P := Tryz.prog) _ _ _ _ 5 _ 0 124 124 A c (List.replicate 124 0) l _ Tryz.underlying25 (by kernel_rfl) HZ.out (HX.out.bl HB1.out) HNE.out (by rw [List.length_replicate]; omega)
  have HP := Lib.hid (show Blk ((w.alloc (.cells Z 5)).setRow w.heap.size R) w.heap.size (rowB (padB l)) 5 by rw [hR]; exact blk_setRow HZ.out)
  have HBl := Lib.hid (show Bl w ((w.alloc (.cells Z 5)).setRow w.heap.size R) from ⟨rfl, rfl, rfl, by rw [setRow_size]; exact HB1.out.size, fun k hk => by rw [setRow_other _ _ _ _ (by omega)]; exact HB1.out.block k hk⟩)
  clear hZ hR
  go_enter Tryz.func73, Tryz.ntmps73
  go_wp2_with fail
  generalize (w.alloc (.cells Z 5)).setRow w.heap.size R = w3 at *
  have HOw := Lib.hid (own_row (base := w.heap.size) HP.out (Nat.le_refl _) (n := 124) (padB_len hl).symm (by decide))
  refine (sesum_any _ (padB l) _ HOw.out.is (by rw [padB_len hl]; omega) (padS_ok HO.out)).mono ?_
  rintro e w4 ⟨u, rfl, hu, hb4⟩
  have HU := Lib.hid hu
  have HO4 := Lib.hid (HOw.out.bl hb4)
  have HB4 := Lib.hid (HBl.out.bl hb4)
  clear hu hb4
  go_wp2_with (at_builtin; refine Enc.Own.append (E := byteE) rfl _ _ 25 rfl w.heap.size 5 (.int .u8 0) 1 1 Tryz.underlying25 infoByte rfl rfl (by decide) (by decide) _ (padB l) rfl HO4.out _ _ rfl HU.out.is ?hlen HB4.out.size ?_; (case hlen => rw [padB_len hl]; simp [sum4]); intro u5 w5 ho hg)
  go_ret
  exact ⟨u5, rfl, ho, HB4.out.grown hg (fun k hk => (HO4.out.lt k hk).1)⟩

def OpnP (w w' : World) (l : List Int) (e : Ending) : Prop := Bl w w' ∧ ∃ u, e = .returned (.tuple #[u, .bool (whole l)]) ∧ (whole l = true → byteE.Own 5 w' w.heap.size u (l.take 124))
set_option maxRecDepth 100000 in
set_option maxHeartbeats 1000000 in
theorem seOpen_any (vb : Value) (l : List Int) (w : World) (hb : byteE.Is w vb l) (hl : l.length ≤ 1000000) (ho : okB l) :
    Calls Tryz.prog 53 #[vb] w fun e w' => OpnP w w' l e := by
  have HX := Lib.hid hb
  have HO := Lib.hid ho
  obtain ⟨A, c, rfl, h1, h2, h3, h4⟩ := hb
  have HCP := Lib.hid h1
  clear h1 h2 h3 h4 ho
  go_enter Tryz.func53, Tryz.ntmps53
  rcases (show l.length = 128 ∨ ¬ l.length = 128 by omega) with h128 | h128
  · have hn : (l.length : Int) = 128 := by omega
    obtain ⟨V1, hV1, hI1⟩ := slice_h (E := byteE) (P := Tryz.prog) (t := 25) (by kernel_rfl) (fun w => by kernel_rfl) A c l 124 (by omega) (by omega) HCP.out
    obtain ⟨V2, hV2, hI2⟩ := slice_l (E := byteE) (P := Tryz.prog) (t := 25) (by kernel_rfl) (fun w => by kernel_rfl) A c l 124 (by omega) (by omega)
    have HV1 := Lib.hid (show byteE.Is w V1 (l.take 124) from hI1 _ HX.out)
    have HV2 := Lib.hid (show byteE.Is w V2 (l.drop 124) from hI2 _ HX.out)
    have HW := Lib.hid (show whole l = decide (sum4 (l.take 124) = l.drop 124) by unfold whole; simp [h128])
    have HT := Lib.hid (show (l.take 124).length = 124 by rw [List.length_take]; omega)
    generalize hln : l.length = n at *
    subst h128
    clear hI1 hI2 hln
    go_wp2_with fail
    refine wp_region_ways (S := (fun w' => w.heap.size ≤ w'.heap.size)) [0, 1, 2, 3, 4, 5, 7, 8, 10, 11] (y := .take 0 (.take 1 (.take 2 (.take 3 (.take 4 (.take 5 (.take 7 (.take 8 (.ev 6 (.ev 9 (.take 10 (.take 11 (.done))) (.stop)) (.stop)))))))))) (by kernel_rfl) (by kernel_rfl) (by kernel_rfl) ?_ (fun hHeld => ?_)
    · exact Nat.le_refl _
    clear hHeld
    repeat (first | (refine wpWay_take rfl (by rfl) (by intro w hSw; (try dsimp only at hSw); first | (go_simp; done) | (go_simp; with_reducible rfl)) ?_; try simp only [Act.put, List.setIfInBounds_toArray, List.set_cons_zero, List.set_cons_succ]) | (refine wpWay_skip rfl (by rfl) ?_; try simp only [Act.put, List.setIfInBounds_toArray, List.set_cons_zero, List.set_cons_succ]))
    refine wpWay_ev rfl (fun K hK => ?_) wpWay_stop
    go_wp2_with fail
    refine (sesum_any _ (l.take 124) _ (HV1.out.bl (Bl.refl _).drew) (by have := HT.out; omega) (HO.out.take _)).mono ?_
    rintro e w1 ⟨u1, rfl, ho1, hb1⟩
    have HO1 := Lib.hid ho1
    have HB1 := Lib.hid ((Bl.refl w).drew.bl hb1)
    clear ho1 hb1
    go_wp2_with fail
    refine ⟨HB1.out.size, ?_⟩
    repeat (first | (refine wpWay_take rfl (by rfl) (by intro w hSw; (try dsimp only at hSw); first | (go_simp; done) | (go_simp; with_reducible rfl)) ?_; try simp only [Act.put, List.setIfInBounds_toArray, List.set_cons_zero, List.set_cons_succ]) | (refine wpWay_skip rfl (by rfl) ?_; try simp only [Act.put, List.setIfInBounds_toArray, List.set_cons_zero, List.set_cons_succ]))
    refine wpWay_ev rfl (fun K hK => ?_) wpWay_stop
    go_wp2_with fail
    refine (bEqual_any _ _ _ _ _ HO1.out.is (HV2.out.bl HB1.out) (sum4_ok _) (HO.out.drop _)).mono ?_
    rintro e w2 ⟨rfl, rfl⟩
    rw [← HW.out]
    cases hw : whole l
    · go_wp2_with fail
      refine ⟨HB1.out.size, ?_⟩
      repeat (first | (refine wpWay_take rfl (by rfl) (by intro w hSw; (try dsimp only at hSw); first | (go_simp; done) | (go_simp; with_reducible rfl)) ?_; try simp only [Act.put, List.setIfInBounds_toArray, List.set_cons_zero, List.set_cons_succ]) | (refine wpWay_skip rfl (by rfl) ?_; try simp only [Act.put, List.setIfInBounds_toArray, List.set_cons_zero, List.set_cons_succ]))
      refine wpWay_done ?_
      go_wp2
      go_ret2
      exact ⟨HB1.out, _, by rw [hw]; rfl, fun h => by rw [hw] at h; cases h⟩
    · go_wp2_with fail
      refine ⟨HB1.out.size, ?_⟩
      repeat (first | (refine wpWay_take rfl (by rfl) (by intro w hSw; (try dsimp only at hSw); first | (go_simp; done) | (go_simp; with_reducible rfl)) ?_; try simp only [Act.put, List.setIfInBounds_toArray, List.set_cons_zero, List.set_cons_succ]) | (refine wpWay_skip rfl (by rfl) ?_; try simp only [Act.put, List.setIfInBounds_toArray, List.set_cons_zero, List.set_cons_succ]))
      refine wpWay_done ?_
      go_wp2_with (at_builtin; refine Enc.Own.append (E := byteE) rfl _ _ 25 rfl w.heap.size 5 (.int .u8 0) 1 1 Tryz.underlying25 infoByte rfl rfl (by decide) (by decide) (.slice none 0 0) [] rfl (Enc.Own.nil _ _ _) _ _ rfl (HV1.out.bl HB1.out) (by have := HT.out; simp; omega) HB1.out.size ?_; intro u5 w5 ho hg)
      go_ret2
      exact ⟨HB1.out.grown hg (by simp [Value.ownBlock]), u5, by rw [hw]; rfl, fun _ => by simpa using ho⟩
  · have hn : ¬ (l.length : Int) = 128 := by omega
    have HW := Lib.hid (show whole l = false by unfold whole; simp [h128])
    go_wp2_with fail
    refine wp_region_ways (S := (fun w' => w.heap.size ≤ w'.heap.size)) [0, 1, 2, 3, 4, 5, 7, 8, 10, 11] (y := .take 0 (.take 1 (.take 2 (.take 3 (.take 4 (.take 5 (.take 7 (.take 8 (.ev 6 (.ev 9 (.take 10 (.take 11 (.done))) (.stop)) (.stop)))))))))) (by kernel_rfl) (by kernel_rfl) (by kernel_rfl) ?_ (fun hHeld => ?_)
    · exact Nat.le_refl _
    clear hHeld
    repeat (first | (refine wpWay_take rfl (by rfl) (by intro w hSw; (try dsimp only at hSw); first | (go_simp; done) | (go_simp; with_reducible rfl)) ?_; try simp only [Act.put, List.setIfInBounds_toArray, List.set_cons_zero, List.set_cons_succ]) | (refine wpWay_skip rfl (by rfl) ?_; try simp only [Act.put, List.setIfInBounds_toArray, List.set_cons_zero, List.set_cons_succ]))
    rw [show ((l.length : Int) != 128) = true by simp [hn]]
    repeat (first | (refine wpWay_take rfl (by rfl) (by intro w hSw; (try dsimp only at hSw); first | (go_simp; done) | (go_simp; with_reducible rfl)) ?_; try simp only [Act.put, List.setIfInBounds_toArray, List.set_cons_zero, List.set_cons_succ]) | (refine wpWay_skip rfl (by rfl) ?_; try simp only [Act.put, List.setIfInBounds_toArray, List.set_cons_zero, List.set_cons_succ]))
    refine wpWay_pass rfl (by rfl) (by exact Nat.le_refl _) ?_ wpWay_stop
    try simp only [Act.put, List.setIfInBounds_toArray, List.set_cons_zero, List.set_cons_succ]
    refine wpWay_pass rfl (by rfl) (by exact Nat.le_refl _) ?_ wpWay_stop
    try simp only [Act.put, List.setIfInBounds_toArray, List.set_cons_zero, List.set_cons_succ]
    repeat (first | (refine wpWay_take rfl (by rfl) (by intro w hSw; (try dsimp only at hSw); first | (go_simp; done) | (go_simp; with_reducible rfl)) ?_; try simp only [Act.put, List.setIfInBounds_toArray, List.set_cons_zero, List.set_cons_succ]) | (refine wpWay_skip rfl (by rfl) ?_; try simp only [Act.put, List.setIfInBounds_toArray, List.set_cons_zero, List.set_cons_succ]))
    refine wpWay_done ?_
    go_wp2
    go_ret2
    exact ⟨(Bl.refl _).drew, _, by rw [HW.out]; rfl, fun h => by rw [HW.out] at h; cases h⟩
end Go.Proofs.YtoocebghlchcoaaGreat.ExtW
