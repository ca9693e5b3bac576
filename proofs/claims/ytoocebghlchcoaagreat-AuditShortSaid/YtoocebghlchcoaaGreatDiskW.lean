/- Contracts of disk: New, Len, may, step, Write. -/
import Derived.Test.YtoocebghlchcoaaGreatSealW
import Derived.Test.YtoocebghlchcoaaGreatDiskP
import Derived.Test.YtoocebghlchcoaaGreatSuperP
namespace Go.Ov
open Go.RowKit
theorem spot_none {w : World} {a : Addr} {v : Value} (h : w.cell? a = some v) : a = ⟨a.block, a.off, none⟩ := by
  unfold World.cell? at h
  split at h
  · split at h
    · cases h
    · rename_i hs
      cases a with
      | mk b o s => cases s with
        | none => rfl
        | some _ => simp at hs
  · cases h
theorem made_zeros (z : Array Value) (hz : z = rowB (List.replicate 128 0)) (k : Nat) : madeCells z k = rowB (List.replicate k 0) := by
  subst hz
  apply Array.ext_getElem?
  intro i
  by_cases hi : i < k
  · rw [rowB_at _ _ (by simpa using hi)]
    have hm : i % 128 < 128 := Nat.mod_lt _ (by decide)
    simp only [madeCells, Array.getElem?_map, Array.getElem?_range]
    rw [if_pos hi]
    simp only [Option.map_some, rowB_size, List.length_replicate]
    have := rowB_at (List.replicate 128 0) (i % 128) (by simpa using hm)
    rw [List.getElem_replicate] at this
    rw [getElem!_def, this, List.getElem_replicate]
  · rw [Array.getElem?_eq_none (by rw [size_madeCells]; omega), Array.getElem?_eq_none (by rw [rowB_size]; simp; omega)]
def stepM (m : DiskM) : DiskM := if m.stops && decide (m.pos = 0) then { m with dead := true } else m
/-- a write: the disk behind it, and what is said -/
def writeM (n : Nat) (m : DiskM) (i : Int) (b : List Int) : DiskM × Int :=
  if i < 0 ∨ (n : Int) ≤ i ∨ b.length ≠ 128 then (m, 1)
  else if (stepM m).dead then (stepM m, 9)
  else ({ m with pos := if m.stops then m.pos - 1 else m.pos, waits := m.waits ++ [(i.toNat, b)] }, 0)
/-- a row is the same block, or a new one, or none -/
def LiesN (w : World) (r r' : Option Nat) : Prop := ∀ g, r' = some g → r = some g ∨ w.heap.size ≤ g
theorem LiesN.refl (w : World) (r : Option Nat) : LiesN w r r := fun _ h => .inl h
theorem LiesN.none (w : World) (r : Option Nat) : LiesN w r none := fun _ h => by cases h
theorem Lies.n {w : World} {r r' : Option Nat} (h : Lies w r r') : LiesN w r r' := fun g hg => by
  rcases h with e | ⟨g', e, h⟩
  · exact .inl (e ▸ hg)
  · rw [e] at hg; injection hg with hg; exact .inr (by omega)
/-- a disk alone has turned -/
structure DStep (w w' : World) (D K : Nat) (vw vw' : Value) : Prop where
  kp : Kp (nbs (dFoot D K vw)) w w'
  li : LiesN w vw.ownBlock vw'.ownBlock
theorem DStep.refl (w : World) (D K : Nat) (vw : Value) : DStep w w D K vw vw := ⟨Kp.refl _ _, LiesN.refl _ _⟩
theorem DStep.sub {w w' : World} {D K : Nat} {vw vw' : Value} (h : DStep w w' D K vw vw') : Sub (only w (nbs (dFoot D K vw))) (only w' (nbs (dFoot D K vw'))) := fun ad v q => by
  obtain ⟨h1, h2⟩ := only_cell q
  have hlt := World.block_lt_of_cell? w ad h2
  refine cell_only (nbs_iff.2 fun hm => ?_) ?_
  · have h3 := nbs_iff.1 h1
    simp only [List.mem_cons, List.not_mem_nil, or_false] at hm
    rcases hm with e | e | e
    · exact h3 (by rw [e]; simp)
    · exact h3 (by rw [e]; simp)
    · rcases h.li _ e.symm with q | q
      · exact h3 (by rw [← q]; simp)
      · omega
  · unfold World.cell? at h2 ⊢
    rw [h.kp.block ad.block hlt h1]; exact h2
theorem DStep.trans {w w1 w2 : World} {D K : Nat} {v v1 v2 : Value} (h : DStep w w1 D K v v1) (k : DStep w1 w2 D K v1 v2) : DStep w w2 D K v v2 := by
  refine ⟨⟨k.kp.os.trans h.kp.os, k.kp.tape.trans h.kp.tape, k.kp.output.trans h.kp.output, Nat.le_trans h.kp.size k.kp.size, fun b hb hq => ?_⟩, fun g hg => ?_⟩
  · have h1 := nbs_iff.1 hq
    rw [k.kp.block b (Nat.lt_of_lt_of_le hb h.kp.size) (nbs_iff.2 fun hm => ?_), h.kp.block b hb hq]
    simp only [List.mem_cons, List.not_mem_nil, or_false] at hm
    rcases hm with e | e | e
    · exact h1 (by rw [e]; simp)
    · exact h1 (by rw [e]; simp)
    · rcases h.li _ e.symm with e2 | hg
      · exact h1 (by rw [← e2]; simp)
      · omega
  · rcases k.li g hg with e | h2
    · exact h.li g e
    · exact .inr (Nat.le_trans h.kp.size h2)
theorem DStep.bl {w0 w w' : World} {D K : Nat} {v v' : Value} (h0 : Bl w0 w) (h : DStep w w' D K v v') (hD : w0.heap.size ≤ D) (hK : w0.heap.size ≤ K) (hv : ∀ k, v.ownBlock = some k → w0.heap.size ≤ k) : Bl w0 w' :=
  h.kp.bl h0 fun i hi => nbs_iff.2 fun hm => by
    simp only [List.mem_cons, List.not_mem_nil, or_false] at hm
    rcases hm with e | e | e
    · injection e with e; omega
    · injection e with e; omega
    · have := hv i e.symm; omega
end Go.Ov
namespace Go.Proofs.YtoocebghlchcoaaGreat.ExtW
open Go.RowKit Go.Ov Go.Proofs.YtoocebghlchcoaaGreat.Need
abbrev DIs := DiskIs 107 114 153
theorem infoSec : (Tryz.prog.info? 114).map (fun i => (i.zero, i.size, i.bytes)) = some (some (.agg (rowB (List.replicate 128 0))), 128, 128) := by kernel_rfl
set_option maxRecDepth 100000 in
theorem dNew_any (n : Nat) (w : World) (h1 : 1 ≤ n) (h2 : n ≤ 4096) :
    Calls Tryz.prog 24 #[.int .i64 n] w fun e w' => ∃ D, e = .returned (.tuple #[.pointer (some ⟨D, 0, none⟩), .int .i64 0]) ∧ Bl w w' ∧ ∃ K, DIs w' w.heap.size D K (.slice none 0 0) ⟨List.replicate (128 * n) 0, [], false, false, 0⟩ n := by
  have g1 : ¬ (n : Int) < 1 := by omega
  have g2 : ¬ (4096 : Int) < n := by omega
  obtain ⟨Z, hZ⟩ : ∃ Z, Z = rowB (List.replicate (128 * n) 0) := ⟨_, rfl⟩
  have hmk : ∀ w, (Instr.makeSlice 99 (.int .i64 (n : Int)) (.int .i64 (n : Int))).run Tryz.prog w = .ok (.slice (some ⟨w.heap.size, 0, none⟩) n n) (w.alloc (.cells Z 114)) := fun w => by
    obtain ⟨i, hi, hzz⟩ := Option.map_eq_some_iff.1 infoSec
    simp only [Prod.mk.injEq] at hzz
    obtain ⟨hz, hs, hb⟩ := hzz
    have := run_make (P := Tryz.prog) w 99 114 i _ Tryz.underlying99 hi hz .i64 .i64 n n (by omega) (Int.le_refl _) (by rw [hb]; omega) (by omega)
    rw [Int.toNat_natCast, hs] at this
    rw [hZ, Nat.mul_comm, ← made_zeros (Value.agg (rowB (List.replicate 128 0))).cells rfl]
    exact this
  have HZ := Lib.hid (show Blk (w.alloc (.cells Z 114)) w.heap.size (rowB (List.replicate (128 * n) 0)) 114 by rw [← hZ]; exact Blk.new _ _ _)
  clear hZ
  go_enter Tryz.func24, Tryz.ntmps24
  go_wp2
  go_ret2
  refine ⟨_, rfl, ((Bl.refl _).alloc _).alloc _, w.heap.size, ⟨⟨0, 0, 0, by have := Blk.new (w.alloc (.cells Z 114)) #[.slice (some ⟨w.heap.size, 0, none⟩) n n, .slice none 0 0, .bool false, .bool false, .int .i64 0, .int .i64 0, .int .i64 0, .int .i64 0] 107; rwa [show (w.alloc (.cells Z 114)).heap.size = w.heap.size + 1 by simp] at this⟩, HZ.out.bl ((Bl.refl _).alloc _), Enc.Own.nil _ _ _, ⟨by simp, h1, h2, zeros_ok _, by simp, by simp, by simp⟩, by simp, Nat.le_refl _⟩⟩
theorem dLen_any {base D K : Nat} {vw : Value} {m : DiskM} {n : Nat} (w : World) (h : DIs w base D K vw m n) :
    Calls Tryz.prog 44 #[.pointer (some ⟨D, 0, none⟩)] w fun e w' => e = .returned (.int .i64 n) ∧ w' = w := by
  obtain ⟨r, wr, fl, hk⟩ := h.dsk
  have c0 := hk.cell 0
  simp at c0
  clear h hk
  go_enter Tryz.func44, Tryz.ntmps44
  go_wp2
  go_ret
  exact ⟨rfl, rfl⟩
theorem dmay_any {base D K : Nat} {vw : Value} {m : DiskM} {n : Nat} (i : Int) (w : World) (h : DIs w base D K vw m n) :
    Calls Tryz.prog 71 #[.pointer (some ⟨D, 0, none⟩), .int .i64 i] w fun e w' => e = .returned (.bool (decide (0 ≤ i) && decide (i < n))) ∧ w' = w := by
  obtain ⟨r, wr, fl, hk⟩ := h.dsk
  have c0 := hk.cell 0
  simp at c0
  clear h hk
  go_enter Tryz.func71, Tryz.ntmps71
  rcases (show i < 0 ∨ (0 ≤ i ∧ i < n) ∨ (0 ≤ i ∧ ¬ i < n) by omega) with h | ⟨h, h2⟩ | ⟨h, h2⟩
  · have g : ¬ 0 ≤ i := by omega
    go_wp2
    go_ret
    exact ⟨by rw [decide_eq_false (show ¬ 0 ≤ i by omega)]; rfl, rfl⟩
  · go_wp2
    go_ret
    exact ⟨by simp [h, h2], rfl⟩
  · go_wp2
    go_ret
    exact ⟨by simp [h2], rfl⟩
set_option maxHeartbeats 1000000 in
theorem dstep_any {base D K : Nat} {vw : Value} {m : DiskM} {n : Nat} (w : World) (h : DIs w base D K vw m n) :
    Calls Tryz.prog 72 #[.pointer (some ⟨D, 0, none⟩)] w fun e w' => e = .returned (.bool (!(stepM m).dead)) ∧ DIs w' base D K vw (stepM m) n ∧ DStep w w' D K vw vw := by
  have HD := Lib.hid h
  obtain ⟨r, wr, fl, hk⟩ := h.dsk
  have HK := Lib.hid hk
  obtain ⟨img, wts, dead, stops, pos⟩ := m
  have c2 := hk.cell 2
  have c3 := hk.cell 3
  have c4 := hk.cell 4
  have f2 := hk.frozen 2
  simp at c2 c3 c4
  clear h hk
  go_enter Tryz.func72, Tryz.ntmps72
  cases stops
  · go_wp2
    go_ret
    exact ⟨rfl, HD.out, DStep.refl _ _ _ _⟩
  · rcases (show pos = 0 ∨ ¬ pos = 0 by omega) with h0 | h0
    · subst h0
      go_wp2
      go_ret
      refine ⟨rfl, ⟨⟨r, wr, fl, ?_⟩, HD.out.kept.set_else _ _ _ (blk_ne HK.out HD.out.kept (by decide)), HD.out.wait.grown (setCell_grown _ _ _ _) (.inr (own_blk_ne HD.out.wait HK.out (by decide))), ⟨HD.out.ok.len, HD.out.ok.n1, HD.out.ok.n2, HD.out.ok.ok, HD.out.ok.wt, HD.out.ok.wl, HD.out.ok.pb⟩, HD.out.lowD, HD.out.lowK⟩, ⟨Kp.of_gb (setCell_grown _ _ _ _) (fun k hk => nbs_not (by rw [← hk]; simp)), LiesN.refl _ _⟩⟩
      have := HK.out.set 2 (.bool true)
      simpa [stepM] using this
    · have HE := Lib.hid (show stepM ⟨img, wts, dead, true, pos⟩ = ⟨img, wts, dead, true, pos⟩ by simp [stepM, h0])
      go_wp2
      go_ret
      rw [HE.out]
      exact ⟨rfl, HD.out, DStep.refl _ _ _ _⟩
end Go.Proofs.YtoocebghlchcoaaGreat.ExtW
