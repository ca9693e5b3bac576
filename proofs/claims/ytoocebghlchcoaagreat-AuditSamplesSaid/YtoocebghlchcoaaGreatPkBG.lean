/- Several texts joined (see each one's head). -/
import Derived.Test.YtoocebghlchcoaaGreatPkAO
import Derived.Test.YtoocebghlchcoaaGreatPkAS
import Derived.Test.YtoocebghlchcoaaGreatPkAI
import Derived.Deep.WholeRow
/- Contracts of disk: New, Len, may, step, Write. -/
namespace Go.Ov
open Go.RowKit
theorem spot_none {w : World} {a : Addr} {v : Value} (h : w.cell? a = some v) : a = ⟨a.block, a.off, none⟩ := by
  unfold World.cell? at h
  split at h
  · split at h
    · cases h
    · rename_i hs
      cases a with
      | mk b o s => cases s with
        | none => rfl
        | some _ => simp at hs
  · cases h
theorem made_zeros (z : Array Value) (hz : z = rowB (List.replicate 128 0)) (k : Nat) : madeCells z k = rowB (List.replicate k 0) := by
  subst hz
  apply Array.ext_getElem?
  intro i
  by_cases hi : i < k
  · rw [rowB_at _ _ (by simpa using hi)]
    have hm : i % 128 < 128 := Nat.mod_lt _ (by decide)
    simp only [madeCells, Array.getElem?_map, Array.getElem?_range]
    rw [if_pos hi]
    simp only [Option.map_some, rowB_size, List.length_replicate]
    have := rowB_at (List.replicate 128 0) (i % 128) (by simpa using hm)
    rw [List.getElem_replicate] at this
    rw [getElem!_def, this, List.getElem_replicate]
  · rw [Array.getElem?_eq_none (by rw [size_madeCells]; omega), Array.getElem?_eq_none (by rw [rowB_size]; simp; omega)]
def stepM (m : DiskM) : DiskM := if m.stops && decide (m.pos = 0) then { m with dead := true } else m
/-- a write: the disk behind it, and what is said -/
def writeM (n : Nat) (m : DiskM) (i : Int) (b : List Int) : DiskM × Int :=
  if i < 0 ∨ (n : Int) ≤ i ∨ b.length ≠ 128 then (m, 1)
  else if (stepM m).dead then (stepM m, 9)
  else ({ m with pos := if m.stops then m.pos - 1 else m.pos, waits := m.waits ++ [(i.toNat, b)] }, 0)
/-- a row is the same block, or a new one, or none -/
def LiesN (w : World) (r r' : Option Nat) : Prop := ∀ g, r' = some g → r = some g ∨ w.heap.size ≤ g
theorem LiesN.refl (w : World) (r : Option Nat) : LiesN w r r := fun _ h => .inl h
theorem LiesN.none (w : World) (r : Option Nat) : LiesN w r none := fun _ h => by cases h
theorem Lies.n {w : World} {r r' : Option Nat} (h : Lies w r r') : LiesN w r r' := fun g hg => by
  rcases h with e | ⟨g', e, h⟩
  · exact .inl (e ▸ hg)
  · rw [e] at hg; injection hg with hg; exact .inr (by omega)
/-- a disk alone has turned -/
structure DStep (w w' : World) (D K : Nat) (vw vw' : Value) : Prop where
  kp : Kp (nbs (dFoot D K vw)) w w'
  li : LiesN w vw.ownBlock vw'.ownBlock
theorem DStep.refl (w : World) (D K : Nat) (vw : Value) : DStep w w D K vw vw := ⟨Kp.refl _ _, LiesN.refl _ _⟩
theorem DStep.sub {w w' : World} {D K : Nat} {vw vw' : Value} (h : DStep w w' D K vw vw') : Sub (only w (nbs (dFoot D K vw))) (only w' (nbs (dFoot D K vw'))) := fun ad v q => by
  obtain ⟨h1, h2⟩ := only_cell q
  have hlt := World.block_lt_of_cell? w ad h2
  refine cell_only (nbs_iff.2 fun hm => ?_) ?_
  · have h3 := nbs_iff.1 h1
    simp only [List.mem_cons, List.not_mem_nil, or_false] at hm
    rcases hm with e | e | e
    · exact h3 (by rw [e]; simp)
    · exact h3 (by rw [e]; simp)
    · rcases h.li _ e.symm with q | q
      · exact h3 (by rw [← q]; simp)
      · omega
  · unfold World.cell? at h2 ⊢
    rw [h.kp.block ad.block hlt h1]; exact h2
theorem DStep.trans {w w1 w2 : World} {D K : Nat} {v v1 v2 : Value} (h : DStep w w1 D K v v1) (k : DStep w1 w2 D K v1 v2) : DStep w w2 D K v v2 := by
  refine ⟨⟨k.kp.os.trans h.kp.os, k.kp.tape.trans h.kp.tape, k.kp.output.trans h.kp.output, Nat.le_trans h.kp.size k.kp.size, fun b hb hq => ?_⟩, fun g hg => ?_⟩
  · have h1 := nbs_iff.1 hq
    rw [k.kp.block b (Nat.lt_of_lt_of_le hb h.kp.size) (nbs_iff.2 fun hm => ?_), h.kp.block b hb hq]
    simp only [List.mem_cons, List.not_mem_nil, or_false] at hm
    rcases hm with e | e | e
    · exact h1 (by rw [e]; simp)
    · exact h1 (by rw [e]; simp)
    · rcases h.li _ e.symm with e2 | hg
      · exact h1 (by rw [← e2]; simp)
      · omega
  · rcases k.li g hg with e | h2
    · exact h.li g e
    · exact .inr (Nat.le_trans h.kp.size h2)
theorem DStep.bl {w0 w w' : World} {D K : Nat} {v v' : Value} (h0 : Bl w0 w) (h : DStep w w' D K v v') (hD : w0.heap.size ≤ D) (hK : w0.heap.size ≤ K) (hv : ∀ k, v.ownBlock = some k → w0.heap.size ≤ k) : Bl w0 w' :=
  h.kp.bl h0 fun i hi => nbs_iff.2 fun hm => by
    simp only [List.mem_cons, List.not_mem_nil, or_false] at hm
    rcases hm with e | e | e
    · injection e with e; omega
    · injection e with e; omega
    · have := hv i e.symm; omega
end Go.Ov
namespace Go.Proofs.YtoocebghlchcoaaGreat.ExtW
open Go.RowKit Go.Ov Go.Proofs.YtoocebghlchcoaaGreat.Need
abbrev DIs := DiskIs 107 114 153
theorem infoSec : (Tryz.prog.info? 114).map (fun i => (i.zero, i.size, i.bytes)) = some (some (.agg (rowB (List.replicate 128 0))), 128, 128) := by kernel_rfl
set_option maxRecDepth 100000 in
theorem dNew_any (n : Nat) (w : World) (h1 : 1 ≤ n) (h2 : n ≤ 4096) :
    Calls Tryz.prog 24 #[.int .i64 n] w fun e w' => ∃ D, e = .returned (.tuple #[.pointer (some ⟨D, 0, none⟩), .int .i64 0]) ∧ Bl w w' ∧ ∃ K, DIs w' w.heap.size D K (.slice none 0 0) ⟨List.replicate (128 * n) 0, [], false, false, 0⟩ n := by
  have g1 : ¬ (n : Int) < 1 := by omega
  have g2 : ¬ (4096 : Int) < n := by omega
  obtain ⟨Z, hZ⟩ : ∃ Z, Z = rowB (List.replicate (128 * n) 0) := ⟨_, rfl⟩
  have hmk : ∀ w, (Instr.makeSlice 99 (.int .i64 (n : Int)) (.int .i64 (n : Int))).run Tryz.prog w = .ok (.slice (some ⟨w.heap.size, 0, none⟩) n n) (w.alloc (.cells Z 114)) := fun w => by
    obtain ⟨i, hi, hzz⟩ := Option.map_eq_some_iff.1 infoSec
    simp only [Prod.mk.injEq] at hzz
    obtain ⟨hz, hs, hb⟩ := hzz
    have := run_make (P := Tryz.prog) w 99 114 i _ Tryz.underlying99 hi hz .i64 .i64 n n (by omega) (Int.le_refl _) (by rw [hb]; omega) (by omega)
    rw [Int.toNat_natCast, hs] at this
    rw [hZ, Nat.mul_comm, ← made_zeros (Value.agg (rowB (List.replicate 128 0))).cells rfl]
    exact this
  have HZ := Lib.hid (show Blk (w.alloc (.cells Z 114)) w.heap.size (rowB (List.replicate (128 * n) 0)) 114 by rw [← hZ]; exact Blk.new _ _ _)
  clear hZ
  go_enter Tryz.func24, Tryz.ntmps24
  go_wp2
  go_ret2
  refine ⟨_, rfl, ((Bl.refl _).alloc _).alloc _, w.heap.size, ⟨⟨0, 0, 0, by have := Blk.new (w.alloc (.cells Z 114)) #[.slice (some ⟨w.heap.size, 0, none⟩) n n, .slice none 0 0, .bool false, .bool false, .int .i64 0, .int .i64 0, .int .i64 0, .int .i64 0] 107; rwa [show (w.alloc (.cells Z 114)).heap.size = w.heap.size + 1 by simp] at this⟩, HZ.out.bl ((Bl.refl _).alloc _), Enc.Own.nil _ _ _, ⟨by simp, h1, h2, zeros_ok _, by simp, by simp, by simp⟩, by simp, Nat.le_refl _⟩⟩
theorem dLen_any {base D K : Nat} {vw : Value} {m : DiskM} {n : Nat} (w : World) (h : DIs w base D K vw m n) :
    Calls Tryz.prog 44 #[.pointer (some ⟨D, 0, none⟩)] w fun e w' => e = .returned (.int .i64 n) ∧ w' = w := by
  obtain ⟨r, wr, fl, hk⟩ := h.dsk
  have c0 := hk.cell 0
  simp at c0
  clear h hk
  go_enter Tryz.func44, Tryz.ntmps44
  go_wp2
  go_ret
  exact ⟨rfl, rfl⟩
theorem dmay_any {base D K : Nat} {vw : Value} {m : DiskM} {n : Nat} (i : Int) (w : World) (h : DIs w base D K vw m n) :
    Calls Tryz.prog 71 #[.pointer (some ⟨D, 0, none⟩), .int .i64 i] w fun e w' => e = .returned (.bool (decide (0 ≤ i) && decide (i < n))) ∧ w' = w := by
  obtain ⟨r, wr, fl, hk⟩ := h.dsk
  have c0 := hk.cell 0
  simp at c0
  clear h hk
  go_enter Tryz.func71, Tryz.ntmps71
  rcases (show i < 0 ∨ (0 ≤ i ∧ i < n) ∨ (0 ≤ i ∧ ¬ i < n) by omega) with h | ⟨h, h2⟩ | ⟨h, h2⟩
  · have g : ¬ 0 ≤ i := by omega
    go_wp2
    go_ret
    exact ⟨by rw [decide_eq_false (show ¬ 0 ≤ i by omega)]; rfl, rfl⟩
  · go_wp2
    go_ret
    exact ⟨by simp [h, h2], rfl⟩
  · go_wp2
    go_ret
    exact ⟨by simp [h2], rfl⟩
set_option maxHeartbeats 1000000 in
theorem dstep_any {base D K : Nat} {vw : Value} {m : DiskM} {n : Nat} (w : World) (h : DIs w base D K vw m n) :
    Calls Tryz.prog 72 #[.pointer (some ⟨D, 0, none⟩)] w fun e w' => e = .returned (.bool (!(stepM m).dead)) ∧ DIs w' base D K vw (stepM m) n ∧ DStep w w' D K vw vw := by
  have HD := Lib.hid h
  obtain ⟨r, wr, fl, hk⟩ := h.dsk
  have HK := Lib.hid hk
  obtain ⟨img, wts, dead, stops, pos⟩ := m
  have c2 := hk.cell 2
  have c3 := hk.cell 3
  have c4 := hk.cell 4
  have f2 := hk.frozen 2
  simp at c2 c3 c4
  clear h hk
  go_enter Tryz.func72, Tryz.ntmps72
  cases stops
  · go_wp2
    go_ret
    exact ⟨rfl, HD.out, DStep.refl _ _ _ _⟩
  · rcases (show pos = 0 ∨ ¬ pos = 0 by omega) with h0 | h0
    · subst h0
      go_wp2
      go_ret
      refine ⟨rfl, ⟨⟨r, wr, fl, ?_⟩, HD.out.kept.set_else _ _ _ (blk_ne HK.out HD.out.kept (by decide)), HD.out.wait.grown (setCell_grown _ _ _ _) (.inr (own_blk_ne HD.out.wait HK.out (by decide))), ⟨HD.out.ok.len, HD.out.ok.n1, HD.out.ok.n2, HD.out.ok.ok, HD.out.ok.wt, HD.out.ok.wl, HD.out.ok.pb⟩, HD.out.lowD, HD.out.lowK⟩, ⟨Kp.of_gb (setCell_grown _ _ _ _) (fun k hk => nbs_not (by rw [← hk]; simp)), LiesN.refl _ _⟩⟩
      have := HK.out.set 2 (.bool true)
      simpa [stepM] using this
    · have HE := Lib.hid (show stepM ⟨img, wts, dead, true, pos⟩ = ⟨img, wts, dead, true, pos⟩ by simp [stepM, h0])
      go_wp2
      go_ret
      rw [HE.out]
      exact ⟨rfl, HD.out, DStep.refl _ _ _ _⟩
end Go.Proofs.YtoocebghlchcoaaGreat.ExtW

/- Contract of disk.Write. -/
namespace Go.Proofs.YtoocebghlchcoaaGreat.ExtW
open Go.RowKit Go.Ov Go.Proofs.YtoocebghlchcoaaGreat.Need
theorem range_of_is {w : World} {G : Nat → Bool} {g o c : Nat} {l : List Int} (h : byteE.Is (only w G) (.slice (some ⟨g, o, none⟩) l.length c) l) : w.rangeAt g o (l.map (.int .u8)) := fun j v hv => by
  have hj : j < l.length := by have := (List.getElem?_eq_some_iff.1 hv).1; simpa using this
  obtain ⟨ad, e, hc⟩ := byte_is_cells h j hj
  injection e with e
  rw [← e, addr_add] at hc
  rw [(only_cell hc).2, ← hv]
  simp [hj]
theorem aaddD_any (a : Addr) (x d : Int) (w : World) (h : w.cell? a = some (.int .i64 x)) (f : w.frozen? a = false) :
    Calls Tryz.prog 70 #[.pointer (some a), .int .i64 d] w fun e w' => e = .returned (.int .i64 (wrap64 (x + d))) ∧ w' = w.setCell a (.int .i64 (wrap64 (x + d))) := by
  have hadd := run_call_add (P := Tryz.prog) Tryz.func106 (by kernel_rfl) (by kernel_rfl) (by kernel_rfl) .i64 (by kernel_rfl) (y := d) (s := wrap64 (x + d)) h f (by simp [go_sem, IntKind.wrap_i64]; unfold wrap64; rfl)
  go_enter Tryz.func70, Tryz.ntmps70
  go_wp2
  go_ret
  exact ⟨rfl, rfl⟩
theorem infoWait : (Tryz.prog.info? 153).map (fun i => (i.zero, i.size, i.bytes)) = some (some (.agg (#[.int .i64 0] ++ rowB (List.replicate 128 0))), 129, 136) := by kernel_rfl
theorem built_wait (i : Int) (C : Array Value) (h : C.size = 128) : Tryz.prog.built 153 [(0, .int .i64 i), (1, .agg C)] = some (#[.int .i64 i] ++ C) := by
  have e : Tryz.prog.built 153 [(0, .int .i64 i), (1, .agg C)] = Instr.fill (#[(0, 1), (1, 128)][·]?) (#[.int .i64 0] ++ rowB (List.replicate 128 0)) [(0, .int .i64 i), (1, .agg C)] := by kernel_rfl
  rw [e]
  exact fill_two _ _ _ _ rfl rfl rfl h (by kernel_rfl)
def WrP (w w' : World) (base D K : Nat) (vw : Value) (m : DiskM) (n : Nat) (i : Int) (l : List Int) (e : Ending) : Prop := e = .returned (.int .i64 (writeM n m i l).2) ∧ ∃ vw', DIs w' base D K vw' (writeM n m i l).1 n ∧ DStep w w' D K vw vw'
set_option maxRecDepth 100000 in
set_option maxHeartbeats 1000000 in
theorem dWrite_any {base D K : Nat} {vw vb : Value} {m : DiskM} {n : Nat} (i : Int) (l : List Int) (w : World) (h : DIs w base D K vw m n) (hb : byteE.Is (only w (nbs (dFoot D K vw))) vb l) (ho : okB l) (hl : l.length ≤ 1000000) (hwl : m.waits.length ≤ 900000) :
    Calls Tryz.prog 45 #[.pointer (some ⟨D, 0, none⟩), .int .i64 i, vb] w fun e w' => WrP w w' base D K vw m n i l e := by
  have HD := Lib.hid h
  have HX := Lib.hid hb
  have HO := Lib.hid ho
  have HWl := Lib.hid hwl
  obtain ⟨A, c, rfl, h1, h2, h3, h4⟩ := hb
  clear h h1 h2 h3 h4 ho hwl
  go_enter Tryz.func45, Tryz.ntmps45
  go_wp2_with fail
  refine (dmay_any i _ HD.out).mono ?_
  rintro e w' ⟨rfl, rfl⟩
  by_cases hin : 0 ≤ i ∧ i < n
  · rw [decide_eq_true hin.1, decide_eq_true hin.2]
    by_cases h128 : l.length = 128
    · have hn : (l.length : Int) = 128 := by omega
      have HE := Lib.hid (show writeM n m i l = if (stepM m).dead then (stepM m, 9) else ({ m with pos := if m.stops then m.pos - 1 else m.pos, waits := m.waits ++ [(i.toNat, l)] }, 0) by
        unfold writeM; rw [if_neg (by omega)])
      go_wp2_with fail
      refine (dstep_any _ HD.out).mono ?_
      rintro e w1 ⟨rfl, hd1, hs1⟩
      have HD1 := Lib.hid hd1
      have HS1 := Lib.hid hs1
      clear hd1 hs1
      cases hdd : (stepM m).dead
      · have HM := Lib.hid (show stepM m = m ∧ m.dead = false by
          unfold stepM at hdd ⊢
          split at hdd
          · cases hdd
          · rename_i hq
            rw [if_neg hq]
            exact ⟨rfl, hdd⟩)
        replace HE := Lib.hid (show writeM n m i l = ({ m with pos := if m.stops then m.pos - 1 else m.pos, waits := m.waits ++ [(i.toNat, l)] }, 0) from HE.out.trans (by rw [hdd]; rfl))
        rw [HM.out.1] at HD1
        obtain ⟨r, wr, fl, hk⟩ := HD1.out.dsk
        obtain ⟨pp, hpp⟩ : ∃ p, p = (if m.stops then m.pos - 1 else m.pos) := ⟨_, rfl⟩
        have hpos : m.stops = true → 1 ≤ m.pos := fun hst => by
          have h1 := HD1.out.ok.pb.1
          have h2 := HM.out.1
          rcases (show m.pos = 0 ∨ 1 ≤ m.pos by omega) with h0 | h0
          · have : (stepM m).dead = true := by unfold stepM; rw [hst, h0]; rfl
            rw [hdd] at this; cases this
          · exact h0
        have HPB := Lib.hid (show 0 ≤ pp ∧ pp ≤ 4611686018427387903 by
          have h1 := HD1.out.ok.pb
          rw [hpp]
          split
          · rename_i hst; have := hpos hst; omega
          · exact h1)
        rw [← hpp] at HE
        have HPP := Lib.hid hpp
        obtain ⟨g, hg⟩ : ∃ g o, A = some ⟨g, o, none⟩ := by
          obtain ⟨ad, e, hc⟩ := byte_is_cells HX.out 0 (by omega)
          have := spot_none (only_cell hc).2
          have hz : ad.add 0 = ad := by unfold Addr.add; exact if_pos rfl
          rw [hz] at this
          exact ⟨_, _, by rw [e]; exact congrArg some this⟩
        obtain ⟨o, rfl⟩ := hg
        have c3 := hk.cell 3
        have c4 := hk.cell 4
        have f4 := hk.frozen 4
        simp at c3 c4
        have HK := Lib.hid hk
        clear hk hpp
        have hpw : m.stops = true → IntKind.i64.wrap (m.pos - 1) = m.pos - 1 := fun h => IntWalk.i64_in _ (by have := HD1.out.ok.pb; have := hpos h; omega)
        go_upto_if 22 with (fail)
        go_cut [] (fun wc => Hid (Blk wc D #[.slice (some ⟨K, 0, none⟩) n n, vw, .bool m.dead, .bool m.stops, .int .i64 pp, .int .i64 r, .int .i64 wr, .int .i64 fl] 107) ∧ Hid (Blk wc K (rowB m.img) 114) ∧ Hid (waitE.Own 153 wc base vw m.waits) ∧ Hid (DStep w' wc D K vw vw))
        case first =>
          cases hst : m.stops
          · rw [hst] at c3
            go_wp2_with fail
            go_meet
            exact ⟨Lib.hid (by have := HK.out; rw [HPP.out, hst]; simpa [hst] using this), Lib.hid HD1.out.kept, Lib.hid HD1.out.wait, HS1⟩
          · rw [hst] at c3
            have hpw2 := hpw hst
            clear hpw
            go_wp2_with fail
            go_meet
            refine ⟨Lib.hid ?_, Lib.hid (HD1.out.kept.set_else _ _ _ (blk_ne HK.out HD1.out.kept (by decide))), Lib.hid (HD1.out.wait.grown (setCell_grown _ _ _ _) (.inr (own_blk_ne HD1.out.wait HK.out (by decide)))), Lib.hid (HS1.out.trans ⟨Kp.of_gb (setCell_grown _ _ _ _) (fun k hk => nbs_not (by rw [← hk]; simp)), LiesN.refl _ _⟩)⟩
            have := HK.out.set 4 (.int .i64 (m.pos - 1))
            rw [HPP.out, hst]
            simpa [hst] using this
        case rest =>
        clear c3 c4 f4 hpw
        obtain ⟨HB, HKe, HWa, HS⟩ := hcut
        have HXc := Lib.hid (HS.out.sub.is HX.out)
        have HXr := Lib.hid (show wc.rangeAt g o (l.map (.int .u8)) from fun j v hv => by
          have hj : j < l.length := by have := (List.getElem?_eq_some_iff.1 hv).1; simpa using this
          obtain ⟨ad, e, hc⟩ := byte_is_cells HXc.out j hj
          injection e with e
          rw [← e, addr_add] at hc
          rw [(only_cell hc).2, ← hv]
          simp [hj])
        have c1 := HB.out.cell 1
        have f1 := HB.out.frozen 1
        simp at c1
        go_wp2_with fail
        refine wp_region_ways (S := (fun w' => w'.rangeAt g o (l.map (.int .u8)))) [0, 1, 2, 3, 5, 6, 7, 8, 9, 12, 13] (y := .take 0 (.take 1 (.take 2 (.take 3 (.take 5 (.take 6 (.take 7 (.take 8 (.take 9 (.ev 4 (.ev 10 (.ev 11 (.take 12 (.take 13 (.ev 14 (.done) (.stop)))) (.stop)) (.stop)) (.ev 10 (.ev 4 (.ev 11 (.take 12 (.take 13 (.ev 14 (.done) (.stop)))) (.stop)) (.stop)) (.stop)))))))))))) (by kernel_rfl) (by kernel_rfl) (by kernel_rfl) ?_ (fun hHeld => ?_)
        · exact (World.rangeAt_drew _ _ _ _).2 HXr.out
        clear hHeld
        repeat (first | (refine wpWay_take rfl (by rfl) (by intro w hSw; (try dsimp only at hSw); first | (go_simp; done) | (go_simp; with_reducible rfl)) ?_; try simp only [Act.put, List.setIfInBounds_toArray, List.set_cons_zero, List.set_cons_succ]) | (refine wpWay_skip rfl (by rfl) ?_; try simp only [Act.put, List.setIfInBounds_toArray, List.set_cons_zero, List.set_cons_succ]))
        refine wpWay_take (v := .pointer (some ⟨g, o, none⟩)) rfl (by rfl) (by intro w _; kernel_rfl) ?_
        try simp only [Act.put, List.setIfInBounds_toArray, List.set_cons_zero, List.set_cons_succ]
        refine ⟨_, _, nth_ops (i := 8) rfl, yieldsIf_load_mid rfl 114 (.tmp 37) rfl g o rfl (l.map (.int .u8)) _ (fun w h => h) Tryz.underlying114 rfl (by rw [List.length_map, h128]; kernel_rfl), ?_⟩
        try simp only [Act.put, List.setIfInBounds_toArray, List.set_cons_zero, List.set_cons_succ]
        refine ⟨_, _, nth_ops (i := 9) rfl, yields_build rfl 153 #[(0, .tmp 35), (1, .tmp 38)] rfl (#[Value.int .i64 i] ++ rowB l) (by
          simp only [List.map_toArray, List.map_cons, List.map_nil]
          exact built_wait i (rowB l) (by rw [rowB_size]; exact h128)), ?_⟩
        try simp only [Act.put, List.setIfInBounds_toArray, List.set_cons_zero, List.set_cons_succ]
        replace HB := Lib.hid (HB.out.drew)
        replace HKe := Lib.hid (HKe.out.drew)
        replace HWa := Lib.hid (HWa.out.bl (Bl.refl _).drew)
        replace HS := Lib.hid (HS.out.trans ⟨Kp.of_bl (Bl.refl _).drew, LiesN.refl _ _⟩)
        replace HXr := Lib.hid ((World.rangeAt_drew _ _ _ _).2 HXr.out)
        replace HXc := Lib.hid ((Sub.bl (((Bl.refl wc).drew).only _)).is HXc.out)
        generalize wc.drew = wd at *
        clear c1 f1
        have hcell : (#[Value.int .i64 i] ++ rowB l).toList = waitE.c (i.toNat, l) := by
          rw [wait_c _ _ h128, Array.toList_append, rowB_list, Int.toNat_of_nonneg hin.1]; rfl
        have hcsz : (#[Value.int .i64 i] ++ rowB l).size = 129 := by rw [Array.size_append, rowB_size, h128]; rfl
        generalize #[Value.int .i64 i] ++ rowB l = cells at *
        have HCe := Lib.hid hcell
        have HCs := Lib.hid hcsz
        clear hcell hcsz
        obtain ⟨ie, hie, hzz⟩ := Option.map_eq_some_iff.1 infoWait
        simp only [Prod.mk.injEq] at hzz
        obtain ⟨hz, hs, -⟩ := hzz
        have hfill : Instr.fill (fun i => some (i * ie.size, ie.size)) ((Array.range (1 * ie.size)).map ((Value.agg (#[.int .i64 0] ++ rowB (List.replicate 128 0))).cells[· % (Value.agg (#[.int .i64 0] ++ rowB (List.replicate 128 0))).cells.size]!)) [(0, .agg cells)] = some cells := by
          rw [hs]
          have := Great.fill_whole (s := 129) (by decide) [.agg cells] ((Array.range (1 * 129)).map ((Value.agg (#[.int .i64 0] ++ rowB (List.replicate 128 0))).cells[· % (Value.agg (#[.int .i64 0] ++ rowB (List.replicate 128 0))).cells.size]!)) (fun v hv => by simp at hv; subst hv; exact HCs.out) (by rw [Array.size_map, Array.size_range]; rfl)
          refine this.trans ?_
          simp [Value.cells]
        have HFi := Lib.hid hfill
        have HS1' := Lib.hid (show ¬ 1 * ie.size > 2 ^ 24 by rw [hs]; decide)
        have HS2' := Lib.hid (show ¬ 1 * ie.size = 0 by rw [hs]; decide)
        have HIE := Lib.hid hie
        have HZI := Lib.hid hz
        clear hfill hie hz hs
        refine wpWay_ev rfl (fun K hK => ?_) ?_
        · have c1 := HB.out.cell 1
          simp at c1
          go_wp2_with fail
          refine ⟨HXr.out, ?_⟩
          clear c1
          repeat (first | (refine wpWay_take rfl (by rfl) (by intro w hSw; (try dsimp only at hSw); first | (go_simp; done) | (go_simp; with_reducible rfl)) ?_; try simp only [Act.put, List.setIfInBounds_toArray, List.set_cons_zero, List.set_cons_succ]) | (refine wpWay_skip rfl (by rfl) ?_; try simp only [Act.put, List.setIfInBounds_toArray, List.set_cons_zero, List.set_cons_succ]))
          refine wpWay_ev rfl (fun K hK => ?_) wpWay_stop
          go_wp2_with (refine wpList_buildSlice rfl 100 153 1 _ rfl cells ie _ Tryz.underlying100 HIE.out HZI.out HS1'.out HS2'.out (by simp only [List.map_toArray, List.map_cons, List.map_nil]; exact HFi.out) ?_)
          have HLi := Lib.hid (Enc.Is.lit1 (E := waitE) (e := 153) wd (i.toNat, l) cells HCe.out rfl)
          have hb := (Bl.refl wd).alloc (.cells cells 153)
          replace HXr := Lib.hid (World.rangeAt_alloc HXr.out (.cells cells 153))
          replace HB := Lib.hid (HB.out.bl hb)
          replace HKe := Lib.hid (HKe.out.bl hb)
          replace HWa := Lib.hid (HWa.out.bl hb)
          replace HS := Lib.hid (HS.out.trans ⟨Kp.of_bl hb, LiesN.refl _ _⟩)
          refine ⟨HXr.out, ?_⟩
          clear hb
          generalize wd.alloc (.cells cells 153) = w5 at *
          repeat (first | (refine wpWay_take rfl (by rfl) (by intro w hSw; (try dsimp only at hSw); first | (go_simp; done) | (go_simp; with_reducible rfl)) ?_; try simp only [Act.put, List.setIfInBounds_toArray, List.set_cons_zero, List.set_cons_succ]) | (refine wpWay_skip rfl (by rfl) ?_; try simp only [Act.put, List.setIfInBounds_toArray, List.set_cons_zero, List.set_cons_succ]))
          refine wpWay_ev rfl (fun K hK => ?_) wpWay_stop
          go_wp2_with (at_builtin; refine Enc.Own.appendL (E := waitE) rfl (.tmp 34) (.tmp 40) 100 rfl base 153 _ 129 136 Tryz.underlying100 infoWait rfl (by kernel_rfl) (by decide) (by decide) vw m.waits rfl HWa.out _ _ rfl HLi.out (by simp) (by have := HWl.out; simp; omega) (Nat.le_trans HD.out.lowD (Nat.le_of_lt HB.out.lt)) ?_; intro v6 w6 ho6 hg6 hl6; obtain ⟨L, hL⟩ : ∃ L, L = m.waits ++ [(i.toNat, l)] := ⟨_, rfl⟩; rw [← hL] at ho6; have HLL := Lib.hid hL; clear hL; obtain ⟨A6, ca6, rfl⟩ := ho6.slice)
          have HB6 := Lib.hid (HB.out.grown hg6 (own_blk_ne HWa.out HB.out (by decide)))
          have HK6 := Lib.hid (HKe.out.grown hg6 (own_blk_ne HWa.out HKe.out (by decide)))
          have HS6 := Lib.hid (HS.out.trans ⟨Kp.of_gb hg6 (fun k hk => nbs_not (by rw [← hk]; simp)), hl6.n⟩)
          have HX6 := Lib.hid (range_of_is (HS6.out.sub.is HX.out))
          have HO6 := Lib.hid ho6
          clear ho6 hg6 hl6 HB HKe HWa HS HXr HXc
          refine ⟨HX6.out, ?_⟩
          repeat (first | (refine wpWay_take rfl (by rfl) (by intro w hSw; (try dsimp only at hSw); first | (go_simp; done) | (go_simp; with_reducible rfl)) ?_; try simp only [Act.put, List.setIfInBounds_toArray, List.set_cons_zero, List.set_cons_succ]) | (refine wpWay_skip rfl (by rfl) ?_; try simp only [Act.put, List.setIfInBounds_toArray, List.set_cons_zero, List.set_cons_succ]))
          have c1 := HB6.out.cell 1
          have f1 := HB6.out.frozen 1
          simp at c1
          refine wpWay_ev rfl (fun K hK => ?_) wpWay_stop
          go_wp2_with fail
          have hDK := blk_ne HB6.out HK6.out (by decide)
          have HB7 := Lib.hid (HB6.out.set 1 (.slice A6 L.length ca6))
          have HK7 := Lib.hid (HK6.out.set_else D 1 (.slice A6 L.length ca6) hDK)
          have HO7 := Lib.hid (HO6.out.grown (setCell_grown _ D 1 (.slice A6 L.length ca6)) (.inr (own_blk_ne HO6.out HB6.out (by decide))))
          have HS7 := Lib.hid (HS6.out.trans ⟨Kp.of_gb (setCell_grown w6 D 1 (.slice A6 L.length ca6)) (fun k hk => nbs_not (by rw [← hk]; simp)), LiesN.refl _ _⟩)
          have HX7 := Lib.hid (range_of_is (HS7.out.sub.is HX.out))
          clear HB6 HK6 HO6 HS6 HX6 c1 f1
          generalize w6.setCell ⟨D, 1, none⟩ (.slice A6 L.length ca6) = w7 at *
          refine ⟨HX7.out, ?_⟩
          refine wpWay_done ?_
          have c6 := HB7.out.cell 6
          have f6 := HB7.out.frozen 6
          simp at c6
          go_wp2_with fail
          refine (aaddD_any ⟨D, 6, none⟩ _ 1 _ c6 f6).mono ?_
          rintro e w8 ⟨rfl, rfl⟩
          go_wp2
          go_ret
          refine ⟨by rw [HE.out]; rfl, _, ?_, HS7.out.trans ⟨Kp.of_gb (setCell_grown _ D 6 _) (fun k hk => nbs_not (by rw [← hk]; simp)), LiesN.refl _ _⟩⟩
          rw [HE.out, ← HLL.out]
          refine ⟨⟨r, wrap64 (wr + 1), fl, ?_⟩, HK7.out.set_else D 6 _ hDK, HO7.out.grown (setCell_grown _ D 6 _) (.inr (own_blk_ne HO7.out HB7.out (by decide))), ⟨HD.out.ok.len, HD.out.ok.n1, HD.out.ok.n2, HD.out.ok.ok, fun p hp => ?_, ?_, ?_⟩, HD.out.lowD, HD.out.lowK⟩
          · have := HB7.out.set 6 (.int .i64 (wrap64 (wr + 1)))
            simpa [HPP.out] using this
          · have hp : p ∈ m.waits ++ [(i.toNat, l)] := by rw [← HLL.out]; exact hp
            rcases List.mem_append.1 hp with q | q
            · exact HD.out.ok.wt p q
            · simp at q
              subst q
              exact ⟨by have := hin; omega, h128, HO.out⟩
          · show L.length ≤ 1000000
            rw [HLL.out]; have := HWl.out; simp; omega
          · exact HPB.out
        · refine wpWay_ev rfl (fun K hK => ?_) wpWay_stop
          go_wp2_with (refine wpList_buildSlice rfl 100 153 1 _ rfl cells ie _ Tryz.underlying100 HIE.out HZI.out HS1'.out HS2'.out (by simp only [List.map_toArray, List.map_cons, List.map_nil]; exact HFi.out) ?_)
          have HLi := Lib.hid (Enc.Is.lit1 (E := waitE) (e := 153) wd (i.toNat, l) cells HCe.out rfl)
          have hb := (Bl.refl wd).alloc (.cells cells 153)
          replace HXr := Lib.hid (World.rangeAt_alloc HXr.out (.cells cells 153))
          replace HB := Lib.hid (HB.out.bl hb)
          replace HKe := Lib.hid (HKe.out.bl hb)
          replace HWa := Lib.hid (HWa.out.bl hb)
          replace HS := Lib.hid (HS.out.trans ⟨Kp.of_bl hb, LiesN.refl _ _⟩)
          refine ⟨HXr.out, ?_⟩
          clear hb
          generalize wd.alloc (.cells cells 153) = w5 at *
          repeat (first | (refine wpWay_take rfl (by rfl) (by intro w hSw; (try dsimp only at hSw); first | (go_simp; done) | (go_simp; with_reducible rfl)) ?_; try simp only [Act.put, List.setIfInBounds_toArray, List.set_cons_zero, List.set_cons_succ]) | (refine wpWay_skip rfl (by rfl) ?_; try simp only [Act.put, List.setIfInBounds_toArray, List.set_cons_zero, List.set_cons_succ]))
          refine wpWay_ev rfl (fun K hK => ?_) wpWay_stop
          have c1 := HB.out.cell 1
          simp at c1
          go_wp2_with fail
          refine ⟨HXr.out, ?_⟩
          clear c1
          repeat (first | (refine wpWay_take rfl (by rfl) (by intro w hSw; (try dsimp only at hSw); first | (go_simp; done) | (go_simp; with_reducible rfl)) ?_; try simp only [Act.put, List.setIfInBounds_toArray, List.set_cons_zero, List.set_cons_succ]) | (refine wpWay_skip rfl (by rfl) ?_; try simp only [Act.put, List.setIfInBounds_toArray, List.set_cons_zero, List.set_cons_succ]))
          refine wpWay_ev rfl (fun K hK => ?_) wpWay_stop
          go_wp2_with (at_builtin; refine Enc.Own.appendL (E := waitE) rfl (.tmp 34) (.tmp 40) 100 rfl base 153 _ 129 136 Tryz.underlying100 infoWait rfl (by kernel_rfl) (by decide) (by decide) vw m.waits rfl HWa.out _ _ rfl HLi.out (by simp) (by have := HWl.out; simp; omega) (Nat.le_trans HD.out.lowD (Nat.le_of_lt HB.out.lt)) ?_; intro v6 w6 ho6 hg6 hl6; obtain ⟨L, hL⟩ : ∃ L, L = m.waits ++ [(i.toNat, l)] := ⟨_, rfl⟩; rw [← hL] at ho6; have HLL := Lib.hid hL; clear hL; obtain ⟨A6, ca6, rfl⟩ := ho6.slice)
          have HB6 := Lib.hid (HB.out.grown hg6 (own_blk_ne HWa.out HB.out (by decide)))
          have HK6 := Lib.hid (HKe.out.grown hg6 (own_blk_ne HWa.out HKe.out (by decide)))
          have HS6 := Lib.hid (HS.out.trans ⟨Kp.of_gb hg6 (fun k hk => nbs_not (by rw [← hk]; simp)), hl6.n⟩)
          have HX6 := Lib.hid (range_of_is (HS6.out.sub.is HX.out))
          have HO6 := Lib.hid ho6
          clear ho6 hg6 hl6 HB HKe HWa HS HXr HXc
          refine ⟨HX6.out, ?_⟩
          repeat (first | (refine wpWay_take rfl (by rfl) (by intro w hSw; (try dsimp only at hSw); first | (go_simp; done) | (go_simp; with_reducible rfl)) ?_; try simp only [Act.put, List.setIfInBounds_toArray, List.set_cons_zero, List.set_cons_succ]) | (refine wpWay_skip rfl (by rfl) ?_; try simp only [Act.put, List.setIfInBounds_toArray, List.set_cons_zero, List.set_cons_succ]))
          have c1 := HB6.out.cell 1
          have f1 := HB6.out.frozen 1
          simp at c1
          refine wpWay_ev rfl (fun K hK => ?_) wpWay_stop
          go_wp2_with fail
          have hDK := blk_ne HB6.out HK6.out (by decide)
          have HB7 := Lib.hid (HB6.out.set 1 (.slice A6 L.length ca6))
          have HK7 := Lib.hid (HK6.out.set_else D 1 (.slice A6 L.length ca6) hDK)
          have HO7 := Lib.hid (HO6.out.grown (setCell_grown _ D 1 (.slice A6 L.length ca6)) (.inr (own_blk_ne HO6.out HB6.out (by decide))))
          have HS7 := Lib.hid (HS6.out.trans ⟨Kp.of_gb (setCell_grown w6 D 1 (.slice A6 L.length ca6)) (fun k hk => nbs_not (by rw [← hk]; simp)), LiesN.refl _ _⟩)
          have HX7 := Lib.hid (range_of_is (HS7.out.sub.is HX.out))
          clear HB6 HK6 HO6 HS6 HX6 c1 f1
          generalize w6.setCell ⟨D, 1, none⟩ (.slice A6 L.length ca6) = w7 at *
          refine ⟨HX7.out, ?_⟩
          refine wpWay_done ?_
          have c6 := HB7.out.cell 6
          have f6 := HB7.out.frozen 6
          simp at c6
          go_wp2_with fail
          refine (aaddD_any ⟨D, 6, none⟩ _ 1 _ c6 f6).mono ?_
          rintro e w8 ⟨rfl, rfl⟩
          go_wp2
          go_ret
          refine ⟨by rw [HE.out]; rfl, _, ?_, HS7.out.trans ⟨Kp.of_gb (setCell_grown _ D 6 _) (fun k hk => nbs_not (by rw [← hk]; simp)), LiesN.refl _ _⟩⟩
          rw [HE.out, ← HLL.out]
          refine ⟨⟨r, wrap64 (wr + 1), fl, ?_⟩, HK7.out.set_else D 6 _ hDK, HO7.out.grown (setCell_grown _ D 6 _) (.inr (own_blk_ne HO7.out HB7.out (by decide))), ⟨HD.out.ok.len, HD.out.ok.n1, HD.out.ok.n2, HD.out.ok.ok, fun p hp => ?_, ?_, ?_⟩, HD.out.lowD, HD.out.lowK⟩
          · have := HB7.out.set 6 (.int .i64 (wrap64 (wr + 1)))
            simpa [HPP.out] using this
          · have hp : p ∈ m.waits ++ [(i.toNat, l)] := by rw [← HLL.out]; exact hp
            rcases List.mem_append.1 hp with q | q
            · exact HD.out.ok.wt p q
            · simp at q
              subst q
              exact ⟨by have := hin; omega, h128, HO.out⟩
          · show L.length ≤ 1000000
            rw [HLL.out]; have := HWl.out; simp; omega
          · exact HPB.out
      · have HE2 := Lib.hid (show writeM n m i l = (stepM m, 9) from HE.out.trans (by rw [hdd]; rfl))
        go_wp2
        go_ret
        exact ⟨by rw [HE2.out]; rfl, vw, by rw [HE2.out]; exact HD1.out, HS1.out⟩
    · have hn : ¬ (l.length : Int) = 128 := by omega
      have HE := Lib.hid (show writeM n m i l = (m, 1) by unfold writeM; rw [if_pos (by omega)])
      go_wp2
      go_ret
      exact ⟨by rw [HE.out]; rfl, vw, by rw [HE.out]; exact HD.out, DStep.refl _ _ _ _⟩
  · have HF := Lib.hid (show (decide (0 ≤ i) && decide (i < n)) = false by
      rcases (show ¬ 0 ≤ i ∨ ¬ i < n by omega) with h | h
      · rw [decide_eq_false h]; rfl
      · rw [decide_eq_false h, Bool.and_false])
    rw [HF.out]
    have HE := Lib.hid (show writeM n m i l = (m, 1) by unfold writeM; rw [if_pos (by omega)])
    go_wp2
    go_ret
    exact ⟨by rw [HE.out]; rfl, vw, by rw [HE.out]; exact HD.out, DStep.refl _ _ _ _⟩
end Go.Proofs.YtoocebghlchcoaaGreat.ExtW

/- Contracts of disk.Flush, Image. -/
namespace Go.Proofs.YtoocebghlchcoaaGreat.ExtW
open Go.RowKit Go.Ov Go.Proofs.YtoocebghlchcoaaGreat.Need
def flushM (m : DiskM) : DiskM × Int := if (stepM m).dead then (stepM m, 9) else ({ m with img := flushI m.img m.waits, waits := [] }, 0)
def FlP (w w' : World) (base D K : Nat) (vw : Value) (m : DiskM) (n : Nat) (e : Ending) : Prop := e = .returned (.int .i64 (flushM m).2) ∧ ∃ vw', DIs w' base D K vw' (flushM m).1 n ∧ DStep w w' D K vw vw'
set_option maxRecDepth 100000 in
set_option maxHeartbeats 1000000 in
theorem dFlush_any {base D Kb : Nat} {vw : Value} {m : DiskM} {n : Nat} (w : World) (h : DIs w base D Kb vw m n) :
    Calls Tryz.prog 46 #[.pointer (some ⟨D, 0, none⟩)] w fun e w' => FlP w w' base D Kb vw m n e := by
  have HD := Lib.hid h
  clear h
  go_enter Tryz.func46, Tryz.ntmps46
  go_wp2_with fail
  refine (dstep_any _ HD.out).mono ?_
  rintro e w1 ⟨rfl, hd1, hs1⟩
  have HD1 := Lib.hid hd1
  have HS1 := Lib.hid hs1
  clear hd1 hs1
  cases hdd : (stepM m).dead
  · have HM := Lib.hid (show stepM m = m by
      unfold stepM at hdd ⊢
      split at hdd
      · cases hdd
      · rename_i hq
        rw [if_neg hq])
    have HE := Lib.hid (show flushM m = ({ m with img := flushI m.img m.waits, waits := [] }, 0) by unfold flushM; rw [hdd]; rfl)
    rw [HM.out] at HD1
    obtain ⟨r, q, fl, hk⟩ := HD1.out.dsk
    have HK := Lib.hid hk
    obtain ⟨A, c, rfl⟩ := HD1.out.wait.slice
    have hwl := HD1.out.ok.wl
    have c1 := hk.cell 1
    simp at c1
    clear hk
    go_wp2_with fail
    go_loopg [13] m.waits.length (fun gk i wc => ∃ (k : Nat), k ≤ m.waits.length ∧ gk = m.waits.length - k ∧ i = .int .i64 k ∧ Hid (Blk wc D #[.slice (some ⟨Kb, 0, none⟩) n n, .slice A m.waits.length c, .bool m.dead, .bool m.stops, .int .i64 m.pos, .int .i64 r, .int .i64 q, .int .i64 fl] 107) ∧ Hid (Blk wc Kb (rowB (flushI m.img (m.waits.take k))) 114) ∧ Hid (waitE.Own 153 wc base (.slice A m.waits.length c) m.waits) ∧ Hid (DStep w1 wc D Kb (.slice A m.waits.length c) (.slice A m.waits.length c)))
    case atStart => exact ⟨0, by omega, rfl, rfl, HK, Lib.hid HD1.out.kept, Lib.hid HD1.out.wait, Lib.hid (DStep.refl _ _ _ _)⟩
    case round =>
      obtain ⟨k, hk, hgk, rfl, HB, HKe, HWa, HS⟩ := hrel
      by_cases hlt : k < m.waits.length
      · have hlti : (k : Int) < m.waits.length := by omega
        obtain ⟨g, rfl⟩ : ∃ g, A = some ⟨g, 0, none⟩ := by
          rcases HWa.out.2 with ⟨_, e⟩ | ⟨g, c', cur, e, _⟩
          · omega
          · simp only [Value.slice.injEq] at e; exact ⟨g, e.1⟩
        obtain ⟨p, hp⟩ : ∃ p, p = m.waits[k] := ⟨_, rfl⟩
        have hpk : m.waits[k]? = some p := by rw [hp]; exact List.getElem?_eq_getElem hlt
        have HR := Lib.hid (range_own HWa.out.is rfl k p hpk)
        have HPw := Lib.hid (HD1.out.ok.wt p (by rw [hp]; exact List.getElem_mem hlt))
        have HTk := Lib.hid (show m.waits.take (k + 1) = m.waits.take k ++ [p] by rw [hp]; exact List.take_succ_eq_append_getElem hlt)
        clear hp hpk
        obtain ⟨pi, ps⟩ := p
        have hcl : (waitE.c (pi, ps)).length = 129 := waitE.len _
        have HCw := Lib.hid (wait_c pi ps HPw.out.2.1)
        generalize waitE.c (pi, ps) = cw at *
        have hone : cw.toArray.all (·.oneCell') = true := all_oneCell_toArray (fun v hv => by
          rw [HCw.out] at hv
          rcases List.mem_cons.1 hv with rfl | hv
          · rfl
          · obtain ⟨x, -, rfl⟩ := List.mem_map.1 hv; rfl)
        have HOn := Lib.hid hone
        have HCl := Lib.hid hcl
        clear hone hcl
        have hst : (storeCells ⟨wr.heap.size, 0, none⟩ cw).run Tryz.prog (wr.alloc (.cells Tryz.zeroCells153 153)) = .ok () (wr.alloc (.cells cw.toArray 153)) := by
          have := run_storeCells_new (P := Tryz.prog) wr 153 Tryz.zeroCells153 cw.toArray (by rw [show cw.toArray.size = 129 by simp [HCl.out]]; kernel_rfl) (by rw [show cw.toArray.size = 129 by simp [HCl.out]]; kernel_rfl) HOn.out
          simpa using this
        go_wp2_with (refine wpList_load_mid rfl 153 (.tmp 15) rfl g (k * 129) rfl cw _ HR.out Tryz.underlying153 rfl (by rw [HCl.out]; kernel_rfl) ?_)
        clear hst
        have hb := (Bl.refl wr).alloc (.cells cw.toArray 153)
        have HN := Lib.hid (Blk.new wr cw.toArray 153)
        have hN := wr.heap.size
        replace HB := Lib.hid (HB.out.bl hb)
        replace HKe := Lib.hid (HKe.out.bl hb)
        replace HWa := Lib.hid (HWa.out.bl hb)
        replace HS := Lib.hid (HS.out.trans ⟨Kp.of_bl hb, LiesN.refl _ _⟩)
        generalize wr.alloc (.cells cw.toArray 153) = wd at *
        generalize wr.heap.size = N at *
        clear hb hN
        have hN0 : wd.cell? ⟨N, 0, none⟩ = some (.int .i64 pi) := by rw [HN.out.cell 0, HCw.out]; rfl
        have hNr : wd.rangeAt N 1 (ps.map (.int .u8)) := fun j v hv => by
          rw [HN.out.cell (1 + j), HCw.out, List.getElem?_toArray, Nat.add_comm, List.getElem?_cons_succ]; exact hv
        have c0 := HB.out.cell 0
        simp at c0
        refine wp_region_ways (S := (fun w' => w'.cell? ⟨D, 0, none⟩ = some (.slice (some ⟨Kb, 0, none⟩) n n) ∧ w'.cell? ⟨N, 0, none⟩ = some (.int .i64 pi) ∧ w'.rangeAt N 1 (ps.map (.int .u8)))) [0, 1, 2, 3, 4, 5, 6, 7, 8] (y := .take 0 (.take 1 (.take 2 (.take 3 (.take 4 (.take 5 (.take 6 (.take 7 (.take 8 (.ev 9 (.done) (.stop))))))))))) (by kernel_rfl) (by kernel_rfl) (by kernel_rfl) ?_ (fun hHeld => ?_)
        · exact ⟨c0, hN0, (World.rangeAt_drew _ _ _ _).2 hNr⟩
        clear hHeld
        have hpi : pi < n := HPw.out.1
        have hpii : (pi : Int) < n := by omega
        repeat (first | (refine wpWay_take rfl (by rfl) (by intro w hSw; (try dsimp only at hSw); first | (go_simp; done) | (go_simp; with_reducible rfl)) ?_; try simp only [Act.put, List.setIfInBounds_toArray, List.set_cons_zero, List.set_cons_succ]) | (refine wpWay_skip rfl (by rfl) ?_; try simp only [Act.put, List.setIfInBounds_toArray, List.set_cons_zero, List.set_cons_succ]))
        refine ⟨_, _, nth_ops (i := 7) rfl, yieldsIf_load_mid rfl 114 (.tmp 23) rfl N 1 rfl (ps.map (.int .u8)) _ (fun w h => h.2.2) Tryz.underlying114 rfl (by rw [List.length_map, HPw.out.2.1]; kernel_rfl), ?_⟩
        try simp only [Act.put, List.setIfInBounds_toArray, List.set_cons_zero, List.set_cons_succ]
        repeat (first | (refine wpWay_take rfl (by rfl) (by intro w hSw; (try dsimp only at hSw); first | (go_simp; done) | (go_simp; with_reducible rfl)) ?_; try simp only [Act.put, List.setIfInBounds_toArray, List.set_cons_zero, List.set_cons_succ]) | (refine wpWay_skip rfl (by rfl) ?_; try simp only [Act.put, List.setIfInBounds_toArray, List.set_cons_zero, List.set_cons_succ]))
        replace HB := Lib.hid (HB.out.drew)
        replace HKe := Lib.hid (HKe.out.drew)
        replace HN := Lib.hid (HN.out.drew)
        replace HWa := Lib.hid (HWa.out.bl (Bl.refl _).drew)
        replace HS := Lib.hid (HS.out.trans ⟨Kp.of_bl (Bl.refl _).drew, LiesN.refl _ _⟩)
        generalize wd.drew = we at *
        have hIl := flush_len (m.waits.take k) m.img HD1.out.ok.len (fun p hp => HD1.out.ok.wt p (List.mem_of_mem_take hp))
        refine wpWay_ev rfl (fun K hK => ?_) wpWay_stop
        go_wp2_with (refine wpList_storeB rfl 114 (.tmp 25) (.tmp 24) rfl Kb (pi * 128) (flushI m.img (m.waits.take k)) ps 114 rfl rfl HKe.out (by rw [hIl, HPw.out.2.1]; omega) (by rw [HPw.out.2.1]; kernel_rfl) ?_)
        have hDK := blk_ne HB.out HKe.out (by decide)
        have hNK := blk_ne HN.out HKe.out (by decide)
        have hgS := setRow_grown we Kb (rowB (lay (flushI m.img (m.waits.take k)) (pi * 128) ps))
        have HB2 := Lib.hid (HB.out.grown hgS (fun e => hDK (Option.some.inj e).symm))
        have HN2 := Lib.hid (HN.out.grown hgS (fun e => hNK (Option.some.inj e).symm))
        have HK2 := Lib.hid (show Blk (we.setRow Kb (rowB (lay (flushI m.img (m.waits.take k)) (pi * 128) ps))) Kb (rowB (flushI m.img (m.waits.take (k + 1)))) 114 by
          rw [HTk.out]
          unfold flushI
          rw [List.foldl_append]
          rw [Nat.mul_comm pi 128]
          exact blk_setRow HKe.out)
        have HW2 := Lib.hid (HWa.out.grown hgS (.inr (own_blk_ne HWa.out HKe.out (by decide))))
        have HS2 := Lib.hid (HS.out.trans ⟨Kp.of_gb hgS (fun k hk => nbs_not (by rw [← hk]; simp)), LiesN.refl _ _⟩)
        have hN0 : (we.setRow Kb (rowB (lay (flushI m.img (m.waits.take k)) (pi * 128) ps))).cell? ⟨N, 0, none⟩ = some (.int .i64 pi) := by rw [HN2.out.cell 0, HCw.out]; rfl
        have hNr : (we.setRow Kb (rowB (lay (flushI m.img (m.waits.take k)) (pi * 128) ps))).rangeAt N 1 (ps.map (.int .u8)) := fun j v hv => by
          rw [HN2.out.cell (1 + j), HCw.out, List.getElem?_toArray, Nat.add_comm, List.getElem?_cons_succ]; exact hv
        refine ⟨⟨HB2.out.cell 0, hN0, hNr⟩, ?_⟩
        clear hN0 hNr hgS HB HKe HWa HS HN
        generalize we.setRow Kb (rowB (lay (flushI m.img (m.waits.take k)) (pi * 128) ps)) = wf at *
        refine wpWay_done ?_
        go_wp2_with fail
        go_roundg (m.waits.length - (k + 1))
        case measure => omega
        case rel => exact ⟨k + 1, by omega, rfl, by go_num, HB2, HK2, HW2, HS2⟩
      · obtain rfl : k = m.waits.length := by omega
        have HK2 := Lib.hid (show Blk wr Kb (rowB (flushI m.img m.waits)) 114 by have := HKe.out; rwa [List.take_length] at this)
        have f1 := HB.out.frozen 1
        have c1 := HB.out.cell 1
        simp at c1
        have hDK := blk_ne HB.out HK2.out (by decide)
        have HB3 := Lib.hid (HB.out.set 1 (.slice none 0 0))
        have HK3 := Lib.hid (HK2.out.set_else D 1 (.slice none 0 0) hDK)
        have HS3 := Lib.hid (HS.out.trans (v2 := .slice none 0 0) ⟨Kp.of_gb (setCell_grown wr D 1 (.slice none 0 0)) (fun k hk => nbs_not (by rw [← hk]; simp)), LiesN.none _ _⟩)
        have c7 := HB3.out.cell 7
        have f7 := HB3.out.frozen 7
        simp at c7
        go_wp2_with fail
        refine (aaddD_any ⟨D, 7, none⟩ _ 1 _ c7 f7).mono ?_
        rintro e w8 ⟨rfl, rfl⟩
        go_wp2
        go_ret
        refine ⟨by rw [HE.out]; rfl, .slice none 0 0, ?_, (HS1.out.trans HS3.out).trans ⟨Kp.of_gb (setCell_grown _ D 7 _) (fun k hk => nbs_not (by rw [← hk]; simp)), LiesN.refl _ _⟩⟩
        rw [HE.out]
        refine ⟨⟨r, q, wrap64 (fl + 1), ?_⟩, HK3.out.set_else D 7 _ hDK, Enc.Own.nil _ _ _, ⟨flush_len _ _ HD1.out.ok.len HD1.out.ok.wt, HD1.out.ok.n1, HD1.out.ok.n2, flush_ok _ _ HD1.out.ok.ok (fun p hp => (HD1.out.ok.wt p hp).2.2), by simp, by simp, HD1.out.ok.pb⟩, HD1.out.lowD, HD1.out.lowK⟩
        have := HB3.out.set 7 (.int .i64 (wrap64 (fl + 1)))
        simpa using this
  · have HE := Lib.hid (show flushM m = (stepM m, 9) by unfold flushM; rw [hdd]; rfl)
    go_wp2
    go_ret
    exact ⟨by rw [HE.out]; rfl, vw, by rw [HE.out]; exact HD1.out, HS1.out⟩
end Go.Proofs.YtoocebghlchcoaaGreat.ExtW
