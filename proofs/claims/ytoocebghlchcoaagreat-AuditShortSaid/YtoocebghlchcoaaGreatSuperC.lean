/- Contract of super.Choose. -/
import Derived.Test.YtoocebghlchcoaaGreatSuperU
namespace Go.Proofs.YtoocebghlchcoaaGreat.ExtW
open Go.RowKit Go.Ov Go.Proofs.YtoocebghlchcoaaGreat.Need
def unpS (l : List Int) : SuperM × Int × Bool := match unpackSuper l with
  | some (s, c) => (s, c, true)
  | none => (⟨0, 0, 0, 0⟩, 0, false)
theorem UnpP.s {w w' : World} {l : List Int} {e : Ending} (h : UnpP w w' l e) : Bl w w' ∧ ∃ s c b, unpS l = (s, c, b) ∧ e = .returned (.tuple #[supV s, .int .i64 c, .bool b]) := by
  refine ⟨h.1, ?_⟩
  have h2 := h.2
  unfold unpS
  cases hq : unpackSuper l with
  | none => rw [hq] at h2; exact ⟨_, _, _, rfl, h2⟩
  | some p => obtain ⟨s, c⟩ := p; rw [hq] at h2; exact ⟨_, _, _, rfl, h2⟩
/-- the superblock that counts, its cells, its slot -/
def chooseM (a b : List Int) : SuperM × Int × Int × Bool :=
  if (unpS b).2.2 && (!(unpS a).2.2 || decide ((unpS a).1.gen < (unpS b).1.gen)) then ((unpS b).1, (unpS b).2.1, 1, true) else ((unpS a).1, (unpS a).2.1, 0, (unpS a).2.2)
def ChoP (w w' : World) (la lb : List Int) (e : Ending) : Prop := Bl w w' ∧ e = .returned (.tuple #[supV (chooseM la lb).1, .int .i64 (chooseM la lb).2.1, .int .i64 (chooseM la lb).2.2.1, .bool (chooseM la lb).2.2.2])
set_option maxRecDepth 100000 in
set_option maxHeartbeats 1000000 in
theorem suChoose_any (va vb : Value) (la lb : List Int) (w : World) (ha : byteE.Is w va la) (hb : byteE.Is w vb lb) (hla : la.length ≤ 1000000) (hlb : lb.length ≤ 1000000) (oa : okB la) (ob : okB lb) :
    Calls Tryz.prog 83 #[va, vb] w fun e w' => ChoP w w' la lb e := by
  have HX := Lib.hid ha
  have HY := Lib.hid hb
  have HOa := Lib.hid oa
  have HOb := Lib.hid ob
  clear ha hb oa ob
  go_enter Tryz.func83, Tryz.ntmps83
  go_wp2_with fail
  refine (suUnpack_any va la _ (HX.out.bl ((Bl.refl _).alloc _)) hla HOa.out).mono ?_
  rintro e w1 hu
  obtain ⟨hb1, s, c, okA, hs, rfl⟩ := hu.s
  have HSa := Lib.hid hs
  have HB1 := Lib.hid (((Bl.refl w).alloc _).bl hb1)
  have HR := Lib.hid ((Blk.new w #[.int .i64 0, .int .i64 0, .int .i64 0, .int .i64 0] 71).bl hb1)
  obtain ⟨sg, sl, sd, sr⟩ := s
  have r0 := HR.out.cell 0
  have r1 := HR.out.cell 1
  have r2 := HR.out.cell 2
  have r3 := HR.out.cell 3
  have f0 := HR.out.frozen 0
  have f1 := HR.out.frozen 1
  have f2 := HR.out.frozen 2
  have f3 := HR.out.frozen 3
  simp at r0 r1 r2 r3
  clear hb1 hu hs
  simp only [supV]
  go_wp2_with fail
  obtain ⟨w2, hw2⟩ : ∃ w2, w2 = (((w1.setCell ⟨w.heap.size, 0, none⟩ (.int .i64 sg)).setCell ⟨w.heap.size, 1, none⟩ (.int .i64 sl)).setCell ⟨w.heap.size, 2, none⟩ (.int .i64 sd)).setCell ⟨w.heap.size, 3, none⟩ (.int .i64 sr) := ⟨_, rfl⟩
  rw [← hw2]
  have hge : ∀ k, (some w.heap.size : Option Nat) = some k → w.heap.size ≤ k := fun k hk => by injection hk with hk; omega
  have HR2 := Lib.hid (show Blk w2 w.heap.size #[.int .i64 sg, .int .i64 sl, .int .i64 sd, .int .i64 sr] 71 by rw [hw2]; exact ((((HR.out.set 0 (.int .i64 sg)).set 1 (.int .i64 sl)).set 2 (.int .i64 sd)).set 3 (.int .i64 sr)))
  have HB2 := Lib.hid (show Bl w w2 by rw [hw2]; exact ((((HB1.out.grown (setCell_grown _ w.heap.size 0 (.int .i64 sg)) hge).grown (setCell_grown _ w.heap.size 1 (.int .i64 sl)) hge).grown (setCell_grown _ w.heap.size 2 (.int .i64 sd)) hge).grown (setCell_grown _ w.heap.size 3 (.int .i64 sr)) hge))
  clear hw2 r0 r1 r2 r3 f0 f1 f2 f3 HR HB1
  refine (suUnpack_any vb lb _ (HY.out.bl HB2.out) hlb HOb.out).mono ?_
  rintro e w3 hu
  obtain ⟨hb3, t, n, okb, hs, rfl⟩ := hu.s
  have HSb := Lib.hid hs
  have HB3 := Lib.hid (HB2.out.bl hb3)
  have HR3 := Lib.hid (HR2.out.bl hb3)
  obtain ⟨tg, tl, td, tr⟩ := t
  clear hb3 hu hs HR2 HB2
  simp only [supV]
  have HRx := Lib.hid (HR3.out.bl ((Bl.refl w3).alloc (.cells #[.int .i64 tg, .int .i64 tl, .int .i64 td, .int .i64 tr] 71)))
  have HBx := Lib.hid (HB3.out.alloc (.cells #[.int .i64 tg, .int .i64 tl, .int .i64 td, .int .i64 tr] 71))
  have hlt := HR3.out.lt
  have r0 := HRx.out.cell 0
  have r1 := HRx.out.cell 1
  have r2 := HRx.out.cell 2
  have r3 := HRx.out.cell 3
  have f0 := HRx.out.frozen 0
  have f1 := HRx.out.frozen 1
  have f2 := HRx.out.frozen 2
  have f3 := HRx.out.frozen 3
  simp at r0 r1 r2 r3
  have q0 := HR3.out.cell 0
  have q1 := HR3.out.cell 1
  have q2 := HR3.out.cell 2
  have q3 := HR3.out.cell 3
  have p0 := HR3.out.frozen 0
  have p1 := HR3.out.frozen 1
  have p2 := HR3.out.frozen 2
  have p3 := HR3.out.frozen 3
  simp at q0 q1 q2 q3
  cases okb
  · have HCH := Lib.hid (show chooseM la lb = (⟨sg, sl, sd, sr⟩, c, 0, okA) by unfold chooseM; rw [HSa.out, HSb.out]; rfl)
    go_wp2
    have HF := Lib.hid (((((HR3.out.set 0 (.int .i64 sg)).set 1 (.int .i64 sl)).set 2 (.int .i64 sd)).set 3 (.int .i64 sr)).bl ((Bl.refl _).alloc (.cells #[.int .i64 tg, .int .i64 tl, .int .i64 td, .int .i64 tr] 71)))
    have HB5 := Lib.hid (((((HB3.out.grown (setCell_grown _ w.heap.size 0 (.int .i64 sg)) hge).grown (setCell_grown _ w.heap.size 1 (.int .i64 sl)) hge).grown (setCell_grown _ w.heap.size 2 (.int .i64 sd)) hge).grown (setCell_grown _ w.heap.size 3 (.int .i64 sr)) hge).alloc (.cells #[.int .i64 tg, .int .i64 tl, .int .i64 td, .int .i64 tr] 71))
    generalize ((((w3.setCell ⟨w.heap.size, 0, none⟩ (.int .i64 sg)).setCell ⟨w.heap.size, 1, none⟩ (.int .i64 sl)).setCell ⟨w.heap.size, 2, none⟩ (.int .i64 sd)).setCell ⟨w.heap.size, 3, none⟩ (.int .i64 sr)).alloc (.cells #[.int .i64 tg, .int .i64 tl, .int .i64 td, .int .i64 tr] 71) = w5 at *
    try simp only [Exit.inBlock, Exit.then]
    refine bodyPost_ret (results_cell4 rfl _ rfl HF.out Tryz.underlying71 rfl (by kernel_rfl)) rfl ?_
    refine ⟨HB5.out, ?_⟩
    rw [HCH.out]
    rfl
  cases okA
  · have HCH := Lib.hid (show chooseM la lb = (⟨tg, tl, td, tr⟩, n, 1, true) by unfold chooseM; rw [HSa.out, HSb.out]; rfl)
    go_wp2
    have HF := Lib.hid (((((HR3.out.set 0 (.int .i64 tg)).set 1 (.int .i64 tl)).set 2 (.int .i64 td)).set 3 (.int .i64 tr)).bl ((Bl.refl _).alloc (.cells #[.int .i64 tg, .int .i64 tl, .int .i64 td, .int .i64 tr] 71)))
    have HB5 := Lib.hid (((((HB3.out.grown (setCell_grown _ w.heap.size 0 (.int .i64 tg)) hge).grown (setCell_grown _ w.heap.size 1 (.int .i64 tl)) hge).grown (setCell_grown _ w.heap.size 2 (.int .i64 td)) hge).grown (setCell_grown _ w.heap.size 3 (.int .i64 tr)) hge).alloc (.cells #[.int .i64 tg, .int .i64 tl, .int .i64 td, .int .i64 tr] 71))
    generalize ((((w3.setCell ⟨w.heap.size, 0, none⟩ (.int .i64 tg)).setCell ⟨w.heap.size, 1, none⟩ (.int .i64 tl)).setCell ⟨w.heap.size, 2, none⟩ (.int .i64 td)).setCell ⟨w.heap.size, 3, none⟩ (.int .i64 tr)).alloc (.cells #[.int .i64 tg, .int .i64 tl, .int .i64 td, .int .i64 tr] 71) = w5 at *
    try simp only [Exit.inBlock, Exit.then]
    refine bodyPost_ret (results_cell4 rfl _ rfl HF.out Tryz.underlying71 rfl (by kernel_rfl)) rfl ?_
    refine ⟨HB5.out, ?_⟩
    rw [HCH.out]
    rfl
  rcases (show sg < tg ∨ ¬ sg < tg by omega) with hlt2 | hlt2
  · have HCH := Lib.hid (show chooseM la lb = (⟨tg, tl, td, tr⟩, n, 1, true) by unfold chooseM; rw [HSa.out, HSb.out]; simp [hlt2])
    go_wp2
    have HF := Lib.hid (((((HR3.out.set 0 (.int .i64 tg)).set 1 (.int .i64 tl)).set 2 (.int .i64 td)).set 3 (.int .i64 tr)).bl ((Bl.refl _).alloc (.cells #[.int .i64 tg, .int .i64 tl, .int .i64 td, .int .i64 tr] 71)))
    have HB5 := Lib.hid (((((HB3.out.grown (setCell_grown _ w.heap.size 0 (.int .i64 tg)) hge).grown (setCell_grown _ w.heap.size 1 (.int .i64 tl)) hge).grown (setCell_grown _ w.heap.size 2 (.int .i64 td)) hge).grown (setCell_grown _ w.heap.size 3 (.int .i64 tr)) hge).alloc (.cells #[.int .i64 tg, .int .i64 tl, .int .i64 td, .int .i64 tr] 71))
    generalize ((((w3.setCell ⟨w.heap.size, 0, none⟩ (.int .i64 tg)).setCell ⟨w.heap.size, 1, none⟩ (.int .i64 tl)).setCell ⟨w.heap.size, 2, none⟩ (.int .i64 td)).setCell ⟨w.heap.size, 3, none⟩ (.int .i64 tr)).alloc (.cells #[.int .i64 tg, .int .i64 tl, .int .i64 td, .int .i64 tr] 71) = w5 at *
    try simp only [Exit.inBlock, Exit.then]
    refine bodyPost_ret (results_cell4 rfl _ rfl HF.out Tryz.underlying71 rfl (by kernel_rfl)) rfl ?_
    refine ⟨HB5.out, ?_⟩
    rw [HCH.out]
    rfl
  · have HCH := Lib.hid (show chooseM la lb = (⟨sg, sl, sd, sr⟩, c, 0, true) by unfold chooseM; rw [HSa.out, HSb.out]; simp [hlt2])
    go_wp2
    have HF := Lib.hid (((((HR3.out.set 0 (.int .i64 sg)).set 1 (.int .i64 sl)).set 2 (.int .i64 sd)).set 3 (.int .i64 sr)).bl ((Bl.refl _).alloc (.cells #[.int .i64 tg, .int .i64 tl, .int .i64 td, .int .i64 tr] 71)))
    have HB5 := Lib.hid (((((HB3.out.grown (setCell_grown _ w.heap.size 0 (.int .i64 sg)) hge).grown (setCell_grown _ w.heap.size 1 (.int .i64 sl)) hge).grown (setCell_grown _ w.heap.size 2 (.int .i64 sd)) hge).grown (setCell_grown _ w.heap.size 3 (.int .i64 sr)) hge).alloc (.cells #[.int .i64 tg, .int .i64 tl, .int .i64 td, .int .i64 tr] 71))
    generalize ((((w3.setCell ⟨w.heap.size, 0, none⟩ (.int .i64 sg)).setCell ⟨w.heap.size, 1, none⟩ (.int .i64 sl)).setCell ⟨w.heap.size, 2, none⟩ (.int .i64 sd)).setCell ⟨w.heap.size, 3, none⟩ (.int .i64 sr)).alloc (.cells #[.int .i64 tg, .int .i64 tl, .int .i64 td, .int .i64 tr] 71) = w5 at *
    try simp only [Exit.inBlock, Exit.then]
    refine bodyPost_ret (results_cell4 rfl _ rfl HF.out Tryz.underlying71 rfl (by kernel_rfl)) rfl ?_
    refine ⟨HB5.out, ?_⟩
    rw [HCH.out]
    rfl
end Go.Proofs.YtoocebghlchcoaaGreat.ExtW
