/- Contracts of audit: Reach, Show, Journal, Samples, where a disk is none, is corrupt, has no root. -/
import Derived.Test.YtoocebghlchcoaaGreatFoundA
import Derived.Test.YtoocebghlchcoaaGreatExtW
namespace Go.Proofs.YtoocebghlchcoaaGreat.ExtW
open Go.RowKit Go.Ov Go.Proofs.YtoocebghlchcoaaGreat.Need
/-- nothing is found in an image, and why -/
def FoundErr (v : Value) (w : World) (c : Int) : Prop := ∀ w1, Bl w w1 → Calls Tryz.prog 30 #[v] w1 fun e w2 => e = .returned (.tuple #[.pointer none, .int .i64 c]) ∧ Bl w1 w2
/-- a disk without a root is found -/
def FoundZero (v : Value) (w : World) : Prop := ∀ w1, Bl w w1 → Calls Tryz.prog 30 #[v] w1 fun e w2 => ∃ F M g f d c, e = .returned (.tuple #[.pointer (some ⟨F, 0, none⟩), .int .i64 0]) ∧ Bl w1 w2 ∧ Blk w2 F (foundC g f d c M) 76
theorem aReach_err (v : Value) (c : Int) (w : World) (h : FoundErr v w c) (h0 : c ≠ 0) :
    Calls Tryz.prog 16 #[v] w fun e w' => e = .returned (.tuple #[.slice none 0 0, .int .i64 c]) ∧ Bl w w' := by
  go_enter Tryz.func16, Tryz.ntmps16
  go_wp2_with fail
  refine (h _ (Bl.refl _)).mono ?_
  rintro e w1 ⟨rfl, hb⟩
  go_wp2
  go_ret2
  exact ⟨rfl, hb⟩
theorem aReach_zero (v : Value) (w : World) (h : FoundZero v w) :
    Calls Tryz.prog 16 #[v] w fun e w' => e = .returned (.tuple #[.slice none 0 0, .int .i64 0]) ∧ Bl w w' := by
  go_enter Tryz.func16, Tryz.ntmps16
  go_wp2_with fail
  refine (h _ (Bl.refl _)).mono ?_
  rintro e w1 ⟨F, M, g, f, d, c, rfl, hb, hF⟩
  have c8 := hF.cell 8
  simp [foundC] at c8
  go_wp2
  go_ret2
  exact ⟨rfl, hb⟩
theorem aJournal_err (v : Value) (c : Int) (w : World) (h : FoundErr v w c) (h0 : c ≠ 0) :
    Calls Tryz.prog 18 #[v] w fun e w' => e = .returned (.tuple #[.slice none 0 0, .int .i64 c]) ∧ Bl w w' := by
  go_enter Tryz.func18, Tryz.ntmps18
  go_wp2_with fail
  refine (h _ (Bl.refl _)).mono ?_
  rintro e w1 ⟨rfl, hb⟩
  go_wp2
  go_ret2
  exact ⟨rfl, hb⟩
theorem results_cell2 {P : Program} {fn : Func} {p q : Tmp} {ty : TypeId} (h : fn.results = #[.cell p ty, .tmp q]) (tmps : Array Value) {w : World} {g : Nat} {t : TypeId} {cs : Array Value} {d : TypeDesc}
    (hp : tmps.getD p undef = .pointer (some ⟨g, 0, none⟩)) (hg : Blk w g cs t)
    (hu : P.underlying ty = some d) (hd : (match d with | .struct _ | .array _ _ => true | _ => false) = true) (hi : (P.info? ty).map (·.size) = some cs.size) :
    (results fn tmps).run P w = .ok (.tuple #[.agg cs, tmps.getD q undef]) w := by
  have hp' : tmps[p]?.getD undef = .pointer (some ⟨g, 0, none⟩) := by simpa using hp
  simp [results, h, hp', asAddr, run_loadVar_row w g t ty cs (0, 0) d hg hu hd hi]
/-- a view of nothing -/
def viewC : Array Value := #[.slice none 0 0, .slice none 0 0, .slice none 0 0]
set_option maxHeartbeats 1000000 in
theorem aShow_err (v : Value) (c : Int) (w : World) (h : FoundErr v w c) (h0 : c ≠ 0) :
    Calls Tryz.prog 17 #[v] w fun e w' => e = .returned (.tuple #[.agg viewC, .int .i64 c]) ∧ Bl w w' := by
  have hal := (Bl.refl w).alloc (.cells viewC 50)
  have HV := Lib.hid (Blk.new w viewC 50)
  have HAL := Lib.hid hal
  clear hal
  go_enter Tryz.func17, Tryz.ntmps17
  go_wp2_with fail
  unfold viewC at HV HAL
  generalize hN : w.heap.size = N at *
  generalize w.alloc (.cells #[.slice none 0 0, .slice none 0 0, .slice none 0 0] 50) = w0 at *
  refine (h _ HAL.out).mono ?_
  rintro e w1 ⟨rfl, hb⟩
  have HV1 := Lib.hid (HV.out.bl hb)
  have HB1 := Lib.hid (HAL.out.trans hb)
  clear hb
  have v0 := HV1.out.cell 0
  have v1 := HV1.out.cell 1
  have v2 := HV1.out.cell 2
  have f0 := HV1.out.frozen 0
  have f1 := HV1.out.frozen 1
  have f2 := HV1.out.frozen 2
  simp at v0 v1 v2
  go_wp2
  have HF := Lib.hid (((HV1.out.set 0 (.slice none 0 0)).set 1 (.slice none 0 0)).set 2 (.slice none 0 0))
  have HB2 := Lib.hid (((HB1.out.grown (setCell_grown _ N 0 (.slice none 0 0)) (fun k hk => by injection hk with hk; omega)).grown (setCell_grown _ N 1 (.slice none 0 0)) (fun k hk => by injection hk with hk; omega)).grown (setCell_grown _ N 2 (.slice none 0 0)) (fun k hk => by injection hk with hk; omega))
  try simp only [Exit.inBlock, Exit.then]
  refine bodyPost_ret (results_cell2 rfl _ rfl HF.out Tryz.underlying50 rfl (by kernel_rfl)) rfl ?_
  exact ⟨rfl, HB2.out⟩
set_option maxHeartbeats 1000000 in
theorem aShow_zero (v : Value) (w : World) (h : FoundZero v w) :
    Calls Tryz.prog 17 #[v] w fun e w' => e = .returned (.tuple #[.agg viewC, .int .i64 0]) ∧ Bl w w' := by
  have hal := (Bl.refl w).alloc (.cells viewC 50)
  have HV := Lib.hid (Blk.new w viewC 50)
  have HAL := Lib.hid hal
  clear hal
  go_enter Tryz.func17, Tryz.ntmps17
  go_wp2_with fail
  unfold viewC at HV HAL
  generalize hN : w.heap.size = N at *
  generalize w.alloc (.cells #[.slice none 0 0, .slice none 0 0, .slice none 0 0] 50) = w0 at *
  refine (h _ HAL.out).mono ?_
  rintro e w1 ⟨F, M, g, f, d, c, rfl, hb, hF⟩
  have HV1 := Lib.hid (HV.out.bl hb)
  have HB1 := Lib.hid (HAL.out.trans hb)
  have c5 := hF.cell 5
  simp [foundC] at c5
  clear hb hF
  have v0 := HV1.out.cell 0
  have v1 := HV1.out.cell 1
  have v2 := HV1.out.cell 2
  have f0 := HV1.out.frozen 0
  have f1 := HV1.out.frozen 1
  have f2 := HV1.out.frozen 2
  simp at v0 v1 v2
  go_wp2
  have HF := Lib.hid (((HV1.out.set 0 (.slice none 0 0)).set 1 (.slice none 0 0)).set 2 (.slice none 0 0))
  have HB2 := Lib.hid (((HB1.out.grown (setCell_grown _ N 0 (.slice none 0 0)) (fun k hk => by injection hk with hk; omega)).grown (setCell_grown _ N 1 (.slice none 0 0)) (fun k hk => by injection hk with hk; omega)).grown (setCell_grown _ N 2 (.slice none 0 0)) (fun k hk => by injection hk with hk; omega))
  try simp only [Exit.inBlock, Exit.then]
  refine bodyPost_ret (results_cell2 rfl _ rfl HF.out Tryz.underlying50 rfl (by kernel_rfl)) rfl ?_
  exact ⟨rfl, HB2.out⟩
end Go.Proofs.YtoocebghlchcoaaGreat.ExtW
