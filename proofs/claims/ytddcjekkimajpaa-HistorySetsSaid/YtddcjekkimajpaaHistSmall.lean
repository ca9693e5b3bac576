/- history.Apply: the arms that change nothing. -/
import Derived.Test.YtddcjekkimajpaaHistChange
namespace Go.Proofs.Ytddcjekkimajpaa.ExtW
open Go.RowKit Go.Ov Go.Proofs.Ytddcjekkimajpaa.Need

set_option maxRecDepth 100000 in
set_option maxHeartbeats 800000 in
theorem happly_bad (B : Nat) (rv : Value) (r : Rec) (w : World) (hr : RecIs w rv r) (hv : validRec r = false) :
    Calls Try.prog 23 #[.pointer (some ⟨B, 0, none⟩), rv] w fun e w' => e = .returned (.int .i64 1) ∧ Bl w w' := by
  have HR := Lib.hid hr
  have HV := Lib.hid hv
  obtain ⟨u2, rfl, hl⟩ := hr
  obtain ⟨A, c, rfl, _⟩ := hl
  clear hv
  have hur := Try.underlying33
  go_enter Try.func23, Try.ntmps23
  go_wp2_with fail
  refine (rvalidRec_any _ _ _ (HR.out.bl ((Bl.refl _).alloc _))).mono ?_
  rintro e w1 ⟨rfl, hb⟩
  rw [HV.out]
  have HB := Lib.hid (Bl.bl ((Bl.refl w).alloc _) hb)
  clear hb
  go_wp2_with fail
  go_ret
  exact ⟨rfl, HB.out⟩

set_option maxRecDepth 100000 in
set_option maxHeartbeats 800000 in
theorem happly_undo0 (B : Nat) (m : HistM) (rv : Value) (r : Rec) (w : World) (h : HistIs 95 w B m) (hr : RecIs w rv r) (hk : r.kind = 4) (hv : validRec r = true) (hu : m.undo.length = 0) :
    Calls Try.prog 23 #[.pointer (some ⟨B, 0, none⟩), rv] w fun e w' => e = .returned (.int .i64 5) ∧ Bl w w' := by
  have HR := Lib.hid hr
  have HV := Lib.hid hv
  obtain ⟨n, u, q, us, rs, h0, h1, h2, h3, h4, h5⟩ := h
  obtain ⟨u2, rfl, hl⟩ := hr
  obtain ⟨A, c, rfl, _⟩ := hl
  have HBk := Lib.hid h0
  have hul := h4.1
  obtain ⟨kk, t, f, o, l⟩ := r
  dsimp only at hk HV
  subst hk
  obtain ⟨uA, un, uc⟩ := u
  obtain ⟨hU, _, hU1⟩ := id h2.1
  simp only [Head.v] at hU1
  have hun : un = 0 := by simp at hU1; omega
  subst hun
  clear h0 h1 h2 h3 h4 h5 hv hul hU1 hu
  have hur := Try.underlying33
  have huh := Try.underlying95
  go_enter Try.func23, Try.ntmps23
  go_wp2_with fail
  refine (rvalidRec_any _ _ _ (HR.out.bl ((Bl.refl _).alloc _))).mono ?_
  rintro e w1 ⟨rfl, hb⟩
  rw [HV.out]
  have b1 := (Blk.new w #[.int .i64 4, .int .i64 t, .int .i64 f, .int .i64 o, .slice A l.length c] 33).bl hb
  have d0 := b1.cell 0
  simp at d0
  have HB1 := Lib.hid (((Bl.refl w).alloc (.cells #[.int .i64 4, .int .i64 t, .int .i64 f, .int .i64 o, .slice A l.length c] 33)).bl hb)
  have HBk1 := Lib.hid (HBk.out.bl HB1.out)
  have c1 := HBk1.out.cell 1
  simp [histC, Head.v] at c1
  clear hb b1
  go_wp2_with fail
  go_ret
  exact ⟨rfl, HB1.out⟩
set_option maxRecDepth 100000 in
set_option maxHeartbeats 800000 in
theorem happly_redo0 (B : Nat) (m : HistM) (rv : Value) (r : Rec) (w : World) (h : HistIs 95 w B m) (hr : RecIs w rv r) (hk : r.kind = 5) (hv : validRec r = true) (hu : m.redo.length = 0) :
    Calls Try.prog 23 #[.pointer (some ⟨B, 0, none⟩), rv] w fun e w' => e = .returned (.int .i64 5) ∧ Bl w w' := by
  have HR := Lib.hid hr
  have HV := Lib.hid hv
  obtain ⟨n, u, q, us, rs, h0, h1, h2, h3, h4, h5⟩ := h
  obtain ⟨u2, rfl, hl⟩ := hr
  obtain ⟨A, c, rfl, _⟩ := hl
  have HBk := Lib.hid h0
  have hul := h5.1
  obtain ⟨kk, t, f, o, l⟩ := r
  dsimp only at hk HV
  subst hk
  obtain ⟨uA, un, uc⟩ := q
  obtain ⟨hU, _, hU1⟩ := id h3.1
  simp only [Head.v] at hU1
  have hun : un = 0 := by simp at hU1; omega
  subst hun
  clear h0 h1 h2 h3 h4 h5 hv hul hU1 hu
  have hur := Try.underlying33
  have huh := Try.underlying95
  go_enter Try.func23, Try.ntmps23
  go_wp2_with fail
  refine (rvalidRec_any _ _ _ (HR.out.bl ((Bl.refl _).alloc _))).mono ?_
  rintro e w1 ⟨rfl, hb⟩
  rw [HV.out]
  have b1 := (Blk.new w #[.int .i64 5, .int .i64 t, .int .i64 f, .int .i64 o, .slice A l.length c] 33).bl hb
  have d0 := b1.cell 0
  simp at d0
  have HB1 := Lib.hid (((Bl.refl w).alloc (.cells #[.int .i64 5, .int .i64 t, .int .i64 f, .int .i64 o, .slice A l.length c] 33)).bl hb)
  have HBk1 := Lib.hid (HBk.out.bl HB1.out)
  have c1 := HBk1.out.cell 2
  simp [histC, Head.v] at c1
  clear hb b1
  go_wp2_with fail
  go_ret
  exact ⟨rfl, HB1.out⟩
end Go.Proofs.Ytddcjekkimajpaa.ExtW
