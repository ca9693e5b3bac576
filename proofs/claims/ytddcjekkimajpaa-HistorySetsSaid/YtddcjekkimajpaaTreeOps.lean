/- Contracts of tree.New, From, Splice, Nodes, End, Len. -/
import Derived.Test.YtddcjekkimajpaaTreeMade
import Derived.Test.YtddcjekkimajpaaExtNothing
namespace Go.Proofs.Ytddcjekkimajpaa.ExtW
open Go.RowKit Go.Ov Go.Proofs.Ytddcjekkimajpaa.Need

theorem TreeIs.mk' {w : World} {u : Head} {h : NH} {t : TreeM} {b : Nat} {T : TypeId} (hb : Blk w b #[u.v, h.a.v, h.b.v, h.c.v] T) (h1 : extE.Is w u.v t.row) (h2 : NodeR w t.top h) : TreeIs w (.pointer (some ⟨b, 0, none⟩)) t :=
  ⟨b, u, h, rfl, hb.cell 0, hb.cell 1, hb.cell 2, hb.cell 3, h1, h2⟩
theorem madeM_nil : madeM [] = .nil := by
  unfold madeM
  rw [topM_one _ (by rw [leavesM_len]; decide)]; rfl

set_option maxHeartbeats 1000000 in
theorem tnew_any (w : World) : Calls Try.prog 40 #[] w fun e w' => ∃ u, e = .returned u ∧ TreeIs w' u (treeM []) ∧ Bl w w' := by
  go_enter Try.func40, Try.ntmps40
  go_wp2
  go_ret
  refine ⟨_, rfl, TreeIs.mk' (u := nilH) (h := ⟨nilH, nilH, nilH⟩) (Blk.new _ _ _) (Enc.Is.nil _) ?_, (Bl.refl _).alloc _⟩
  rw [show (treeM []).top = .nil from madeM_nil]
  exact NodeR.mk' (Enc.Is.nil _) (Enc.Is.nil _) (Enc.Is.nil _) (NRows.nil _)

set_option maxRecDepth 100000 in
set_option maxHeartbeats 1000000 in
theorem tfrom_bad (v : Value) (l : List Ext) (w : World) (h : extE.Is w v l) (hv : validFrom 0 l = false) :
    Calls Try.prog 32 #[v] w fun e w' => e = .returned (.tuple #[.pointer none, .int .i64 1]) ∧ Bl w w' := by
  have HL := Lib.hid h
  have HV := Lib.hid hv
  clear h hv
  go_enter Try.func32, Try.ntmps32
  go_wp2_with fail
  refine (valid_any _ _ _ HL.out).mono ?_
  rintro e w1 ⟨rfl, hb⟩
  rw [HV.out]
  go_wp2_with fail
  go_ret2
  exact ⟨rfl, hb⟩

set_option maxRecDepth 100000 in
set_option maxHeartbeats 1000000 in
theorem tfrom_ok (v : Value) (l : List Ext) (w : World) (h : extE.Is w v l) (hv : validFrom 0 l = true) :
    Calls Try.prog 32 #[v] w fun e w' => ∃ u, e = .returned (.tuple #[u, .int .i64 0]) ∧ TreeIs w' u (treeM l) ∧ Bl w w' := by
  have hlen := valid_len l hv
  have HL := Lib.hid h
  have HV := Lib.hid hv
  clear h hv
  have hu := Try.underlying91
  go_enter Try.func32, Try.ntmps32
  go_wp2_with fail
  refine (valid_any _ _ _ HL.out).mono ?_
  rintro e w1 ⟨rfl, hb⟩
  rw [HV.out]
  have HB := Lib.hid hb
  clear hb
  go_wp2_with fail
  refine (tfresh_any _ _ _ (HL.out.bl HB.out) (by omega)).mono ?_
  rintro e w2 ⟨u, rfl, ho, hb⟩
  have HU := Lib.hid ho.is
  obtain ⟨A, c, rfl⟩ := ho.slice
  replace HB := Lib.hid (HB.out.bl hb)
  clear ho hb
  go_wp2_with fail
  refine (tmade_any _ _ _ (HL.out.bl HB.out) hlen).mono ?_
  rintro e w3 ⟨n, rfl, hn, hb⟩
  have HN := Lib.hid hn
  replace HU := Lib.hid (HU.out.bl hb)
  replace HB := Lib.hid (HB.out.bl hb)
  clear hn hb
  unfold NH.v
  go_wp2_with fail
  go_ret2
  refine ⟨_, rfl, TreeIs.mk' (u := ⟨A, l.length, c⟩) (h := n) (Blk.new _ _ _) (HU.out.bl ((Bl.refl _).alloc _)) (HN.out.bl ((Bl.refl _).alloc _)), HB.out.alloc _⟩

theorem splice_row_valid {l new : List Ext} {fr tt : Int} (hv : validFrom 0 l = true) (h : (spliceM l fr tt new).2 = 0) : validFrom 0 (spliceM l fr tt new).1 = true := by
  unfold spliceM at *
  by_cases hb : spliceBad l fr tt new = true
  · rw [if_pos hb] at h; simp at h
  · rw [if_neg hb] at h ⊢
    by_cases hl : spliceLong l fr tt new = true
    · rw [if_pos hl] at h; simp at h
    · rw [if_neg hl]
      simp only [spliceBad, Bool.or_eq_true, Bool.not_eq_true', decide_eq_true_eq, not_or, Bool.not_eq_false] at hb
      obtain ⟨⟨⟨h1, h2⟩, h3⟩, h4⟩ := hb
      simp only [spliceLong, decide_eq_true_eq] at hl
      exact splice_valid l new fr tt hv h1 (by omega) (by omega) (by omega) (by omega)

/-- what a splice of a tree gives -/
def SpliceRes (w' : World) (e : Ending) (s : List Ext × Int) : Prop :=
  (s.2 = 0 → ∃ u, e = .returned (.tuple #[u, .int .i64 0]) ∧ TreeIs w' u (treeM s.1)) ∧ (s.2 ≠ 0 → e = .returned (.tuple #[.pointer none, .int .i64 s.2]))

set_option maxRecDepth 100000 in
set_option maxHeartbeats 1000000 in
theorem tsplice_any (v u : Value) (t : TreeM) (new : List Ext) (fr tt : Int) (w : World) (h : TreeIs w v t) (hn : extE.Is w u new) (hv : validFrom 0 t.row = true) (hlen : new.length * 40 ≤ 100000000000000) :
    Calls Try.prog 42 #[v, .int .i64 fr, .int .i64 tt, u] w fun e w' => SpliceRes w' e (spliceM t.row fr tt new) ∧ Bl w w' := by
  obtain ⟨b, uh, n, rfl, c0, _, _, _, hl, _⟩ := h
  have HL := Lib.hid hl
  have HN := Lib.hid hn
  have HV := Lib.hid hv
  have HS := Lib.hid (splice_row_valid (new := new) (fr := fr) (tt := tt) hv)
  simp only [Head.v] at c0
  clear hl hn hv
  have hu := Try.underlying91
  go_enter Try.func42, Try.ntmps42
  go_wp2_with fail
  refine (splice_any _ _ t.row new _ _ _ HL.out HN.out HV.out hlen).mono ?_
  rintro e w1 ⟨z, rfl, ho, hb⟩
  have HO := Lib.hid ho
  have HB := Lib.hid hb
  clear ho hb
  by_cases hz : (spliceM t.row fr tt new).2 = 0
  · have hz2 := hz
    rw [hz]
    have HZ := Lib.hid hz
    clear hz hz2
    go_wp2_with fail
    refine (tfrom_ok _ _ _ HO.out.is (HS.out HZ.out)).mono ?_
    rintro e w2 ⟨u2, rfl, ht, hb⟩
    have HT := Lib.hid ht
    clear ht
    go_wp2_with fail
    go_ret2
    exact ⟨⟨fun _ => ⟨_, rfl, HT.out⟩, fun h => absurd HZ.out h⟩, HB.out.bl hb⟩
  · generalize hs : (spliceM t.row fr tt new).2 = err at *
    have hz1 : (err == 0) = false := by simpa using hz
    have hz2 : (err != 0) = true := by simpa using hz
    have HZ := Lib.hid hz
    have HE := Lib.hid hs
    clear hz hs
    go_wp2_with fail
    go_ret2
    exact ⟨⟨fun h => absurd (HE.out.symm.trans h) HZ.out, fun _ => by rw [HE.out]; rfl⟩, HB.out⟩

set_option maxHeartbeats 1000000 in
theorem tend_any (v : Value) (t : TreeM) (w : World) (h : TreeIs w v t) (hv : validFrom 0 t.row = true) :
    Calls Try.prog 37 #[v] w fun e w' => e = .returned (.int .i64 (endM t.row)) ∧ Bl w w' := by
  obtain ⟨b, uh, n, rfl, c0, _, _, _, hl, _⟩ := h
  have hb := validFrom_bd t.row 0 (by decide) hv
  have hw : wrap64 (endM t.row) = endM t.row := wrap_id (by omega) (by omega)
  have HL := Lib.hid hl
  have HW := Lib.hid hw
  simp only [Head.v] at c0
  clear hl hv hw
  have hu := Try.underlying91
  go_enter Try.func37, Try.ntmps37
  go_wp2_with fail
  refine (end_any _ _ _ HL.out).mono ?_
  rintro e w1 ⟨rfl, hb⟩
  rw [HW.out]
  go_wp2_with fail
  go_ret
  exact ⟨rfl, hb⟩

def nodesOf : NodeM → Nat
  | .mk [] [] [] => 0
  | n => n.count
theorem nodesOf_eq (l : List Ext) (f : List Int) (p : List NodeM) : nodesOf (.mk l f p) = if isE l.length f.length p.length then 0 else (NodeM.mk l f p).count := by
  cases l <;> cases f <;> cases p <;> simp [nodesOf, isE]

end Go.Proofs.Ytddcjekkimajpaa.ExtW
