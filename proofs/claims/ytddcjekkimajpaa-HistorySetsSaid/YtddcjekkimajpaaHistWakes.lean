/- overdublaw22.wakes. -/
import Derived.Test.YtddcjekkimajpaaHistAny
namespace Go.Proofs.Ytddcjekkimajpaa.ExtW
open Go.RowKit Go.Ov Go.Proofs.Ytddcjekkimajpaa.Need

def noH : HistM := ⟨[], [], []⟩
theorem no_undo : applyH noH ⟨4, 0, 0, 0, []⟩ = (noH, 5) := rfl
theorem no_create (id : Int) (h0 : 0 ≤ id) (h1 : id ≤ 99) : applyH noH (recC id) = (stepH noH (oneS id), 0) := by
  have e := (apply_C [] id h0 h1).2.2 rfl (by decide)
  unfold applyH
  rw [if_neg (by rw [valid_recC id h0 h1]; decide), if_neg (by simp [recC]), if_neg (by simp [recC])]
  show (if (applyR [] (recC id)).2 = 0 then _ else _) = _
  rw [e, if_pos rfl, show applyR noH.now (recC id) = (putL [] id (treeM []), 0) from e]; rfl

set_option maxRecDepth 100000 in
set_option maxHeartbeats 800000 in
theorem wakes22_any (w : World) : Calls Try.prog 28 #[] w fun e w' => e = .returned (.bool true) ∧ Bl w w' := by
  have E2 := Lib.hid (no_create 1 (by decide) (by decide))
  go_enter Try.func28, Try.ntmps28
  go_wp2_with fail
  refine (hnew_any _).mono ?_
  rintro e w1 ⟨B, rfl, hBw, hh, hb⟩
  have HB := Lib.hid hb
  have HH := Lib.hid hh
  have HW := Lib.hid hBw
  clear hb hh hBw
  go_wp2_with fail
  refine (happly_any B noH _ ⟨4, 0, 0, 0, []⟩ _ HH.out (rec_is _ 4 0 0 0) SOK.nil.1 (by decide) (by decide)).mono ?_
  rintro e w2 ⟨rfl, hh, hg⟩
  rw [no_undo] at hh ⊢
  have HB2 := Lib.hid (HB.out.grown hg (fun k hk => by have := HW.out; simp at hk; omega))
  have HH2 := Lib.hid hh
  clear hh hg
  go_wp2_with fail
  refine (hnow_any B noH _ HH2.out).mono ?_
  rintro e w3 ⟨u, rfl, hs, rfl⟩
  obtain ⟨bs, _, _, rfl, _⟩ := hs
  go_wp2_with fail
  refine (happly_any B noH _ (recC 1) _ HH2.out (rec_is _ 1 1 0 0) SOK.nil.1 (by decide) (by decide)).mono ?_
  rintro e w4 ⟨rfl, hh, hg⟩
  rw [E2.out] at hh ⊢
  have HB4 := Lib.hid (HB2.out.grown hg (fun k hk => by have := HW.out; simp at hk; omega))
  have HH4 := Lib.hid hh
  clear hh hg
  go_wp2_with fail
  refine (hundo_any B _ _ HH4.out (by decide)).mono ?_
  rintro e w5 ⟨u, us, rfl, ho, hs, hb⟩
  have hl : us.length = 1 := hs.1
  obtain ⟨A, c, rfl⟩ := ho.slice
  rw [hl]
  clear hl ho hs
  go_wp2_with fail
  go_ret
  exact ⟨rfl, HB4.out.bl hb⟩
end Go.Proofs.Ytddcjekkimajpaa.ExtW
