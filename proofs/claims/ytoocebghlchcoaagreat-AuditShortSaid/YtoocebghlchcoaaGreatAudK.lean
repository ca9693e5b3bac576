/- audit's law: its wakes. -/
import Derived.Test.YtoocebghlchcoaaGreatAudD
namespace Go.Proofs.YtoocebghlchcoaaGreat.ExtW
open Go.RowKit Go.Ov Go.Proofs.YtoocebghlchcoaaGreat.Need
set_option maxRecDepth 100000 in
set_option maxHeartbeats 2000000 in
theorem wakes26_any (w : World) : Calls Tryz.prog 11 #[] w fun e w' => e = .returned (.bool true) ∧ Bl w w' := by
  go_enter Tryz.func11, Tryz.ntmps11
  go_wp2_with fail
  refine (dNew_any 40 _ (by decide) (by decide)).mono ?_
  rintro e w1 ⟨D, rfl, hb1, Kb, hd⟩
  have HB1 := Lib.hid hb1
  have HD := Lib.hid hd
  clear hb1 hd
  go_wp2_with fail
  refine (sFormat_any 8 _ HD.out (by decide) (by decide) (by decide)).mono ?_
  rintro e w2 ⟨rfl, v2, hd2, hs2⟩
  obtain ⟨img, himg⟩ : ∃ img, img = formatM (List.replicate (128 * 40) 0) 8 := ⟨_, rfl⟩
  rw [← himg] at hd2
  have HI := Lib.hid himg
  have HD2 := Lib.hid hd2
  have HB2 := Lib.hid (hs2.kp.bl HB1.out fun i hi => nbs_iff.2 fun hm => by
    simp only [List.mem_cons, List.not_mem_nil, or_false] at hm
    rcases hm with e | e | e
    · injection e with e; have := HD.out.lowD; omega
    · injection e with e; have := HD.out.lowK; omega
    · cases e)
  clear himg hd2 hs2 HD HB1
  go_wp2_with fail
  refine (dImage_any _ HD2.out).mono ?_
  rintro e w3 ⟨u3, rfl, ho3, hb3⟩
  have HO3 := Lib.hid ho3
  have HB3 := Lib.hid (HB2.out.trans hb3)
  have HD3 := Lib.hid (HD2.out.bl hb3)
  clear ho3 hb3 HD2 HB2
  go_wp2_with fail
  refine (aReach_zero u3 _ (found_format u3 img 40 8 _ HO3.out.is HI.out (by decide) (by decide) (by decide) (by decide))).mono ?_
  rintro e w4 ⟨rfl, hb4⟩
  have HB4 := Lib.hid (HB3.out.trans hb4)
  have HD4 := Lib.hid (HD3.out.bl hb4)
  clear hb4 HO3 HD3 HB3
  go_wp2_with fail
  refine (dImage_any _ HD4.out).mono ?_
  rintro e w5 ⟨u5, rfl, ho5, hb5⟩
  have HO5 := Lib.hid ho5
  have HB5 := Lib.hid (HB4.out.trans hb5)
  clear ho5 hb5 HD4 HB4
  go_wp2_with fail
  refine (aShow_zero u5 _ (found_format u5 img 40 8 _ HO5.out.is HI.out (by decide) (by decide) (by decide) (by decide))).mono ?_
  rintro e w6 ⟨rfl, hb6⟩
  have HB6 := Lib.hid (HB5.out.trans hb6)
  clear hb6 HO5 HB5
  unfold viewC
  go_wp2
  go_ret
  exact ⟨rfl, HB6.out.alloc _⟩
end Go.Proofs.YtoocebghlchcoaaGreat.ExtW
