/- The walk of overdublaw24.NeedBlocks. -/
import Derived.Test.YtoocebghlchcoaaBlockA
import Derived.Test.YtoocebghlchcoaaKeepS
import Derived.Test.YtoocebghlchcoaaOpen
namespace Go.Proofs.Ytoocebghlchcoaa.ExtW
open Go.RowKit Go.Ov Go.Proofs.Ytoocebghlchcoaa.Need

theorem blocksM_I (n : Nat) : (blocksM n : Int) = blocks n := by unfold blocksM blocks; split <;> omega
set_option maxRecDepth 100000 in
set_option maxHeartbeats 1000000 in
theorem needBlocks_walk (v : Value) (l : List Int) (n m : Int) (w : World) (hx : ArgInts w v l) (_ : -9223372036854775808 ≤ n ∧ n ≤ 9223372036854775807) (_ : -9223372036854775808 ≤ m ∧ m ≤ 9223372036854775807) :
    Calls Try.prog 3 #[v, .int .i64 n, .int .i64 m] w fun e w' => e = .returned (.bool true) ∧ Bl w w' := by
  have HX := Lib.hid hx.1
  have hl : l.length ≤ 9223372036854775807 := by have := hx.2.1; omega
  clear hx
  go_enter Try.func3, Try.ntmps3
  go_wp2_with fail
  refine (ksamples_any v l 150 w HX.out hl (by decide)).mono ?_
  rintro e w1 ⟨u1, rfl, x, hxo, hxl, hxs, hb1⟩
  have HXO := Lib.hid hxo
  have HXS := Lib.hid hxs
  have HB1 := Lib.hid hb1
  have hxn : x.length ≤ 150 := by omega
  obtain ⟨A1, c1, rfl⟩ := hxo.slice
  clear hxo hxl hxs hb1
  go_wp2_with fail
  refine (knew_any _).mono ?_
  rintro e w2 ⟨C, B, rfl, hb2, hC, hB, hk2⟩
  have HB2 := Lib.hid (HB1.out.trans hb2)
  have HK2 := Lib.hid hk2
  have HX2 := Lib.hid ((sub_old hb2 (G := nb2 C B) (fun k hk => nb2_iff.2 (by omega))).is HXO.out.is)
  clear hb2 hk2
  go_wp2_with fail
  refine (kall_any C B _ x _ HK2.out HX2.out (by omega) HXS.out).mono ?_
  rintro e w3 ⟨u3, uc3, rfl, hs, ls, cs, ho3, hu3, hr3, ha3, hk3, hp3⟩
  have HB3 := Lib.hid (hp3.bl HB2.out (fun i hi => nb2_iff.2 (by have := HB1.out.size; omega)))
  obtain ⟨A3, c3, rfl⟩ := ho3.slice
  have hle : (hs.length : Int) ≤ blocks x.length := by have := ha3.bound; have := hr3.1; have := blocksM_I x.length; omega
  clear ho3 hu3 hr3 ha3 hk3 hp3 HK2 HX2 HB2
  go_wp2_with fail
  refine (within_any _ _ _ (by decide)).mono ?_
  rintro e w' ⟨rfl, rfl⟩
  have hN := within_bd n 2000 (by decide)
  generalize within n 2000 = N at *
  go_wp2_with fail
  refine (within_any _ _ _ (by decide)).mono ?_
  rintro e w' ⟨rfl, rfl⟩
  have hM := within_bd m 2000 (by decide)
  generalize within m 2000 = M at *
  have hw1 : IntKind.i64.wrap (N + M) = N + M := IntWalk.i64_in _ (by omega)
  go_wp2_with fail
  refine (blocks_any _ _ (by omega)).mono ?_
  rintro e w' ⟨rfl, rfl⟩
  go_wp2_with fail
  refine (blocks_any _ _ (by omega)).mono ?_
  rintro e w' ⟨rfl, rfl⟩
  have ha : (N = 0 ∧ blocks N = 0) ∨ (¬ N = 0 ∧ 1 ≤ blocks N ∧ blocks N ≤ 50 ∧ N ≤ blocks N * 40) := by unfold blocks; split <;> omega
  have hb : blocks N ≤ blocks (N + M) ∧ blocks (N + M) ≤ blocks N + blocks M ∧ 0 ≤ blocks M ∧ blocks M ≤ 50 ∧ 0 ≤ blocks N ∧ blocks N ≤ 50 := by unfold blocks; split <;> split <;> split <;> omega
  have hz : blocks (-1 - N) = 0 := by unfold blocks; rw [if_pos (by omega)]
  have hw2 : IntKind.i64.wrap (-1 - N) = -1 - N := IntWalk.i64_in _ (by omega)
  have h40 : IntKind.i64.wrap (blocks N * 40) = blocks N * 40 := IntWalk.i64_in _ (by omega)
  have hab : IntKind.i64.wrap (blocks N + blocks M) = blocks N + blocks M := IntWalk.i64_in _ (by omega)
  have hle2 : (hs.length : Int) ≤ blocks x.length := hle
  generalize hQ : blocks (x.length : Int) = q at *
  generalize hA : blocks N = a at *
  generalize hB2 : blocks (N + M) = b at *
  generalize hM2 : blocks M = c at *
  have HQ := Lib.hid hQ
  have HCM := Lib.hid hM2
  have HZ := Lib.hid hz
  have g1 : a ≤ b := hb.1
  have g2 : b ≤ a + c := hb.2.1
  have g3 : N ≤ a * 40 := by omega
  clear hQ hA hB2 hM2 hz hle2 hw1
  go_wp2_with fail
  refine (blocks_any _ _ (by omega)).mono ?_
  rintro e w' ⟨rfl, rfl⟩
  rw [HQ.out]
  go_wp2_with fail
  refine (blocks_any _ _ (by omega)).mono ?_
  rintro e w' ⟨rfl, rfl⟩
  rw [HCM.out]
  have hEq : (N == 0) = (a == 0) := by
    rcases ha with ⟨h0, ha0⟩ | ⟨h0, ha0, -⟩
    · rw [h0, ha0]
    · rw [beq_eq_false_iff_ne.2 h0, beq_eq_false_iff_ne.2 (show a ≠ 0 by omega)]
  go_wp2_with fail
  refine (blocks_any _ _ (by omega)).mono ?_
  rintro e w' ⟨rfl, rfl⟩
  rw [HZ.out]
  go_wp2_with fail
  refine (wakes_any _).mono ?_
  rintro e w' ⟨rfl, rfl⟩
  go_wp2_with fail
  go_ret
  exact ⟨rfl, HB3.out⟩
end Go.Proofs.Ytoocebghlchcoaa.ExtW
