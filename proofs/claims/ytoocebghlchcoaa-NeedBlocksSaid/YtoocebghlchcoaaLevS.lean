/- Contract of levin.Scaled. -/
import Derived.Test.YtoocebghlchcoaaLevA
namespace Go.Proofs.Ytoocebghlchcoaa.ExtW
open Go.RowKit Go.Ov Go.Proofs.Ytoocebghlchcoaa.Need

theorem sh_lt (x : Int) (s : Nat) (hx : x ≤ 4503599627370496) (hs : 23 ≤ s) : x / 2 ^ s < 1073741824 := by
  have h1 : (2 : Nat) ^ 23 ≤ 2 ^ s := Nat.pow_le_pow_right (by decide) hs
  have h2 : ((2 : Int) ^ s) = ((2 ^ s : Nat) : Int) := by simp
  have h3 : (8388608 : Int) ≤ 2 ^ s := by rw [h2]; have : (2 : Nat) ^ 23 = 8388608 := by decide
                                          omega
  exact Int.ediv_lt_of_lt_mul (by omega) (by omega)

set_option maxRecDepth 100000 in
set_option maxHeartbeats 1000000 in
theorem lscaled_any (v : Value) (r : List Int) (w : World) (h : intE.Is w v r) (h1 : 1 ≤ r.length) (hn : r.length ≤ 13) (hr : AutoOk r) :
    Calls Try.prog 44 #[v] w fun e w' => ∃ u r2 s, e = .returned (.tuple #[u, s]) ∧ Bl w w' ∧ r2.length = r.length ∧ intE.Own 3 w' w.heap.size u r2 := by
  have HI := Lib.hid h
  obtain ⟨A, cp, rfl, g1, g2, g3, h4⟩ := h
  clear g1 g2 g3
  have HA := Lib.hid h4
  clear h4
  obtain ⟨ad, rfl, z0⟩ := int_at HA.out 0 (by omega)
  have hr0 : r.getD 0 0 = r[0] := by rw [List.getD_eq_getElem?_getD, List.getElem?_eq_getElem (by omega), Option.getD_some]
  have hb0 := hr.1 _ (List.getElem_mem (show 0 < r.length by omega))
  have hp0 := hr.2
  rw [hr0] at hp0
  clear hr0
  have HB := Lib.hid hr.1
  clear hr
  generalize r[0] = x0 at *
  have hne : ¬ (r.length : Int) = 0 := by omega
  have hx0 : ¬ x0 < 0 := by omega
  have hnil : ¬ r = [] := by rintro rfl; simp at h1
  have hpos : 0 < r.length := by omega
  have z1 : w.cell? ad = some (.int .i64 x0) := z0
  go_enter Try.func44, Try.ntmps44
  go_wp2_with fail
  go_loopg [2, 3, 21] r.length (fun gk v2 v3 i wr => ∃ k : Nat, k ≤ r.length ∧ gk = r.length - k ∧ i = .int .i64 k ∧ wr = w)
  case atStart => exact ⟨0, by omega, rfl, rfl, rfl⟩
  case round =>
    obtain ⟨k, hk, hgk, rfl, hw⟩ := hrel
    obtain rfl : w = wr := hw.symm
    by_cases hlt : k < r.length
    · have hlti : (k : Int) < r.length := by omega
      obtain ⟨ad', e2, c0⟩ := int_at HA.out k hlt
      injection e2 with e2
      subst e2
      have hb := HB.out _ (List.getElem_mem hlt)
      generalize r[k] = x at *
      have hq1 : ¬ x < -1152921504606846976 := by omega
      have hq2 : ¬ 1152921504606846976 < x := by omega
      go_wp2_with fail
      go_roundg (r.length - (k + 1))
      case measure => omega
      case rel => exact ⟨k + 1, by omega, rfl, by go_num, rfl⟩
    · obtain rfl : k = r.length := by omega
      go_wp2_with fail
      go_loopg [6] 24 (fun gk i wr => ∃ s : Nat, s ≤ 23 ∧ gk = 24 - s ∧ i = .int .i64 s ∧ wr = w)
      case atStart => exact ⟨0, by omega, rfl, rfl, rfl⟩
      case round =>
        obtain ⟨s, hs, hgs, rfl, hw⟩ := hrel
        obtain rfl : w = wr := hw.symm
        have hs0 : ¬ (s : Int) < 0 := by omega
        rcases (show 1073741824 ≤ x0 / 2 ^ s ∨ ¬ 1073741824 ≤ x0 / 2 ^ s by omega) with hg | hg
        · have hs2 : s < 23 := by
            rcases (show s < 23 ∨ 23 ≤ s by omega) with h | h
            · exact h
            · have := sh_lt x0 s (by omega) h; omega
          go_wp2_with fail
          go_roundg (24 - (s + 1))
          case measure => omega
          case rel => exact ⟨s + 1, by omega, rfl, by go_num, rfl⟩
        · go_wp2_with fail
          go_loopg [7, 42] r.length (fun gk u i wr => ∃ (k : Nat) (r2 : List Int), k ≤ r.length ∧ gk = r.length - k ∧ i = .int .i64 k ∧ r2.length = k ∧ Hid (intE.Own 3 wr w.heap.size u r2) ∧ Hid (Bl w wr))
          case atStart => exact ⟨0, [], by omega, rfl, rfl, rfl, Lib.hid (Enc.Own.nil _ _ _), Lib.hid (Bl.refl _)⟩
          case round =>
            obtain ⟨k, r2, hk, hgk, rfl, hrl, HO, HW⟩ := hrel
            by_cases hlt : k < r.length
            · have hlti : (k : Int) < r.length := by omega
              obtain ⟨ad', e2, c0⟩ := int_at HA.out k hlt
              injection e2 with e2
              subst e2
              replace c0 := HW.out.cell c0
              generalize r[k] = x at *
              go_wp2_with (at_builtin; refine Enc.Own.append1L (E := intE) rfl (.tmp 46) (.tmp 50) 22 rfl w.heap.size 3 (.int .i64 0) 1 8 Try.underlying22 infoIntX rfl rfl (by decide) (by decide) _ r2 rfl HO.out (x / 2 ^ s) _ rfl rfl rfl (by omega) (HW.out.size) ?_; intro u1 w2 ho hg hli)
              go_roundg (r.length - (k + 1))
              case measure => omega
              case rel => exact ⟨k + 1, r2 ++ [x / 2 ^ s], by omega, rfl, by go_num, by simp [hrl], Lib.hid ho, Lib.hid ((HW.out.alloc _).grown hg (fun g hgk => (HO.out.lt g hgk).1))⟩
            · obtain rfl : k = r.length := by omega
              go_wp2
              go_ret2
              exact ⟨_, r2, _, rfl, HW.out, hrl, HO.out⟩
end Go.Proofs.Ytoocebghlchcoaa.ExtW
