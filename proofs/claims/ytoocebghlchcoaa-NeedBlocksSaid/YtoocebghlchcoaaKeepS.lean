/- Contract of overdubkeep.Samples (not wild). -/
import Derived.Test.YtoocebghlchcoaaFixR
namespace Go.Proofs.Ytoocebghlchcoaa.ExtW
open Go.RowKit Go.Ov Go.Proofs.Ytoocebghlchcoaa.Need

def SmpP (w w' : World) (l : List Int) (n : Nat) (u : Value) : Prop := ∃ ys, intE.Own 3 w' w.heap.size u ys ∧ ys.length = min l.length n ∧ ys.all okS = true ∧ Bl w w'
set_option maxRecDepth 100000 in
set_option maxHeartbeats 1000000 in
theorem ksamples_any (v : Value) (l : List Int) (n : Nat) (w : World) (h : intE.Is w v l) (hl : l.length ≤ 9223372036854775807) (hn : n ≤ 1000) :
    Calls Try.prog 4 #[v, .int .i64 n, .bool false] w fun e w' => ∃ u, e = .returned u ∧ SmpP w w' l n u := by
  obtain ⟨A, c, rfl, h1, h2, h3, h4⟩ := h
  have HA := Lib.hid h4
  clear h1 h2 h3 h4
  go_enter Try.func4, Try.ntmps4
  go_wp2_with fail
  go_loopg [7, 8] l.length (fun gk u i wr => ∃ (k : Nat) (ys : List Int), k ≤ l.length ∧ k ≤ n ∧ gk = l.length - k ∧ i = .int .i64 k ∧ ys.length = k ∧ Hid (intE.Own 3 wr w.heap.size u ys) ∧ Hid (ys.all okS = true) ∧ Hid (Bl w wr))
  case atStart => exact ⟨0, [], by omega, by omega, rfl, rfl, rfl, Lib.hid (Enc.Own.nil _ _ _), Lib.hid rfl, Lib.hid (Bl.refl _)⟩
  case round =>
    obtain ⟨k, ys, hk, hkn, hgk, rfl, hyl, HO, HS, HB⟩ := hrel
    have HYL := Lib.hid hyl
    clear hyl
    rcases (show k = l.length ∨ (k < l.length ∧ k = n) ∨ (k < l.length ∧ k < n) by omega) with hkl | ⟨hlt, hkl⟩ | ⟨hlt, hltn⟩
    · have g1 : ¬ (k : Int) < l.length := by omega
      have HL := Lib.hid (show ys.length = min l.length n by have := HYL.out; omega)
      clear hkl
      go_wp2
      go_ret
      exact ⟨_, rfl, ys, HO.out, HL.out, HS.out, HB.out⟩
    · have g1 : (k : Int) < l.length := by omega
      have g2 : ¬ (k : Int) < n := by omega
      have HL := Lib.hid (show ys.length = min l.length n by have := HYL.out; omega)
      clear hkl
      go_wp2
      go_ret
      exact ⟨_, rfl, ys, HO.out, HL.out, HS.out, HB.out⟩
    · have g1 : (k : Int) < l.length := by omega
      have g2 : (k : Int) < n := by omega
      have hyl2 : ys.length ≤ 1000 := by have := HYL.out; omega
      obtain ⟨ad, rfl, c0⟩ := int_at (HA.out.bl HB.out) k hlt
      generalize l[k] = y at *
      go_wp2_with fail
      refine (within_any _ _ _ (by decide)).mono ?_
      rintro e w' ⟨rfl, rfl⟩
      have hb := within_bd (wrap64 (y + 8388608)) 16777216 (by decide)
      generalize within (wrap64 (y + 8388608)) 16777216 = z at *
      have hw : IntKind.i64.wrap (-8388608 + z) = -8388608 + z := IntWalk.i64_in _ (by omega)
      rcases (show y < -8388608 ∨ (-8388608 ≤ y ∧ 8388607 < y) ∨ (-8388608 ≤ y ∧ y ≤ 8388607) by omega) with hq | ⟨hq, hq2⟩ | ⟨hq, hq2⟩
      · go_wp2_with (at_builtin; refine Enc.Own.append1 (E := intE) rfl (.tmp 52) (.tmp 54) 22 rfl w.heap.size 3 (.int .i64 0) 1 8 Try.underlying22 infoIntX rfl rfl (by decide) (by decide) _ _ rfl HO.out (-8388608 + z) _ rfl rfl rfl (by omega) (HB.out.size) ?_; intro u1 w2 ho hg)
        go_roundg (l.length - (k + 1))
        case measure => omega
        case rel => exact ⟨k + 1, ys ++ [(-8388608 + z)], by omega, by omega, rfl, by go_num, by rw [List.length_append, HYL.out]; rfl, Lib.hid ho, Lib.hid (by rw [List.all_append, HS.out]; simp [okS]; omega), Lib.hid ((HB.out.alloc _).grown hg (fun g hgk => (HO.out.lt g hgk).1))⟩
      · go_wp2_with (at_builtin; refine Enc.Own.append1 (E := intE) rfl (.tmp 52) (.tmp 54) 22 rfl w.heap.size 3 (.int .i64 0) 1 8 Try.underlying22 infoIntX rfl rfl (by decide) (by decide) _ _ rfl HO.out (-8388608 + z) _ rfl rfl rfl (by omega) (HB.out.size) ?_; intro u1 w2 ho hg)
        go_roundg (l.length - (k + 1))
        case measure => omega
        case rel => exact ⟨k + 1, ys ++ [(-8388608 + z)], by omega, by omega, rfl, by go_num, by rw [List.length_append, HYL.out]; rfl, Lib.hid ho, Lib.hid (by rw [List.all_append, HS.out]; simp [okS]; omega), Lib.hid ((HB.out.alloc _).grown hg (fun g hgk => (HO.out.lt g hgk).1))⟩
      · go_wp2_with (at_builtin; refine Enc.Own.append1 (E := intE) rfl (.tmp 52) (.tmp 54) 22 rfl w.heap.size 3 (.int .i64 0) 1 8 Try.underlying22 infoIntX rfl rfl (by decide) (by decide) _ _ rfl HO.out y _ rfl rfl rfl (by omega) (HB.out.size) ?_; intro u1 w2 ho hg)
        go_roundg (l.length - (k + 1))
        case measure => omega
        case rel => exact ⟨k + 1, ys ++ [y], by omega, by omega, rfl, by go_num, by rw [List.length_append, HYL.out]; rfl, Lib.hid ho, Lib.hid (by rw [List.all_append, HS.out]; simp [okS]; omega), Lib.hid ((HB.out.alloc _).grown hg (fun g hgk => (HO.out.lt g hgk).1))⟩
end Go.Proofs.Ytoocebghlchcoaa.ExtW
