/- Contracts of fixed: Sample, Check, Coefficients, guess. -/
import Derived.Test.YtoocebghlchcoaaRiceW
namespace Go.Proofs.Ytoocebghlchcoaa.ExtW
open Go.RowKit Go.Ov Go.Proofs.Ytoocebghlchcoaa.Need

theorem xsample_any (n : Int) (w : World) : Calls Try.prog 14 #[.int .i64 n] w fun e w' => e = .returned (.bool (okS n)) ∧ w' = w := by
  obtain ⟨r, hr⟩ : ∃ r, r = okS n := ⟨_, rfl⟩
  rw [← hr]
  have HR := Lib.hid hr
  clear hr
  go_enter Try.func14, Try.ntmps14
  have h : n < -8388608 ∨ (-8388608 ≤ n ∧ 8388607 < n) ∨ (-8388608 ≤ n ∧ n ≤ 8388607) := by omega
  rcases h with h1 | ⟨h1, h2⟩ | ⟨h1, h2⟩
  all_goals
    first
    | have hb : okS n = false := by unfold okS; rw [Bool.eq_false_iff]; simp only [ne_eq, Bool.and_eq_true, decide_eq_true_eq]; omega
    | have hb : okS n = true := by unfold okS; simp only [Bool.and_eq_true, decide_eq_true_eq]; omega
    have HB := Lib.hid (HR.out.trans hb)
    clear hb HR
    go_wp2
    go_ret
    exact ⟨by rw [HB.out]; first | rfl | (simp; omega), rfl⟩

def chkM (l : List Int) : Int := if l.all okS then (if 64 < l.length then 4 else 0) else 8
theorem xcheck_any (v : Value) (l : List Int) (w : World) (h : intE.Is w v l) (hn : l.length ≤ 1000000) :
    Calls Try.prog 17 #[v] w fun e w' => e = .returned (.int .i64 (chkM l)) ∧ w' = w := by
  obtain ⟨A, c, rfl, h1, h2, h3, h4⟩ := h
  have HA := Lib.hid h4
  clear h1 h2 h3 h4
  obtain ⟨r, hr⟩ : ∃ r, r = chkM l := ⟨_, rfl⟩
  rw [← hr]
  have HR := Lib.hid hr
  clear hr
  go_enter Try.func17, Try.ntmps17
  go_wp2_with fail
  go_loopg [7] l.length (fun gk i wr => ∃ k : Nat, k ≤ l.length ∧ gk = l.length - k ∧ i = .int .i64 k ∧ Hid ((l.take k).all okS = true) ∧ wr = w)
  case atStart => exact ⟨0, by omega, rfl, rfl, Lib.hid (by simp), rfl⟩
  case round =>
    obtain ⟨k, hk, hgk, rfl, HK, hw⟩ := hrel
    obtain rfl : w = wr := hw.symm
    by_cases hlt : k < l.length
    · have hlti : (k : Int) < l.length := by omega
      obtain ⟨ad, rfl, c0⟩ := int_at HA.out k hlt
      obtain ⟨x, hx⟩ : ∃ x, x = l[k] := ⟨_, rfl⟩
      rw [← hx] at c0
      have HX := Lib.hid hx
      clear hx
      go_wp2_with fail
      refine (xsample_any _ _).mono ?_
      rintro e w' ⟨rfl, rfl⟩
      cases hz : okS x
      · go_wp2
        go_ret
        have e : chkM l = 8 := by
          unfold chkM
          rw [if_neg]
          intro h
          rw [List.all_eq_true] at h
          have := h _ (List.getElem_mem hlt)
          rw [← HX.out, hz] at this
          cases this
        exact ⟨by rw [HR.out, e]; rfl, rfl⟩
      · go_wp2
        go_roundg (l.length - (k + 1))
        case measure => omega
        case rel => exact ⟨k + 1, by omega, rfl, by go_num, Lib.hid (by rw [List.take_succ_eq_append_getElem hlt, List.all_append, HK.out, ← HX.out]; simp [hz]), rfl⟩
    · obtain rfl : k = l.length := by omega
      have e : chkM l = if 64 < l.length then 4 else 0 := by
        unfold chkM
        rw [if_pos (by have := HK.out; rwa [List.take_of_length_le (Nat.le_refl _)] at this)]
      have HE := Lib.hid (HR.out.trans e)
      clear e HR
      rcases (show 64 < l.length ∨ ¬ 64 < l.length by omega) with h | h
      · have hi : (64 : Int) < l.length := by omega
        go_wp2
        go_ret
        exact ⟨by rw [HE.out, if_pos h]; rfl, rfl⟩
      · have hi : ¬ (64 : Int) < l.length := by omega
        go_wp2
        go_ret
        exact ⟨by rw [HE.out, if_neg h]; rfl, rfl⟩

theorem xcoefs_any (o : Nat) (ho : o ≤ 4) (w : World) : Calls Try.prog 32 #[.int .i64 o] w fun e w' => ∃ u, e = .returned u ∧ intE.Own 3 w' w.heap.size u (fixC o) ∧ Bl w w' := by
  go_enter Try.func32, Try.ntmps32
  match o, ho with
  | 0, _ =>
    go_wp2
    go_ret
    exact ⟨_, rfl, Enc.Own.nil _ _ _, Bl.refl _⟩
  | 1, _ =>
    go_wp2
    go_ret
    exact ⟨_, rfl, Enc.Own.lit (E := intE) w _ [1] _ rfl 1 rfl (Nat.le_refl _) (by decide) rfl, (Bl.refl _).alloc _⟩
  | 2, _ =>
    go_wp2
    go_ret
    exact ⟨_, rfl, Enc.Own.lit (E := intE) w _ [2, -1] _ rfl 2 rfl (Nat.le_refl _) (by decide) rfl, (Bl.refl _).alloc _⟩
  | 3, _ =>
    go_wp2
    go_ret
    exact ⟨_, rfl, Enc.Own.lit (E := intE) w _ [3, -3, 1] _ rfl 3 rfl (Nat.le_refl _) (by decide) rfl, (Bl.refl _).alloc _⟩
  | 4, _ =>
    go_wp2
    go_ret
    exact ⟨_, rfl, Enc.Own.lit (E := intE) w _ [4, -6, 4, -1] _ rfl 4 rfl (Nat.le_refl _) (by decide) rfl, (Bl.refl _).alloc _⟩
theorem gSum_step (c past : List Int) (k : Nat) (hk : k < c.length) (hl : c.length ≤ past.length) : gSum (c.take (k + 1)) past = wrap64 (gSum (c.take k) past + wrap64 (c[k] * past[past.length - 1 - k]'(by omega))) := by
  unfold gSum
  have h1 : (c.take (k + 1)).zip past.reverse = (c.take k).zip past.reverse ++ [(c[k], past[past.length - 1 - k]'(by omega))] := by
    apply List.ext_getElem
    · simp; omega
    · intro i h1 h2
      rw [List.getElem_append]
      by_cases hi : i < k
      · rw [dif_pos (by simp; omega)]
        simp
      · have : i = k := by simp at h1; omega
        subst this
        rw [dif_neg (by simp; omega)]
        simp
  rw [h1, List.foldl_append]
  rfl
theorem xguess_any (v u : Value) (past c : List Int) (w : World) (h : intE.Is w v past) (hc : intE.Is w u c) (hn : past.length ≤ 1000000) (hl : c.length ≤ past.length) :
    Calls Try.prog 33 #[v, u] w fun e w' => e = .returned (.int .i64 (gSum c past)) ∧ w' = w := by
  obtain ⟨A, cp, rfl, h1, h2, h3, h4⟩ := h
  have HA := Lib.hid h4
  clear h1 h2 h3 h4
  obtain ⟨A2, cp2, rfl, h1, h2, h3, h4⟩ := hc
  have HA2 := Lib.hid h4
  clear h1 h2 h3 h4
  obtain ⟨r, hr⟩ : ∃ r, r = gSum c past := ⟨_, rfl⟩
  rw [← hr]
  have HR := Lib.hid hr
  clear hr
  go_enter Try.func33, Try.ntmps33
  go_wp2_with fail
  go_loopg [5, 10] c.length (fun gk s i wr => ∃ (k : Nat) (t : Int), k ≤ c.length ∧ gk = c.length - k ∧ i = .int .i64 k ∧ s = .int .i64 t ∧ Hid (t = gSum (c.take k) past) ∧ wr = w)
  case atStart => exact ⟨0, 0, by omega, rfl, rfl, rfl, Lib.hid (by simp [gSum]), rfl⟩
  case round =>
    obtain ⟨k, t, hk, hgk, rfl, rfl, HK, hw⟩ := hrel
    obtain rfl : w = wr := hw.symm
    by_cases hlt : k < c.length
    · have hlti : (k : Int) < c.length := by omega
      obtain ⟨ad2, rfl, c2⟩ := int_at HA2.out k hlt
      have hj : past.length - 1 - k < past.length := by omega
      obtain ⟨ad, rfl, c0⟩ := int_at HA.out (past.length - 1 - k) hj
      have HS := Lib.hid (gSum_step c past k hlt hl)
      generalize c[k] = x at *
      generalize past[past.length - 1 - k] = y at *
      generalize hj2 : past.length - 1 - k = j at *
      have hw1 : IntKind.i64.wrap ((past.length : Int) - 1) = past.length - 1 := IntWalk.i64_in _ (by omega)
      have hw2 : IntKind.i64.wrap ((past.length : Int) - 1 - k) = j := by rw [IntWalk.i64_in _ (by omega)]; omega
      have hji : (past.length : Int) - 1 - k = j := by omega
      clear hj2
      go_wp2_with fail
      go_roundg (c.length - (k + 1))
      case measure => omega
      case rel => exact ⟨k + 1, _, by omega, rfl, by go_num, rfl, Lib.hid (by rw [HS.out, ← HK.out]), rfl⟩
    · obtain rfl : k = c.length := by omega
      go_wp2
      go_ret
      exact ⟨by rw [HR.out]; have := HK.out; rw [List.take_of_length_le (Nat.le_refl _)] at this; rw [this]; rfl, rfl⟩
end Go.Proofs.Ytoocebghlchcoaa.ExtW
