/- Several texts joined (see each one's head). -/
import Derived.Test.YtoocebghlchcoaaGreatPkAH
import Derived.Test.YtoocebghlchcoaaGreatPkAF
import Derived.Test.YtoocebghlchcoaaGreatPkAK
/- Contracts of rice: Zig, may, Size, Best, Put. -/
namespace Go.Proofs.YtoocebghlchcoaaGreat.ExtW
open Go.RowKit Go.Ov Go.Proofs.YtoocebghlchcoaaGreat.Need

theorem riceB_len (k : Nat) (hk : k ≤ 24) (z : Int) (_ : 0 ≤ z) : (riceB k z).length ≤ 56 := by
  unfold riceB
  split
  · rw [List.length_append, List.length_append, List.length_replicate, numB_len]; simp; omega
  · rw [List.length_append, List.length_replicate, numB_len]; omega

end Go.Proofs.YtoocebghlchcoaaGreat.ExtW

/- Contracts of fixed: Sample, Check, Coefficients, guess. -/
namespace Go.Proofs.YtoocebghlchcoaaGreat.ExtW
open Go.RowKit Go.Ov Go.Proofs.YtoocebghlchcoaaGreat.Need

theorem xsample_any (n : Int) (w : World) : Calls Tryz.prog 169 #[.int .i64 n] w fun e w' => e = .returned (.bool (okS n)) ∧ w' = w := by
  obtain ⟨r, hr⟩ : ∃ r, r = okS n := ⟨_, rfl⟩
  rw [← hr]
  have HR := Lib.hid hr
  clear hr
  go_enter Tryz.func169, Tryz.ntmps169
  have h : n < -8388608 ∨ (-8388608 ≤ n ∧ 8388607 < n) ∨ (-8388608 ≤ n ∧ n ≤ 8388607) := by omega
  rcases h with h1 | ⟨h1, h2⟩ | ⟨h1, h2⟩
  all_goals
    first
    | have hb : okS n = false := by unfold okS; rw [Bool.eq_false_iff]; simp only [ne_eq, Bool.and_eq_true, decide_eq_true_eq]; omega
    | have hb : okS n = true := by unfold okS; simp only [Bool.and_eq_true, decide_eq_true_eq]; omega
    have HB := Lib.hid (HR.out.trans hb)
    clear hb HR
    go_wp2
    go_ret
    exact ⟨by rw [HB.out]; first | rfl | (simp; omega), rfl⟩

def chkM (l : List Int) : Int := if l.all okS then (if 64 < l.length then 4 else 0) else 8
theorem xcheck_any (v : Value) (l : List Int) (w : World) (h : intE.Is w v l) (hn : l.length ≤ 1000000) :
    Calls Tryz.prog 168 #[v] w fun e w' => e = .returned (.int .i64 (chkM l)) ∧ w' = w := by
  obtain ⟨A, c, rfl, h1, h2, h3, h4⟩ := h
  have HA := Lib.hid h4
  clear h1 h2 h3 h4
  obtain ⟨r, hr⟩ : ∃ r, r = chkM l := ⟨_, rfl⟩
  rw [← hr]
  have HR := Lib.hid hr
  clear hr
  go_enter Tryz.func168, Tryz.ntmps168
  go_wp2_with fail
  go_loopg [7] l.length (fun gk i wr => ∃ k : Nat, k ≤ l.length ∧ gk = l.length - k ∧ i = .int .i64 k ∧ Hid ((l.take k).all okS = true) ∧ wr = w)
  case atStart => exact ⟨0, by omega, rfl, rfl, Lib.hid (by simp), rfl⟩
  case round =>
    obtain ⟨k, hk, hgk, rfl, HK, hw⟩ := hrel
    obtain rfl : w = wr := hw.symm
    by_cases hlt : k < l.length
    · have hlti : (k : Int) < l.length := by omega
      obtain ⟨ad, rfl, c0⟩ := int_at HA.out k hlt
      obtain ⟨x, hx⟩ : ∃ x, x = l[k] := ⟨_, rfl⟩
      rw [← hx] at c0
      have HX := Lib.hid hx
      clear hx
      go_wp2_with fail
      refine (xsample_any _ _).mono ?_
      rintro e w' ⟨rfl, rfl⟩
      cases hz : okS x
      · go_wp2
        go_ret
        have e : chkM l = 8 := by
          unfold chkM
          rw [if_neg]
          intro h
          rw [List.all_eq_true] at h
          have := h _ (List.getElem_mem hlt)
          rw [← HX.out, hz] at this
          cases this
        exact ⟨by rw [HR.out, e]; rfl, rfl⟩
      · go_wp2
        go_roundg (l.length - (k + 1))
        case measure => omega
        case rel => exact ⟨k + 1, by omega, rfl, by go_num, Lib.hid (by rw [List.take_succ_eq_append_getElem hlt, List.all_append, HK.out, ← HX.out]; simp [hz]), rfl⟩
    · obtain rfl : k = l.length := by omega
      have e : chkM l = if 64 < l.length then 4 else 0 := by
        unfold chkM
        rw [if_pos (by have := HK.out; rwa [List.take_of_length_le (Nat.le_refl _)] at this)]
      have HE := Lib.hid (HR.out.trans e)
      clear e HR
      rcases (show 64 < l.length ∨ ¬ 64 < l.length by omega) with h | h
      · have hi : (64 : Int) < l.length := by omega
        go_wp2
        go_ret
        exact ⟨by rw [HE.out, if_pos h]; rfl, rfl⟩
      · have hi : ¬ (64 : Int) < l.length := by omega
        go_wp2
        go_ret
        exact ⟨by rw [HE.out, if_neg h]; rfl, rfl⟩

theorem xcoefs_any (o : Nat) (ho : o ≤ 4) (w : World) : Calls Tryz.prog 138 #[.int .i64 o] w fun e w' => ∃ u, e = .returned u ∧ intE.Own 3 w' w.heap.size u (fixC o) ∧ Bl w w' := by
  go_enter Tryz.func138, Tryz.ntmps138
  match o, ho with
  | 0, _ =>
    go_wp2
    go_ret
    exact ⟨_, rfl, Enc.Own.nil _ _ _, Bl.refl _⟩
  | 1, _ =>
    go_wp2
    go_ret
    exact ⟨_, rfl, Enc.Own.lit (E := intE) w _ [1] _ rfl 1 rfl (Nat.le_refl _) (by decide) rfl, (Bl.refl _).alloc _⟩
  | 2, _ =>
    go_wp2
    go_ret
    exact ⟨_, rfl, Enc.Own.lit (E := intE) w _ [2, -1] _ rfl 2 rfl (Nat.le_refl _) (by decide) rfl, (Bl.refl _).alloc _⟩
  | 3, _ =>
    go_wp2
    go_ret
    exact ⟨_, rfl, Enc.Own.lit (E := intE) w _ [3, -3, 1] _ rfl 3 rfl (Nat.le_refl _) (by decide) rfl, (Bl.refl _).alloc _⟩
  | 4, _ =>
    go_wp2
    go_ret
    exact ⟨_, rfl, Enc.Own.lit (E := intE) w _ [4, -6, 4, -1] _ rfl 4 rfl (Nat.le_refl _) (by decide) rfl, (Bl.refl _).alloc _⟩
theorem gSum_step (c past : List Int) (k : Nat) (hk : k < c.length) (hl : c.length ≤ past.length) : gSum (c.take (k + 1)) past = wrap64 (gSum (c.take k) past + wrap64 (c[k] * past[past.length - 1 - k]'(by omega))) := by
  unfold gSum
  have h1 : (c.take (k + 1)).zip past.reverse = (c.take k).zip past.reverse ++ [(c[k], past[past.length - 1 - k]'(by omega))] := by
    apply List.ext_getElem
    · simp; omega
    · intro i h1 h2
      rw [List.getElem_append]
      by_cases hi : i < k
      · rw [dif_pos (by simp; omega)]
        simp
      · have : i = k := by simp at h1; omega
        subst this
        rw [dif_neg (by simp; omega)]
        simp
  rw [h1, List.foldl_append]
  rfl
theorem xguess_any (v u : Value) (past c : List Int) (w : World) (h : intE.Is w v past) (hc : intE.Is w u c) (hn : past.length ≤ 1000000) (hl : c.length ≤ past.length) :
    Calls Tryz.prog 141 #[v, u] w fun e w' => e = .returned (.int .i64 (gSum c past)) ∧ w' = w := by
  obtain ⟨A, cp, rfl, h1, h2, h3, h4⟩ := h
  have HA := Lib.hid h4
  clear h1 h2 h3 h4
  obtain ⟨A2, cp2, rfl, h1, h2, h3, h4⟩ := hc
  have HA2 := Lib.hid h4
  clear h1 h2 h3 h4
  obtain ⟨r, hr⟩ : ∃ r, r = gSum c past := ⟨_, rfl⟩
  rw [← hr]
  have HR := Lib.hid hr
  clear hr
  go_enter Tryz.func141, Tryz.ntmps141
  go_wp2_with fail
  go_loopg [5, 10] c.length (fun gk s i wr => ∃ (k : Nat) (t : Int), k ≤ c.length ∧ gk = c.length - k ∧ i = .int .i64 k ∧ s = .int .i64 t ∧ Hid (t = gSum (c.take k) past) ∧ wr = w)
  case atStart => exact ⟨0, 0, by omega, rfl, rfl, rfl, Lib.hid (by simp [gSum]), rfl⟩
  case round =>
    obtain ⟨k, t, hk, hgk, rfl, rfl, HK, hw⟩ := hrel
    obtain rfl : w = wr := hw.symm
    by_cases hlt : k < c.length
    · have hlti : (k : Int) < c.length := by omega
      obtain ⟨ad2, rfl, c2⟩ := int_at HA2.out k hlt
      have hj : past.length - 1 - k < past.length := by omega
      obtain ⟨ad, rfl, c0⟩ := int_at HA.out (past.length - 1 - k) hj
      have HS := Lib.hid (gSum_step c past k hlt hl)
      generalize c[k] = x at *
      generalize past[past.length - 1 - k] = y at *
      generalize hj2 : past.length - 1 - k = j at *
      have hw1 : IntKind.i64.wrap ((past.length : Int) - 1) = past.length - 1 := IntWalk.i64_in _ (by omega)
      have hw2 : IntKind.i64.wrap ((past.length : Int) - 1 - k) = j := by rw [IntWalk.i64_in _ (by omega)]; omega
      have hji : (past.length : Int) - 1 - k = j := by omega
      clear hj2
      go_wp2_with fail
      go_roundg (c.length - (k + 1))
      case measure => omega
      case rel => exact ⟨k + 1, _, by omega, rfl, by go_num, rfl, Lib.hid (by rw [HS.out, ← HK.out]), rfl⟩
    · obtain rfl : k = c.length := by omega
      go_wp2
      go_ret
      exact ⟨by rw [HR.out]; have := HK.out; rw [List.take_of_length_le (Nat.le_refl _)] at this; rw [this]; rfl, rfl⟩
end Go.Proofs.YtoocebghlchcoaaGreat.ExtW

/- Contracts of fixed: Run, Restore. -/
namespace Go.Proofs.YtoocebghlchcoaaGreat.ExtW
open Go.RowKit Go.Ov Go.Proofs.YtoocebghlchcoaaGreat.Need
/-- what a func value guesses, in all worlds behind w -/
def GuessP (w : World) (f : Nat) (c : Value) (g : List Int → Int) (m : Nat) : Prop := ∀ (w' : World) (v : Value) (past : List Int), Bl w w' → intE.Is w' v past → m ≤ past.length → past.length ≤ 1000 → Calls Tryz.prog f #[v, c] w' fun e w'' => e = .returned (.int .i64 (g past)) ∧ Bl w' w''
set_option maxHeartbeats 2000000 in
theorem fxRun_fix (v u : Value) (warm res : List Int) (c : Value) (g : List Int → Int) (w : World) (h : intE.Is w v warm) (hr : intE.Is w u res) (hg : GuessP w 140 c g warm.length) (hn : warm.length + res.length ≤ 64) (ho : ∀ x ∈ warm, okS x = true) :
    Calls Tryz.prog 139 #[v, u, .func (.func 140) #[] #[c]] w fun e w' => RunP w w' (runO g warm res) e ∧ Bl w w' := by
  have HI := Lib.hid h
  have HG := Lib.hid hg
  have HW := Lib.hid ho
  obtain ⟨A2, c2, rfl, h1, h2, h3, h4⟩ := hr
  have HR := Lib.hid h4
  clear h1 h2 h3 h4
  obtain ⟨A, cp, rfl, h1, h2, h3, h4⟩ := h
  have HC := Lib.hid h1
  have hmin : min (warm.length : Int) 64 = warm.length := by omega
  obtain ⟨V, hV, hI⟩ := slice_h (E := intE) (P := Tryz.prog) (t := 24) (by kernel_rfl) (fun w => by kernel_rfl) A cp warm (warm.length : Int) (by omega) (by omega) HC.out
  have HV := Lib.hid (fun w' (h : intE.Is w' (.slice A warm.length cp) warm) => (show intE.Is w' V warm by
    have := hI _ h
    rwa [Int.toNat_natCast, List.take_of_length_le (Nat.le_refl _)] at this))
  obtain ⟨o, hO⟩ : ∃ o, o = runO g warm res := ⟨_, rfl⟩
  rw [← hO]
  have HO := Lib.hid hO
  clear hg h1 h2 h3 h4 hO hI ho
  go_enter Tryz.func139, Tryz.ntmps139
  go_wp2_with (at_builtin; refine Enc.Own.append (E := intE) rfl _ _ 24 rfl w.heap.size 3 (.int .i64 0) 1 8 Tryz.underlying24 infoIntF rfl rfl (by decide) (by decide) (.slice none 0 0) [] rfl (Enc.Own.nil _ _ _) _ warm rfl HI.out (by simp; omega) (Nat.le_refl _) ?_; intro u1 w1 ho1 hg1)
  have HB1 := Lib.hid (show Bl w w1 from (Bl.refl w).grown hg1 (by simp [Value.ownBlock]))
  have HO1 := Lib.hid (show intE.Own 3 w1 w.heap.size u1 warm by simpa using ho1)
  have hchk : chkM warm = 0 := by unfold chkM; rw [if_pos (List.all_eq_true.2 HW.out), if_neg (by omega)]
  clear ho1 hg1
  go_wp2_with fail
  refine (xcheck_any V warm _ (HV.out _ (HI.out.bl HB1.out)) (by omega)).mono ?_
  rintro e w2 ⟨rfl, rfl⟩
  rw [hchk]
  go_wp2_with fail
  go_loopg [8, 26] res.length (fun gk s i wr => ∃ (k : Nat) (x : List Int), k ≤ res.length ∧ gk = res.length - k ∧ i = .int .i64 k ∧ Hid (x.length = warm.length + k) ∧ Hid (intE.Own 3 wr w.heap.size s x) ∧ Hid (runO g warm (res.take k) = some x) ∧ Hid (Bl w wr))
  case atStart => exact ⟨0, warm, by omega, rfl, rfl, Lib.hid rfl, HO1, Lib.hid rfl, HB1⟩
  case round =>
    obtain ⟨k, x, hk, hgk, rfl, HL, HX, HRn, HB⟩ := hrel
    by_cases hkn : k < res.length
    · have hki : (k : Int) < res.length := by omega
      obtain ⟨ad, rfl, c0⟩ := int_at HR.out k hkn
      replace c0 := HB.out.cell c0
      obtain ⟨A3, c3, rfl⟩ := HX.out.slice
      have HT := Lib.hid (show runO g warm (res.take (k + 1)) = _ by rw [List.take_succ_eq_append_getElem hkn, runO_snoc, HRn.out, Option.bind_some])
      have HD := Lib.hid (List.take_append_drop (k + 1) res)
      obtain ⟨r, hr⟩ : ∃ r, r = res[k] := ⟨_, rfl⟩
      rw [← hr] at c0
      rw [← hr] at HT
      clear hr
      have hno : (r < -1099511627776 ∨ 1099511627776 < r) ∨ (¬ (r < -1099511627776 ∨ 1099511627776 < r) ∧ okS (wrap64 (g x + r)) = false) → o = none := fun h => by
        rw [HO.out, ← HD.out]
        refine runO_none g _ _ _ ?_
        rw [HT.out]
        rcases h with h | ⟨h, h2⟩
        · rw [if_pos h]
        · rw [if_neg h, h2]; rfl
      have HN := Lib.hid hno
      clear hno
      rcases (show r < -1099511627776 ∨ (¬ r < -1099511627776 ∧ 1099511627776 < r) ∨ (¬ r < -1099511627776 ∧ ¬ 1099511627776 < r) by omega) with h | ⟨h, h2⟩ | ⟨h, h2⟩
      · have e := HN.out (.inl (.inl h))
        subst e
        go_wp2
        go_ret2
        exact ⟨rfl, HB.out⟩
      · have e := HN.out (.inl (.inr h2))
        subst e
        go_wp2
        go_ret2
        exact ⟨rfl, HB.out⟩
      · have hgl := HG.out wr _ x HB.out HX.out.is (by have := HL.out; omega) (by have := HL.out; omega)
        have HGL := Lib.hid hgl
        clear hgl
        have HT2 := Lib.hid (HT.out.trans (if_neg (by omega)))
        have HN2 := Lib.hid (fun h3 => HN.out (.inr ⟨by omega, h3⟩))
        clear HN HT
        obtain ⟨y, hy⟩ : ∃ y, y = wrap64 (g x + r) := ⟨_, rfl⟩
        rw [← hy] at HT2 HN2
        have hw1 : IntKind.i64.wrap (g x + r) = y := by rw [hy, IntKind.wrap_i64]; unfold wrap64; rfl
        clear hy
        go_wp2_with fail
        refine HGL.out.mono ?_
        rintro e w3 ⟨rfl, hb3⟩
        have HB3 := Lib.hid (HB.out.trans hb3)
        have HX3 := Lib.hid (HX.out.bl hb3)
        clear hb3
        go_wp2_with fail
        refine (xsample_any y _).mono ?_
        rintro e w4 ⟨rfl, rfl⟩
        cases hz : okS y
        · have e := HN2.out hz
          subst e
          go_wp2
          go_ret2
          exact ⟨rfl, HB3.out⟩
        · have HT3 := Lib.hid (HT2.out.trans (if_pos hz))
          clear HT2 HN2
          go_wp2_with (at_builtin; refine Enc.Own.append1 (E := intE) rfl (.tmp 44) (.tmp 46) 24 rfl w.heap.size 3 (.int .i64 0) 1 8 Tryz.underlying24 infoIntF rfl rfl (by decide) (by decide) _ x rfl HX3.out y _ rfl rfl rfl (by have := HL.out; omega) HB3.out.size ?_; intro u2 w5 ho hg)
          have HX5 := Lib.hid ho
          have HB5 := Lib.hid ((HB3.out.alloc _).grown hg (fun k hk => (HX3.out.lt k hk).1))
          clear ho hg
          go_roundg (res.length - (k + 1))
          case measure => omega
          case rel => exact ⟨k + 1, x ++ [y], by omega, rfl, by go_num, Lib.hid (by rw [List.length_append, HL.out]; rfl), HX5, HT3, HB5⟩
    · obtain rfl : k = res.length := by omega
      obtain ⟨A3, c3, rfl⟩ := HX.out.slice
      have e : o = some x := by rw [HO.out, ← HRn.out, List.take_of_length_le (Nat.le_refl _)]
      subst e
      have h64 : ¬ (64 : Int) < x.length := by have := HL.out; omega
      go_wp2
      go_ret2
      exact ⟨⟨_, rfl, HX.out⟩, HB.out⟩
set_option maxHeartbeats 2000000 in
theorem fxRun_lpc (v u : Value) (warm res : List Int) (c : Value) (g : List Int → Int) (w : World) (h : intE.Is w v warm) (hr : intE.Is w u res) (hg : GuessP w 145 c g warm.length) (hn : warm.length + res.length ≤ 64) (ho : ∀ x ∈ warm, okS x = true) :
    Calls Tryz.prog 139 #[v, u, .func (.func 145) #[] #[c]] w fun e w' => RunP w w' (runO g warm res) e ∧ Bl w w' := by
  have HI := Lib.hid h
  have HG := Lib.hid hg
  have HW := Lib.hid ho
  obtain ⟨A2, c2, rfl, h1, h2, h3, h4⟩ := hr
  have HR := Lib.hid h4
  clear h1 h2 h3 h4
  obtain ⟨A, cp, rfl, h1, h2, h3, h4⟩ := h
  have HC := Lib.hid h1
  have hmin : min (warm.length : Int) 64 = warm.length := by omega
  obtain ⟨V, hV, hI⟩ := slice_h (E := intE) (P := Tryz.prog) (t := 24) (by kernel_rfl) (fun w => by kernel_rfl) A cp warm (warm.length : Int) (by omega) (by omega) HC.out
  have HV := Lib.hid (fun w' (h : intE.Is w' (.slice A warm.length cp) warm) => (show intE.Is w' V warm by
    have := hI _ h
    rwa [Int.toNat_natCast, List.take_of_length_le (Nat.le_refl _)] at this))
  obtain ⟨o, hO⟩ : ∃ o, o = runO g warm res := ⟨_, rfl⟩
  rw [← hO]
  have HO := Lib.hid hO
  clear hg h1 h2 h3 h4 hO hI ho
  go_enter Tryz.func139, Tryz.ntmps139
  go_wp2_with (at_builtin; refine Enc.Own.append (E := intE) rfl _ _ 24 rfl w.heap.size 3 (.int .i64 0) 1 8 Tryz.underlying24 infoIntF rfl rfl (by decide) (by decide) (.slice none 0 0) [] rfl (Enc.Own.nil _ _ _) _ warm rfl HI.out (by simp; omega) (Nat.le_refl _) ?_; intro u1 w1 ho1 hg1)
  have HB1 := Lib.hid (show Bl w w1 from (Bl.refl w).grown hg1 (by simp [Value.ownBlock]))
  have HO1 := Lib.hid (show intE.Own 3 w1 w.heap.size u1 warm by simpa using ho1)
  have hchk : chkM warm = 0 := by unfold chkM; rw [if_pos (List.all_eq_true.2 HW.out), if_neg (by omega)]
  clear ho1 hg1
  go_wp2_with fail
  refine (xcheck_any V warm _ (HV.out _ (HI.out.bl HB1.out)) (by omega)).mono ?_
  rintro e w2 ⟨rfl, rfl⟩
  rw [hchk]
  go_wp2_with fail
  go_loopg [8, 26] res.length (fun gk s i wr => ∃ (k : Nat) (x : List Int), k ≤ res.length ∧ gk = res.length - k ∧ i = .int .i64 k ∧ Hid (x.length = warm.length + k) ∧ Hid (intE.Own 3 wr w.heap.size s x) ∧ Hid (runO g warm (res.take k) = some x) ∧ Hid (Bl w wr))
  case atStart => exact ⟨0, warm, by omega, rfl, rfl, Lib.hid rfl, HO1, Lib.hid rfl, HB1⟩
  case round =>
    obtain ⟨k, x, hk, hgk, rfl, HL, HX, HRn, HB⟩ := hrel
    by_cases hkn : k < res.length
    · have hki : (k : Int) < res.length := by omega
      obtain ⟨ad, rfl, c0⟩ := int_at HR.out k hkn
      replace c0 := HB.out.cell c0
      obtain ⟨A3, c3, rfl⟩ := HX.out.slice
      have HT := Lib.hid (show runO g warm (res.take (k + 1)) = _ by rw [List.take_succ_eq_append_getElem hkn, runO_snoc, HRn.out, Option.bind_some])
      have HD := Lib.hid (List.take_append_drop (k + 1) res)
      obtain ⟨r, hr⟩ : ∃ r, r = res[k] := ⟨_, rfl⟩
      rw [← hr] at c0
      rw [← hr] at HT
      clear hr
      have hno : (r < -1099511627776 ∨ 1099511627776 < r) ∨ (¬ (r < -1099511627776 ∨ 1099511627776 < r) ∧ okS (wrap64 (g x + r)) = false) → o = none := fun h => by
        rw [HO.out, ← HD.out]
        refine runO_none g _ _ _ ?_
        rw [HT.out]
        rcases h with h | ⟨h, h2⟩
        · rw [if_pos h]
        · rw [if_neg h, h2]; rfl
      have HN := Lib.hid hno
      clear hno
      rcases (show r < -1099511627776 ∨ (¬ r < -1099511627776 ∧ 1099511627776 < r) ∨ (¬ r < -1099511627776 ∧ ¬ 1099511627776 < r) by omega) with h | ⟨h, h2⟩ | ⟨h, h2⟩
      · have e := HN.out (.inl (.inl h))
        subst e
        go_wp2
        go_ret2
        exact ⟨rfl, HB.out⟩
      · have e := HN.out (.inl (.inr h2))
        subst e
        go_wp2
        go_ret2
        exact ⟨rfl, HB.out⟩
      · have hgl := HG.out wr _ x HB.out HX.out.is (by have := HL.out; omega) (by have := HL.out; omega)
        have HGL := Lib.hid hgl
        clear hgl
        have HT2 := Lib.hid (HT.out.trans (if_neg (by omega)))
        have HN2 := Lib.hid (fun h3 => HN.out (.inr ⟨by omega, h3⟩))
        clear HN HT
        obtain ⟨y, hy⟩ : ∃ y, y = wrap64 (g x + r) := ⟨_, rfl⟩
        rw [← hy] at HT2 HN2
        have hw1 : IntKind.i64.wrap (g x + r) = y := by rw [hy, IntKind.wrap_i64]; unfold wrap64; rfl
        clear hy
        go_wp2_with fail
        refine HGL.out.mono ?_
        rintro e w3 ⟨rfl, hb3⟩
        have HB3 := Lib.hid (HB.out.trans hb3)
        have HX3 := Lib.hid (HX.out.bl hb3)
        clear hb3
        go_wp2_with fail
        refine (xsample_any y _).mono ?_
        rintro e w4 ⟨rfl, rfl⟩
        cases hz : okS y
        · have e := HN2.out hz
          subst e
          go_wp2
          go_ret2
          exact ⟨rfl, HB3.out⟩
        · have HT3 := Lib.hid (HT2.out.trans (if_pos hz))
          clear HT2 HN2
          go_wp2_with (at_builtin; refine Enc.Own.append1 (E := intE) rfl (.tmp 44) (.tmp 46) 24 rfl w.heap.size 3 (.int .i64 0) 1 8 Tryz.underlying24 infoIntF rfl rfl (by decide) (by decide) _ x rfl HX3.out y _ rfl rfl rfl (by have := HL.out; omega) HB3.out.size ?_; intro u2 w5 ho hg)
          have HX5 := Lib.hid ho
          have HB5 := Lib.hid ((HB3.out.alloc _).grown hg (fun k hk => (HX3.out.lt k hk).1))
          clear ho hg
          go_roundg (res.length - (k + 1))
          case measure => omega
          case rel => exact ⟨k + 1, x ++ [y], by omega, rfl, by go_num, Lib.hid (by rw [List.length_append, HL.out]; rfl), HX5, HT3, HB5⟩
    · obtain rfl : k = res.length := by omega
      obtain ⟨A3, c3, rfl⟩ := HX.out.slice
      have e : o = some x := by rw [HO.out, ← HRn.out, List.take_of_length_le (Nat.le_refl _)]
      subst e
      have h64 : ¬ (64 : Int) < x.length := by have := HL.out; omega
      go_wp2
      go_ret2
      exact ⟨⟨_, rfl, HX.out⟩, HB.out⟩
end Go.Proofs.YtoocebghlchcoaaGreat.ExtW
