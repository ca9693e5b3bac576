/- Contracts of levin: floor, Auto. -/
import Derived.Test.YtoocebghlchcoaaLpcR
namespace Go.Proofs.Ytoocebghlchcoaa.ExtW
open Go.RowKit Go.Ov Go.Proofs.Ytoocebghlchcoaa.Need

theorem lfloor_any (a b : Int) (hb : 1 ≤ b) (w : World) : Calls Try.prog 45 #[.int .i64 a, .int .i64 b] w fun e w' => (∃ q, e = .returned (.int .i64 q)) ∧ w' = w := by
  go_enter Try.func45, Try.ntmps45
  have hb0 : b ≠ 0 := by omega
  rcases (show a.tmod b < 0 ∨ ¬ a.tmod b < 0 by omega) with h | h
  · go_wp2
    go_ret
    exact ⟨⟨_, rfl⟩, rfl⟩
  · go_wp2
    go_ret
    exact ⟨⟨_, rfl⟩, rfl⟩

/-- bounds on sums of products -/
def AutoOk (r : List Int) : Prop := (∀ v ∈ r, -4503599627370496 ≤ v ∧ v ≤ 4503599627370496) ∧ 0 ≤ r.getD 0 0
theorem prod_bd {a b : Int} (ha : okS a = true) (hb : okS b = true) : -70368744177664 ≤ a * b ∧ a * b ≤ 70368744177664 := by
  unfold okS at ha hb
  simp only [Bool.and_eq_true, decide_eq_true_eq] at ha hb
  have := mul_bd (a := a) (b := b) (A := 8388608) (B := 8388608) (by omega) (by omega) (by omega) (by omega)
  omega

set_option maxRecDepth 100000 in
set_option maxHeartbeats 1000000 in
theorem lauto_any (v : Value) (l : List Int) (n : Nat) (w : World) (h : intE.Is w v l) (hn : n ≤ 12) (hx : chkM l = 0) :
    Calls Try.prog 43 #[v, .int .i64 n] w fun e w' => ∃ u r, e = .returned (.tuple #[u, .int .i64 0]) ∧ Bl w w' ∧ r.length = n + 1 ∧ AutoOk r ∧ intE.Own 3 w' w.heap.size u r := by
  have HI := Lib.hid h
  obtain ⟨A, cp, rfl, h1, h2, h3, h4⟩ := h
  clear h1 h2 h3
  have HA := Lib.hid h4
  clear h4
  obtain ⟨hx1, hx2⟩ := chk_ok hx
  rw [List.all_eq_true] at hx1
  have HS := Lib.hid hx1
  clear hx1
  go_enter Try.func43, Try.ntmps43
  have hn1 : ¬ (n : Int) < 0 := by omega
  have hn2 : ¬ (12 : Int) < n := by omega
  go_wp2_with fail
  refine (xcheck_any _ l _ HI.out (by omega)).mono ?_
  rintro e w' ⟨rfl, rfl⟩
  rw [hx]
  have hwn : IntKind.i64.wrap ((n : Int) + 1) = n + 1 := IntWalk.i64_in _ (by omega)
  go_wp2_with fail
  go_loopg [7, 24] (n + 1) (fun gk u i wr => ∃ (k : Nat) (r : List Int), k ≤ n + 1 ∧ gk = n + 1 - k ∧ i = .int .i64 k ∧ r.length = k ∧ Hid (AutoOk r) ∧ Hid (intE.Own 3 wr w'.heap.size u r) ∧ Hid (Bl w' wr))
  case atStart => exact ⟨0, [], by omega, rfl, rfl, rfl, Lib.hid ⟨fun v hv => by simp at hv, by simp⟩, Lib.hid (Enc.Own.nil _ _ _), Lib.hid (Bl.refl _)⟩
  case round =>
    obtain ⟨k, r, hk, hgk, rfl, hrl, HR, HO, HW⟩ := hrel
    by_cases hlt : k < n + 1
    · have hlti : (k : Int) < n + 1 := by omega
      go_wp2_with fail
      go_loopg [9, 10] (l.length + 13 - k) (fun gk s i wr2 => ∃ (m : Nat) (t : Int), k ≤ m ∧ (m ≤ l.length ∨ m = k) ∧ gk = l.length + 13 - m ∧ i = .int .i64 m ∧ s = .int .i64 t ∧ (-((m : Int) * 70368744177664) ≤ t ∧ t ≤ m * 70368744177664) ∧ (k = 0 → 0 ≤ t) ∧ Hid (Bl wr wr2))
      case atStart => exact ⟨k, 0, by omega, .inr rfl, by omega, rfl, rfl, by omega, by omega, Lib.hid (Bl.refl _)⟩
      case round =>
        obtain ⟨m, t, hkm, hml, hgm, rfl, rfl, ht, ht0, HV⟩ := hrel
        by_cases hm : m < l.length
        · have hmi : (m : Int) < l.length := by omega
          obtain ⟨ad, rfl, c0⟩ := int_at HA.out m hm
          obtain ⟨ad', e2, c2⟩ := int_at HA.out (m - k) (by omega)
          injection e2 with e2
          subst e2
          have d0 := HV.out.cell (HW.out.cell c0)
          have d2 := HV.out.cell (HW.out.cell c2)
          have hp := prod_bd (HS.out _ (List.getElem_mem hm)) (HS.out _ (List.getElem_mem (show m - k < l.length by omega)))
          have hp0 : k = 0 → 0 ≤ l[m] * l[m - k]'(by omega) := by
            intro e; subst e
            simp only [Nat.sub_zero]
            rcases Int.le_total 0 l[m] with h | h
            · exact Int.mul_nonneg h h
            · exact Int.mul_nonneg_of_nonpos_of_nonpos h h
          clear c0 c2
          generalize l[m] = x at *
          generalize l[m - k] = y at *
          generalize hj : m - k = j at *
          have hw1 : IntKind.i64.wrap ((m : Int) - k) = j := by rw [IntWalk.i64_in _ (by omega)]; omega
          have hw2 : IntKind.i64.wrap (j : Int) = j := IntWalk.i64_in _ (by omega)
          have hw3 : (m : Int) - k = j := by omega
          have hjl : j < l.length := by omega
          have hw4 : IntKind.i64.wrap (x * y) = x * y := IntWalk.i64_in _ (by omega)
          have hw5 : IntKind.i64.wrap (t + x * y) = t + x * y := IntWalk.i64_in _ (by omega)
          clear hj
          go_wp2_with fail
          refine wp_region_ways (S := (fun w'' => w''.cell? (ad.add m) = some (.int .i64 x) ∧ w''.cell? (ad.add j) = some (.int .i64 y))) [0, 1, 2, 3, 4, 5, 6, 7, 8, 9, 10, 11, 12, 13] (y := .take 0 (.take 1 (.take 2 (.take 3 (.take 4 (.take 5 (.take 6 (.take 7 (.take 8 (.take 9 (.take 10 (.take 11 (.take 12 (.take 13 (.done))))))))))))))) (by kernel_rfl) (by kernel_rfl) (by kernel_rfl) ?_ (fun hHeld => ?_)
          · exact ⟨(Bl.refl _).drew.cell d0, (Bl.refl _).drew.cell d2⟩
          clear hHeld
          repeat (first | (refine wpWay_take rfl (by rfl) (by intro w hSw; (try dsimp only at hSw); first | (go_simp; done) | (go_simp; with_reducible rfl)) ?_; try simp only [Act.put, List.setIfInBounds_toArray, List.set_cons_zero, List.set_cons_succ]) | (refine wpWay_skip rfl (by rfl) ?_; try simp only [Act.put, List.setIfInBounds_toArray, List.set_cons_zero, List.set_cons_succ]))
          refine wpWay_done ?_
          go_wp2_with fail
          go_roundg (l.length + 13 - (m + 1))
          case measure => omega
          case rel => exact ⟨m + 1, t + x * y, by omega, .inl (by omega), rfl, by go_num, rfl, by omega, fun e => by have := hp0 e; have := ht0 e; omega, Lib.hid HV.out.drew⟩
        · have hmi : ¬ (m : Int) < l.length := by omega
          have HO2 := Lib.hid (HO.out.bl HV.out)
          have HW3 := Lib.hid (HW.out.trans HV.out)
          have hok : AutoOk (r ++ [t]) := by
            have h0 := HR.out
            refine ⟨fun v hv => ?_, ?_⟩
            · rcases List.mem_append.1 hv with h | h
              · exact h0.1 v h
              · simp only [List.mem_singleton] at h
                subst h
                have : (m : Int) ≤ 64 := by omega
                omega
            · cases r with
              | nil => simpa using ht0 (by simpa using hrl.symm)
              | cons y r => simpa using h0.2
          have HK := Lib.hid hok
          clear hok ht0 HR
          go_wp2_with (at_builtin; refine Enc.Own.append1L (E := intE) rfl (.tmp 47) (.tmp 49) 22 rfl w'.heap.size 3 (.int .i64 0) 1 8 Try.underlying22 infoIntX rfl rfl (by decide) (by decide) _ r rfl HO2.out t _ rfl rfl rfl (by omega) (HW3.out.size) ?_; intro u1 w2 ho hg hli)
          go_roundg (n + 1 - (k + 1))
          case measure => omega
          case rel => exact ⟨k + 1, r ++ [t], by omega, rfl, by go_num, by simp [hrl], HK, Lib.hid ho, Lib.hid ((HW3.out.alloc _).grown hg (fun g hgk => (HO.out.lt g hgk).1))⟩
    · obtain rfl : k = n + 1 := by omega
      go_wp2
      go_ret2
      exact ⟨_, r, rfl, HW.out, hrl, HR.out, HO.out⟩
end Go.Proofs.Ytoocebghlchcoaa.ExtW
