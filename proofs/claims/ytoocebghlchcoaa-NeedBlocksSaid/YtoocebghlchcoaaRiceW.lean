/- Contracts of rice: Zig, may, Size, Best, Put. -/
import Derived.Test.YtoocebghlchcoaaWrW
import Derived.Test.YtoocebghlchcoaaFrameP
namespace Go.Proofs.Ytoocebghlchcoaa.ExtW
open Go.RowKit Go.Ov Go.Proofs.Ytoocebghlchcoaa.Need

theorem zig_any (n : Int) (w : World) : Calls Try.prog 34 #[.int .i64 n] w fun e w' => e = .returned (.int .i64 (zigM n)) ∧ w' = w := by
  obtain ⟨r, hr⟩ : ∃ r, r = zigM n := ⟨_, rfl⟩
  rw [← hr]
  have HR := Lib.hid hr
  clear hr
  go_enter Try.func34, Try.ntmps34
  have h : n < -1099511627776 ∨ (-1099511627776 ≤ n ∧ 1099511627776 ≤ n) ∨ (-1099511627776 ≤ n ∧ n < 1099511627776 ∧ n < 0) ∨ (-1099511627776 ≤ n ∧ n < 1099511627776 ∧ 0 ≤ n) := by omega
  rcases h with h1 | ⟨h1, h2⟩ | ⟨h1, h2, h3⟩ | ⟨h1, h2, h3⟩
  · go_wp2
    go_ret
    rw [HR.out, zigM, if_pos (by omega)]
    exact ⟨rfl, rfl⟩
  · go_wp2
    go_ret
    rw [HR.out, zigM, if_pos (by omega)]
    exact ⟨rfl, rfl⟩
  · have hw1 : IntKind.i64.wrap (-2 * n) = -2 * n := IntWalk.i64_in _ (by omega)
    have hw2 : IntKind.i64.wrap (-2 * n - 1) = -2 * n - 1 := IntWalk.i64_in _ (by omega)
    go_wp2
    go_ret
    rw [HR.out, zigM, if_neg (by omega), if_pos h3]
    exact ⟨by go_num, rfl⟩
  · have hw1 : IntKind.i64.wrap (2 * n) = 2 * n := IntWalk.i64_in _ (by omega)
    go_wp2
    go_ret
    rw [HR.out, zigM, if_neg (by omega), if_neg (by omega)]
    exact ⟨by go_num, rfl⟩

theorem zmay_any (z k : Int) (w : World) : Calls Try.prog 40 #[.int .i64 z, .int .i64 k] w fun e w' => e = .returned (.bool (okZ z && (decide (0 ≤ k) && decide (k ≤ 24)))) ∧ w' = w := by
  obtain ⟨r, hr⟩ : ∃ r, r = (okZ z && (decide (0 ≤ k) && decide (k ≤ 24))) := ⟨_, rfl⟩
  rw [← hr]
  have HR := Lib.hid hr
  clear hr
  go_enter Try.func40, Try.ntmps40
  have h : z < 0 ∨ (0 ≤ z ∧ 4294967296 ≤ z) ∨ (0 ≤ z ∧ z < 4294967296 ∧ k < 0) ∨ (0 ≤ z ∧ z < 4294967296 ∧ 0 ≤ k ∧ 24 < k) ∨ (0 ≤ z ∧ z < 4294967296 ∧ 0 ≤ k ∧ k ≤ 24) := by omega
  rcases h with h1 | ⟨h1, h2⟩ | ⟨h1, h2, h3⟩ | ⟨h1, h2, h3, h4⟩ | ⟨h1, h2, h3, h4⟩
  all_goals
    first
    | have hb : (okZ z && (decide (0 ≤ k) && decide (k ≤ 24))) = false := by unfold okZ; rw [Bool.eq_false_iff]; simp only [ne_eq, Bool.and_eq_true, decide_eq_true_eq]; omega
    | have hb : (okZ z && (decide (0 ≤ k) && decide (k ≤ 24))) = true := by unfold okZ; simp only [Bool.and_eq_true, decide_eq_true_eq]; omega
    have HB := Lib.hid (HR.out.trans hb)
    clear hb HR
    go_wp2
    go_ret
    exact ⟨by rw [HB.out]; first | rfl | (simp; omega), rfl⟩

theorem zsize_any (z : Int) (k : Nat) (hk : k ≤ 24) (w : World) : Calls Try.prog 41 #[.int .i64 z, .int .i64 k] w fun e w' => (∃ s : Int, e = .returned (.int .i64 s)) ∧ w' = w := by
  go_enter Try.func41, Try.ntmps41
  have hk0 : (0 : Int) ≤ k := by omega
  have hk1 : (k : Int) ≤ 24 := by omega
  have hm : (okZ z && (decide (0 ≤ (k : Int)) && decide ((k : Int) ≤ 24))) = okZ z := by simp [hk0, hk1]
  go_wp2_with fail
  refine (zmay_any _ _ _).mono ?_
  rintro e w' ⟨rfl, rfl⟩
  rw [hm]
  cases hz : okZ z
  · go_wp2
    go_ret
    exact ⟨⟨_, rfl⟩, rfl⟩
  · have hlt : z / 2 ^ k < 24 ∨ ¬ z / 2 ^ k < 24 := by omega
    rcases hlt with h | h
    · go_wp2
      go_ret
      exact ⟨⟨_, rfl⟩, rfl⟩
    · go_wp2
      go_ret
      exact ⟨⟨_, rfl⟩, rfl⟩

theorem riceB_len (k : Nat) (hk : k ≤ 24) (z : Int) (_ : 0 ≤ z) : (riceB k z).length ≤ 56 := by
  unfold riceB
  split
  · rw [List.length_append, List.length_append, List.length_replicate, numB_len]; simp; omega
  · rw [List.length_append, List.length_replicate, numB_len]; omega

set_option maxHeartbeats 1000000 in
theorem zput_any (base B : Nat) (v : Value) (bs : List Bool) (z : Int) (k : Nat) (w : World) (h : WrSt 80 5 w base B v bs) (hl : bs.length ≤ 800000) (hk : k ≤ 24) :
    Calls Try.prog 36 #[.pointer (some ⟨B, 0, none⟩), .int .i64 z, .int .i64 k] w fun e w' => e = .returned (.bool (okZ z)) ∧ ∃ v', WrSt 80 5 w' base B v' (if okZ z then bs ++ riceB k z else bs) ∧ WStep base w w' B v v' := by
  have HW := Lib.hid h
  clear h
  obtain ⟨bs2, hb2⟩ : ∃ b, b = (if okZ z then bs ++ riceB k z else bs) := ⟨_, rfl⟩
  rw [← hb2]
  have HB := Lib.hid hb2
  clear hb2
  go_enter Try.func36, Try.ntmps36
  have hk0 : (0 : Int) ≤ k := by omega
  have hk1 : (k : Int) ≤ 24 := by omega
  have hm : (okZ z && (decide (0 ≤ (k : Int)) && decide ((k : Int) ≤ 24))) = okZ z := by simp [hk0, hk1]
  go_wp2_with fail
  refine (zmay_any _ _ _).mono ?_
  rintro e w' ⟨rfl, rfl⟩
  rw [hm]
  cases hz : okZ z
  · go_wp2
    go_ret
    exact ⟨by rw [hz]; rfl, v, by rw [HB.out, hz]; exact HW.out, WStep.refl _ _ _ _⟩
  · have hz' : 0 ≤ z ∧ z < 4294967296 := by simpa [okZ] using hz
    have hp : (0 : Int) < 2 ^ k := Int.pow_pos (by decide)
    have hq : 0 ≤ z / 2 ^ k := Int.ediv_nonneg hz'.1 (by omega)
    have hlt : z / 2 ^ k < 24 ∨ ¬ z / 2 ^ k < 24 := by omega
    rcases hlt with h | h
    · have HR := Lib.hid (show riceB k z = List.replicate (z / 2 ^ k).toNat true ++ [false] ++ numB z k by unfold riceB; rw [if_pos h])
      obtain ⟨q, hq2⟩ : ∃ q : Nat, z / 2 ^ k = q := ⟨(z / 2 ^ k).toNat, by omega⟩
      rw [hq2] at HR h
      go_wp2_with fail
      refine (wOnes_any base B v bs q _ HW.out (by omega) (by omega)).mono ?_
      rintro e w1 ⟨v1, rfl, h1, t1⟩
      have H1 := Lib.hid h1
      have T1 := Lib.hid t1
      clear h1 t1
      go_wp2_with fail
      refine (wPut_any base B v1 _ z k _ H1.out (by simp; omega) (by omega) (by omega) (by omega)).mono ?_
      rintro e w2 ⟨v2, rfl, h2, t2⟩
      have H2 := Lib.hid h2
      have T2 := Lib.hid (T1.out.trans t2)
      clear h2 t2
      go_wp2_with fail
      go_ret
      refine ⟨by rw [hz]; rfl, v2, ?_, T2.out⟩
      rw [HB.out, if_pos hz, HR.out, Int.toNat_natCast]
      simpa only [List.append_assoc] using H2.out
    · have HR := Lib.hid (show riceB k z = List.replicate 24 true ++ numB z 32 by unfold riceB; rw [if_neg h])
      have H24 := Lib.hid (show numB 16777215 24 = List.replicate 24 true by decide)
      go_wp2_with fail
      refine (wPut_any base B v _ 16777215 24 _ HW.out (by omega) (by omega) (by omega) (by omega)).mono ?_
      rintro e w1 ⟨v1, rfl, h1, t1⟩
      have H1 := Lib.hid h1
      have T1 := Lib.hid t1
      clear h1 t1
      go_wp2_with fail
      refine (wPut_any base B v1 _ z 32 _ H1.out (by simp [numB_len]; omega) (by omega) (by omega) (by omega)).mono ?_
      rintro e w2 ⟨v2, rfl, h2, t2⟩
      have H2 := Lib.hid h2
      have T2 := Lib.hid (T1.out.trans t2)
      clear h2 t2
      go_wp2_with fail
      go_ret
      refine ⟨by rw [hz]; rfl, v2, ?_, T2.out⟩
      rw [HB.out, if_pos hz, HR.out, ← H24.out]
      simpa only [List.append_assoc] using H2.out
set_option maxHeartbeats 1000000 in
theorem zbest_any (v : Value) (l : List Int) (w : World) (h : intE.Is w v l) (hn : l.length ≤ 1000000) :
    Calls Try.prog 35 #[v] w fun e w' => (∃ (k : Nat) (s : Int), k ≤ 24 ∧ e = .returned (.tuple #[.int .i64 k, .int .i64 s])) ∧ w' = w := by
  obtain ⟨A, c, rfl, h1, h2, h3, h4⟩ := h
  have HA := Lib.hid h4
  clear h1 h2 h3 h4
  go_enter Try.func35, Try.ntmps35
  go_wp2_with fail
  go_loopg [2, 3, 12] l.length (fun gk v2 v3 i wr => ∃ k : Nat, k ≤ l.length ∧ gk = l.length - k ∧ i = .int .i64 k ∧ v2 = .int .i64 0 ∧ v3 = .int .i64 0 ∧ wr = w)
  case atStart => exact ⟨0, by omega, rfl, rfl, rfl, rfl, rfl⟩
  case round =>
    obtain ⟨k, hk, hgk, rfl, rfl, rfl, hw⟩ := hrel
    obtain rfl : w = wr := hw.symm
    by_cases hlt : k < l.length
    · have hlti : (k : Int) < l.length := by omega
      obtain ⟨ad, rfl, c0⟩ := int_at HA.out k hlt
      generalize l[k] = x at *
      go_wp2_with fail
      refine (zmay_any _ _ _).mono ?_
      rintro e w' ⟨rfl, rfl⟩
      cases hz : okZ x
      · go_wp2
        go_ret2
        exact ⟨⟨0, _, by decide, rfl⟩, rfl⟩
      · go_wp2
        go_roundg (l.length - (k + 1))
        case measure => omega
        case rel => exact ⟨k + 1, by omega, rfl, by go_num, rfl, rfl, rfl⟩
    · obtain rfl : k = l.length := by omega
      go_wp2_with fail
      go_loopg [2, 3, 20] 25 (fun gk v2 v3 i wr => ∃ (k j : Nat) (s : Int), k ≤ 25 ∧ gk = 25 - k ∧ i = .int .i64 k ∧ j ≤ 24 ∧ v2 = .int .i64 j ∧ v3 = .int .i64 s ∧ wr = w)
      case atStart => exact ⟨0, 0, 0, by omega, rfl, rfl, by omega, rfl, rfl, rfl⟩
      case round =>
        obtain ⟨k, j, s, hk, hgk, rfl, hj, rfl, rfl, hw⟩ := hrel
        obtain rfl : w = wr := hw.symm
        by_cases hlt : k < 25
        · have hlti : (k : Int) < 25 := by omega
          go_wp2_with fail
          go_loopg [7, 25] l.length (fun gk v7 i wr => ∃ (m : Nat) (t : Int), m ≤ l.length ∧ gk = l.length - m ∧ i = .int .i64 m ∧ v7 = .int .i64 t ∧ wr = w)
          case atStart => exact ⟨0, 0, by omega, rfl, rfl, rfl, rfl⟩
          case round =>
            obtain ⟨m, t, hm, hgm, rfl, rfl, hw⟩ := hrel
            obtain rfl : w = wr := hw.symm
            by_cases hml : m < l.length
            · have hmli : (m : Int) < l.length := by omega
              obtain ⟨ad, rfl, c0⟩ := int_at HA.out m hml
              generalize l[m] = x at *
              go_wp2_with fail
              refine (zsize_any x k (by omega) _).mono ?_
              rintro e w' ⟨⟨u, rfl⟩, rfl⟩
              go_wp2
              go_roundg (l.length - (m + 1))
              case measure => omega
              case rel => exact ⟨m + 1, _, by omega, rfl, by go_num, rfl, rfl⟩
            · obtain rfl : m = l.length := by omega
              rcases (show k = 0 ∨ 0 < k by omega) with rfl | hk0
              · go_wp2
                go_roundg 24
                case measure => omega
                case rel => exact ⟨1, 0, t, by omega, rfl, by go_num, by omega, rfl, rfl, rfl⟩
              · rcases (show t < s ∨ ¬ t < s by omega) with hts | hts
                · go_wp2
                  go_roundg (25 - (k + 1))
                  case measure => omega
                  case rel => exact ⟨k + 1, k, t, by omega, rfl, by go_num, by omega, rfl, rfl, rfl⟩
                · go_wp2
                  go_roundg (25 - (k + 1))
                  case measure => omega
                  case rel => exact ⟨k + 1, j, s, by omega, rfl, by go_num, by omega, rfl, rfl, rfl⟩
        · obtain rfl : k = 25 := by omega
          go_wp2
          go_ret2
          exact ⟨⟨j, hj, s, rfl⟩, rfl⟩
end Go.Proofs.Ytoocebghlchcoaa.ExtW
