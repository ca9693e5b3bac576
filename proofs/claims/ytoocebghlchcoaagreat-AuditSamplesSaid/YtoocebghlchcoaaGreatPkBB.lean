/- Several texts joined (see each one's head). -/
import Derived.Test.YtoocebghlchcoaaGreatPkAW
import Derived.Test.YtoocebghlchcoaaGreatPkAH
import Derived.Test.YtoocebghlchcoaaGreatPkAQ
import Derived.Test.YtoocebghlchcoaaGreatPkBA
/- Contracts, weak ones, of how the document's own digits are made (overdubref01): Put, Ones, Zig, Size, Rice, Best. -/
namespace Go.Proofs.YtoocebghlchcoaaGreat.ExtW
open Go.RowKit Go.Ov Go.Proofs.YtoocebghlchcoaaGreat.Need
/-- a row of bytes, so many at most -/
def QB (w : World) (u : Value) (n : Nat) : Prop := ∃ xs, byteE.Is w u xs ∧ okB xs ∧ xs.length ≤ n
theorem QB.bl {w w' : World} {u : Value} {n : Nat} (h : QB w u n) (hb : Bl w w') : QB w' u n := by
  obtain ⟨xs, h1, h2, h3⟩ := h
  exact ⟨xs, h1.bl hb, h2, h3⟩
theorem QB.mono {w : World} {u : Value} {n m : Nat} (h : QB w u n) (hn : n ≤ m) : QB w u m := by
  obtain ⟨xs, h1, h2, h3⟩ := h
  exact ⟨xs, h1, h2, Nat.le_trans h3 hn⟩
theorem QB.nil (w : World) (n : Nat) : QB w (.slice none 0 0) n := ⟨[], Enc.Is.nil _, (fun c hc => by cases hc), by simp⟩
theorem okB_snoc {l : List Int} {y : Int} (h : okB l) (hy : 0 ≤ y ∧ y < 256) : okB (l ++ [y]) := fun c hc => by
  rcases List.mem_append.1 hc with h1 | h1
  · exact h c h1
  · rw [List.mem_singleton.1 h1]; exact hy
theorem u8_ok (z : Int) : 0 ≤ IntKind.u8.wrap z ∧ IntKind.u8.wrap z < 256 := by
  have : IntKind.u8.wrap z = z % 256 := by simp [IntKind.wrap, IntKind.bits, IntKind.signed]
  rw [this]; omega
set_option maxHeartbeats 1000000 in
theorem q1Put_any (v : Value) (z : Int) (n N : Nat) (w : World) (h : QB w v N) (hN : N ≤ 100000) (hn : n ≤ 62) :
    Calls Tryz.prog 59 #[v, .int .i64 z, .int .i64 n] w fun e w' => ∃ u, e = .returned (.tuple #[u, .bool true]) ∧ QB w' u (N + n) ∧ Bl w w' := by
  obtain ⟨xs, hi, ho, hl⟩ := h
  have HI := Lib.hid hi
  have HO := Lib.hid ho
  have g1 : ¬ (n : Int) < 0 := by omega
  have g2 : ¬ (62 : Int) < n := by omega
  have hwn : IntKind.i64.wrap ((n : Int) - 1) = (n : Int) - 1 := IntWalk.i64_in _ (by omega)
  clear hi ho
  go_enter Tryz.func59, Tryz.ntmps59
  go_wp2_with (at_builtin; refine Enc.Own.append (E := byteE) rfl _ _ 94 rfl w.heap.size 5 (.int .u8 0) 1 1 Tryz.underlying94 infoByte rfl rfl (by decide) (by decide) (.slice none 0 0) [] rfl (Enc.Own.nil _ _ _) v _ rfl HI.out (by simp; omega) (Nat.le_refl _) ?_; intro u1 w1 ho1 hg1)
  have HB1 := Lib.hid ((Bl.refl w).grown hg1 (by simp [Value.ownBlock]))
  have HO1 := Lib.hid (show byteE.Own 5 w1 w.heap.size u1 xs by simpa using ho1)
  clear ho1 hg1
  go_loopg [8, 9] n (fun gk u i wr => ∃ (t : Nat) (ys : List Int), t ≤ n ∧ gk = t ∧ i = .int .i64 ((t : Int) - 1) ∧ Hid (ys.length = xs.length + (n - t)) ∧ Hid (byteE.Own 5 wr w.heap.size u ys) ∧ Hid (okB ys) ∧ Hid (Bl w wr))
  case atStart => exact ⟨n, xs, by omega, rfl, rfl, Lib.hid (by omega), HO1, HO, HB1⟩
  case round =>
    obtain ⟨t, ys, ht, hgt, rfl, HL, HU, HK, HB⟩ := hrel
    cases t with
    | zero =>
      have hneg : ¬ (0 : Int) ≤ ((0 : Nat) : Int) - 1 := by omega
      go_wp2
      go_ret2
      exact ⟨_, rfl, ⟨ys, HU.out.is, HK.out, by have := HL.out; omega⟩, HB.out⟩
    | succ k =>
      rw [show (((k + 1 : Nat) : Int) - 1) = (k : Int) by omega]
      have hk0 : (0 : Int) ≤ k := by omega
      have hwk : IntKind.u64.wrap (k : Int) = k := by simp [IntKind.wrap, IntKind.bits, IntKind.signed]; omega
      have hwk2 : IntKind.i64.wrap ((k : Int) - 1) = (k : Int) - 1 := IntWalk.i64_in _ (by omega)
      obtain ⟨y, hy⟩ : ∃ y, IntKind.u8.wrap (bits .and .i64 (z / 2 ^ k) 1) = y := ⟨_, rfl⟩
      have HY := Lib.hid (hy ▸ u8_ok (bits .and .i64 (z / 2 ^ k) 1) : 0 ≤ y ∧ y < 256)
      go_wp2_with (at_builtin; refine Enc.Own.append1 (E := byteE) rfl (.tmp 25) (.tmp 32) 94 rfl w.heap.size 5 (.int .u8 0) 1 1 Tryz.underlying94 infoByte rfl rfl (by decide) (by decide) _ ys rfl HU.out y _ rfl rfl rfl (by have := HL.out; omega) HB.out.size ?_; intro u2 w2 ho hg)
      have HU2 := Lib.hid ho
      have HB2 := Lib.hid ((HB.out.alloc _).grown hg (fun g e => (HU.out.lt g e).1))
      clear ho hg
      go_roundg k
      case measure => omega
      case rel => exact ⟨k, ys ++ [y], by omega, rfl, rfl, Lib.hid (by rw [List.length_append, HL.out]; simp; omega), HU2, Lib.hid (okB_snoc HK.out HY.out), HB2⟩
set_option maxHeartbeats 1000000 in
theorem q1Ones_any (v : Value) (n N : Nat) (w : World) (h : QB w v N) (hN : N ≤ 100000) (hn : n ≤ 1024) :
    Calls Tryz.prog 119 #[v, .int .i64 n] w fun e w' => ∃ u, e = .returned (.tuple #[u, .bool true]) ∧ QB w' u (N + n + 1) ∧ Bl w w' := by
  obtain ⟨xs, hi, ho, hl⟩ := h
  have HI := Lib.hid hi
  have HO := Lib.hid ho
  have g1 : ¬ (n : Int) < 0 := by omega
  have g2 : ¬ (1024 : Int) < n := by omega
  clear hi ho
  go_enter Tryz.func119, Tryz.ntmps119
  go_wp2_with (at_builtin; refine Enc.Own.append (E := byteE) rfl _ _ 94 rfl w.heap.size 5 (.int .u8 0) 1 1 Tryz.underlying94 infoByte rfl rfl (by decide) (by decide) (.slice none 0 0) [] rfl (Enc.Own.nil _ _ _) v _ rfl HI.out (by simp; omega) (Nat.le_refl _) ?_; intro u1 w1 ho1 hg1)
  have HB1 := Lib.hid ((Bl.refl w).grown hg1 (by simp [Value.ownBlock]))
  have HO1 := Lib.hid (show byteE.Own 5 w1 w.heap.size u1 xs by simpa using ho1)
  clear ho1 hg1
  go_loopg [6, 7] n (fun gk u i wr => ∃ (k : Nat) (ys : List Int), k ≤ n ∧ gk = n - k ∧ i = .int .i64 k ∧ Hid (ys.length = xs.length + k) ∧ Hid (byteE.Own 5 wr w.heap.size u ys) ∧ Hid (okB ys) ∧ Hid (Bl w wr))
  case atStart => exact ⟨0, xs, by omega, rfl, rfl, Lib.hid (by omega), HO1, HO, HB1⟩
  case round =>
    obtain ⟨k, ys, hk, hgk, rfl, HL, HU, HK, HB⟩ := hrel
    by_cases hkn : k < n
    · have hki : (k : Int) < n := by omega
      go_wp2_with (at_builtin; refine Enc.Own.append1 (E := byteE) rfl (.tmp 22) (.tmp 23) 94 rfl w.heap.size 5 (.int .u8 0) 1 1 Tryz.underlying94 infoByte rfl rfl (by decide) (by decide) _ ys rfl HU.out 1 _ rfl rfl rfl (by have := HL.out; omega) HB.out.size ?_; intro u2 w2 ho hg)
      have HU2 := Lib.hid ho
      have HB2 := Lib.hid ((HB.out.alloc _).grown hg (fun g e => (HU.out.lt g e).1))
      clear ho hg
      go_roundg (n - (k + 1))
      case measure => omega
      case rel => exact ⟨k + 1, ys ++ [1], by omega, rfl, by go_num, Lib.hid (by rw [List.length_append, HL.out]; rfl), HU2, Lib.hid (okB_snoc HK.out (by omega)), HB2⟩
    · obtain rfl : k = n := by omega
      go_wp2_with (at_builtin; refine Enc.Own.append1 (E := byteE) rfl (.tmp 25) (.tmp 26) 94 rfl w.heap.size 5 (.int .u8 0) 1 1 Tryz.underlying94 infoByte rfl rfl (by decide) (by decide) _ ys rfl HU.out 0 _ rfl rfl rfl (by have := HL.out; omega) HB.out.size ?_; intro u2 w2 ho hg)
      go_ret2
      exact ⟨_, rfl, ⟨ys ++ [0], ho.is, okB_snoc HK.out (by omega), by rw [List.length_append, HL.out]; simp; omega⟩, (HB.out.alloc _).grown hg (fun g e => (HU.out.lt g e).1)⟩
theorem q1Zig_any (n : Int) (w : World) : Calls Tryz.prog 92 #[.int .i64 n] w fun e w' => e = .returned (.int .i64 (zigM n)) ∧ w' = w := by
  obtain ⟨r, hr⟩ : ∃ r, r = zigM n := ⟨_, rfl⟩
  rw [← hr]
  have HR := Lib.hid hr
  clear hr
  go_enter Tryz.func92, Tryz.ntmps92
  rcases (show n < -1099511627776 ∨ (¬ n < -1099511627776 ∧ 1099511627776 ≤ n) ∨ (¬ n < -1099511627776 ∧ ¬ 1099511627776 ≤ n ∧ n < 0) ∨ (¬ n < -1099511627776 ∧ ¬ 1099511627776 ≤ n ∧ ¬ n < 0) by omega) with h | ⟨h, h2⟩ | ⟨h, h2, h3⟩ | ⟨h, h2, h3⟩
  · go_wp2
    go_ret
    exact ⟨by rw [HR.out]; unfold zigM; rw [if_pos (.inl h)]; rfl, rfl⟩
  · go_wp2
    go_ret
    exact ⟨by rw [HR.out]; unfold zigM; rw [if_pos (.inr h2)]; rfl, rfl⟩
  · have hw1 : IntKind.i64.wrap (-2 * n) = -2 * n := IntWalk.i64_in _ (by omega)
    have hw2 : IntKind.i64.wrap (-2 * n - 1) = r := by rw [IntWalk.i64_in _ (by omega), HR.out]; unfold zigM; rw [if_neg (by omega), if_pos h3]
    go_wp2
    go_ret
    exact ⟨rfl, rfl⟩
  · have hw1 : IntKind.i64.wrap (2 * n) = r := by rw [IntWalk.i64_in _ (by omega), HR.out]; unfold zigM; rw [if_neg (by omega), if_neg h3]
    go_wp2
    go_ret
    exact ⟨rfl, rfl⟩
theorem q1Size_any (z : Int) (k : Nat) (w : World) (hz : okZ z = true) (hk : k ≤ 24) : Calls Tryz.prog 118 #[.int .i64 z, .int .i64 k] w fun e w' => (∃ s : Nat, e = .returned (.int .i64 s) ∧ s ≤ 56) ∧ w' = w := by
  have hmy : (okZ z && (decide (0 ≤ (k : Int)) && decide ((k : Int) ≤ 24))) = true := by rw [hz]; simp; omega
  unfold okZ at hz
  simp only [Bool.and_eq_true, decide_eq_true_eq] at hz
  obtain ⟨m, rfl⟩ := Int.eq_ofNat_of_zero_le hz.1
  have hwk : IntKind.u64.wrap (k : Int) = k := by simp [IntKind.wrap, IntKind.bits, IntKind.signed]; omega
  have hd : ((m : Int) / 2 ^ k) = ((m / 2 ^ k : Nat) : Int) := by simp
  obtain ⟨q, hq⟩ : ∃ q, q = m / 2 ^ k := ⟨_, rfl⟩
  rw [← hq] at hd
  clear hq hz
  go_enter Tryz.func118, Tryz.ntmps118
  go_wp2_with fail
  refine (q1may_any _ k _).mono ?_
  rintro e w1 ⟨rfl, rfl⟩
  rw [hmy]
  clear hmy
  by_cases hq24 : q < 24
  · have hqi : (q : Int) < 24 := by omega
    have hw1 : IntKind.i64.wrap ((q : Int) + 1) = (q : Int) + 1 := IntWalk.i64_in _ (by omega)
    have hw2 : IntKind.i64.wrap ((q : Int) + 1 + k) = ((q + 1 + k : Nat) : Int) := by rw [IntWalk.i64_in _ (by omega)]; omega
    go_wp2
    go_ret
    exact ⟨⟨q + 1 + k, rfl, by omega⟩, rfl⟩
  · have hqi : ¬ (q : Int) < 24 := by omega
    go_wp2
    go_ret
    exact ⟨⟨56, rfl, by omega⟩, rfl⟩
set_option maxHeartbeats 1000000 in
theorem q1Rice_any (v : Value) (z : Int) (k N : Nat) (w : World) (h : QB w v N) (hN : N ≤ 99000) (hz : okZ z = true) (hk : k ≤ 24) :
    Calls Tryz.prog 94 #[v, .int .i64 z, .int .i64 k] w fun e w' => ∃ u, e = .returned (.tuple #[u, .bool true]) ∧ QB w' u (N + 56) ∧ Bl w w' := by
  have HQ := Lib.hid h
  have hmy : (okZ z && (decide (0 ≤ (k : Int)) && decide ((k : Int) ≤ 24))) = true := by rw [hz]; simp; omega
  unfold okZ at hz
  simp only [Bool.and_eq_true, decide_eq_true_eq] at hz
  obtain ⟨m, rfl⟩ := Int.eq_ofNat_of_zero_le hz.1
  have hwk : IntKind.u64.wrap (k : Int) = k := by simp [IntKind.wrap, IntKind.bits, IntKind.signed]; omega
  have hd : ((m : Int) / 2 ^ k) = ((m / 2 ^ k : Nat) : Int) := by simp
  obtain ⟨q, hq⟩ : ∃ q, q = m / 2 ^ k := ⟨_, rfl⟩
  rw [← hq] at hd
  clear hq h hz
  go_enter Tryz.func94, Tryz.ntmps94
  go_wp2_with fail
  refine (q1may_any _ k _).mono ?_
  rintro e w ⟨rfl, rfl⟩
  rw [hmy]
  clear hmy
  by_cases hq24 : q < 24
  · have hqi : (q : Int) < 24 := by omega
    go_wp2_with fail
    refine (q1Ones_any v q N _ HQ.out (by omega) (by omega)).mono ?_
    rintro e w1 ⟨u1, rfl, hu1, hb1⟩
    have HU1 := Lib.hid hu1
    have HB1 := Lib.hid hb1
    clear hu1 hb1
    go_wp2_with fail
    refine (q1Put_any u1 m k _ _ HU1.out (by omega) (by omega)).mono ?_
    rintro e w2 ⟨u2, rfl, hu2, hb2⟩
    have HU2 := Lib.hid (hu2.mono (show N + q + 1 + k ≤ N + 56 by omega))
    have HB2 := Lib.hid (HB1.out.trans hb2)
    clear hu2 hb2
    go_wp2
    go_ret2
    exact ⟨_, rfl, HU2.out, HB2.out⟩
  · have hqi : ¬ (q : Int) < 24 := by omega
    go_wp2_with fail
    refine (q1Put_any v 16777215 24 N _ HQ.out (by omega) (by decide)).mono ?_
    rintro e w1 ⟨u1, rfl, hu1, hb1⟩
    have HU1 := Lib.hid hu1
    have HB1 := Lib.hid hb1
    clear hu1 hb1
    go_wp2_with fail
    refine (q1Put_any u1 m 32 _ _ HU1.out (by omega) (by omega)).mono ?_
    rintro e w2 ⟨u2, rfl, hu2, hb2⟩
    have HU2 := Lib.hid (hu2.mono (show N + 24 + 32 ≤ N + 56 by omega))
    have HB2 := Lib.hid (HB1.out.trans hb2)
    clear hu2 hb2
    go_wp2
    go_ret2
    exact ⟨_, rfl, HU2.out, HB2.out⟩
end Go.Proofs.YtoocebghlchcoaaGreat.ExtW

/- Contracts, weak ones, of how the document's own digits are made (overdubref01): Best, Bytes. -/
namespace Go.Proofs.YtoocebghlchcoaaGreat.ExtW
open Go.RowKit Go.Ov Go.Proofs.YtoocebghlchcoaaGreat.Need
set_option maxHeartbeats 1000000 in
theorem q1Best_any (v : Value) (l : List Int) (w : World) (h : intE.Is w v l) (hl : l.length ≤ 64) (hz : ∀ z ∈ l, okZ z = true) :
    Calls Tryz.prog 93 #[v] w fun e w' => (∃ b s : Nat, e = .returned (.tuple #[.int .i64 b, .int .i64 s]) ∧ b ≤ 24) ∧ w' = w := by
  obtain ⟨A, c, rfl, h1, h2, h3, h4⟩ := h
  have HA := Lib.hid h4
  have HZ := Lib.hid hz
  clear h1 h2 h3 h4 hz
  go_enter Tryz.func93, Tryz.ntmps93
  go_wp2_with fail
  go_loopg [12] l.length (fun gk i wr => ∃ k : Nat, k ≤ l.length ∧ gk = l.length - k ∧ i = .int .i64 k ∧ wr = w)
  case atStart => exact ⟨0, by omega, rfl, rfl, rfl⟩
  case round =>
    obtain ⟨k, hk, hgk, rfl, hw⟩ := hrel
    obtain rfl : w = wr := hw.symm
    by_cases hlt : k < l.length
    · have hlti : (k : Int) < l.length := by omega
      obtain ⟨ad, rfl, c0⟩ := int_at HA.out k hlt
      have hok := HZ.out _ (List.getElem_mem hlt)
      generalize l[k] = x at *
      have HOk := Lib.hid hok
      clear hok
      go_wp2_with fail
      refine (q1may_any x 0 _).mono ?_
      rintro e w1 ⟨rfl, rfl⟩
      rw [show (okZ x && (decide ((0 : Int) ≤ 0) && decide ((0 : Int) ≤ 24))) = true by rw [HOk.out]; rfl]
      go_wp2
      go_roundg (l.length - (k + 1))
      case measure => omega
      case rel => exact ⟨k + 1, by omega, rfl, by go_num, rfl⟩
    · obtain rfl : k = l.length := by omega
      go_wp2_with fail
      go_loopg [5, 6, 7] 25 (fun gk vb vs vk wr => ∃ b s k : Nat, b ≤ 24 ∧ k ≤ 25 ∧ gk = 25 - k ∧ vb = .int .i64 b ∧ vs = .int .i64 s ∧ vk = .int .i64 k ∧ wr = w)
      case atStart => exact ⟨0, 0, 0, by omega, by omega, rfl, rfl, rfl, rfl, rfl⟩
      case round =>
        obtain ⟨b, s, k, hb, hk, hgk, rfl, rfl, rfl, hw⟩ := hrel
        obtain rfl : w = wr := hw.symm
        by_cases hk25 : k < 25
        · have hki : (k : Int) ≤ 24 := by omega
          go_wp2_with fail
          go_loopg [8, 28] l.length (fun gk vn vi wr => ∃ m n : Nat, m ≤ l.length ∧ gk = l.length - m ∧ vi = .int .i64 m ∧ vn = .int .i64 n ∧ n ≤ 56 * m ∧ wr = w)
          case atStart => exact ⟨0, 0, by omega, rfl, rfl, rfl, by omega, rfl⟩
          case round =>
            obtain ⟨m, n, hm, hgm, rfl, rfl, hn, hw⟩ := hrel
            obtain rfl : w = wr := hw.symm
            by_cases hlt : m < l.length
            · have hlti : (m : Int) < l.length := by omega
              obtain ⟨ad, rfl, c0⟩ := int_at HA.out m hlt
              have HOk := Lib.hid (HZ.out _ (List.getElem_mem hlt))
              generalize l[m] = x at *
              go_wp2_with fail
              refine (q1Size_any x k _ HOk.out (by omega)).mono ?_
              rintro e w1 ⟨⟨t, rfl, ht⟩, rfl⟩
              have hw1 : IntKind.i64.wrap ((n : Int) + t) = ((n + t : Nat) : Int) := by rw [IntWalk.i64_in _ (by omega)]; omega
              go_wp2_with fail
              go_roundg (l.length - (m + 1))
              case measure => omega
              case rel => exact ⟨m + 1, n + t, by omega, rfl, by go_num, rfl, by omega, rfl⟩
            · obtain rfl : m = l.length := by omega
              rcases (show k = 0 ∨ (k ≠ 0 ∧ n < s) ∨ (k ≠ 0 ∧ ¬ n < s) by omega) with h | ⟨h, h2⟩ | ⟨h, h2⟩
              · subst h
                go_wp2_with fail
                go_roundg (25 - (0 + 1))
                case measure => omega
                case rel => exact ⟨0, n, 1, by omega, by omega, rfl, rfl, rfl, rfl, rfl⟩
              · have hi : ¬ (k : Int) = 0 := by omega
                have hi2 : (n : Int) < s := by omega
                go_wp2_with fail
                go_roundg (25 - (k + 1))
                case measure => omega
                case rel => exact ⟨k, n, k + 1, by omega, by omega, rfl, rfl, rfl, by go_num, rfl⟩
              · have hi : ¬ (k : Int) = 0 := by omega
                have hi2 : ¬ (n : Int) < s := by omega
                go_wp2_with fail
                go_roundg (25 - (k + 1))
                case measure => omega
                case rel => exact ⟨b, s, k + 1, by omega, by omega, rfl, rfl, rfl, by go_num, rfl⟩
        · have hki : ¬ (k : Int) ≤ 24 := by omega
          go_wp2
          go_ret2
          exact ⟨⟨b, ⟨s, rfl⟩, hb⟩, rfl⟩
theorem or_ok (a b : Int) : 0 ≤ bits .or .u8 a b ∧ bits .or .u8 a b < 256 := u8_ok _
theorem okB_set {l : List Int} {y : Int} (h : okB l) (i : Nat) (hy : 0 ≤ y ∧ y < 256) : okB (l.set i y) := fun c hc => by
  rcases List.mem_or_eq_of_mem_set hc with h1 | h1
  · exact h c h1
  · rw [h1]; exact hy
theorem byte_put {T : TypeId} {w : World} {base g n cap : Nat} {xs : List Int} (h : byteE.Own T w base (.slice (some ⟨g, 0, none⟩) n cap) xs) (i : Nat) (x : Int) (_ : i < xs.length) :
    byteE.Own T (w.setCell ⟨g, i, none⟩ (.int .u8 x)) base (.slice (some ⟨g, 0, none⟩) n cap) (xs.set i x) := by
  obtain ⟨h1, h2⟩ := h
  rcases h2 with ⟨h2, _⟩ | ⟨g', c, cur, h2, h3, h4, h5, h6, h7, h8⟩
  · cases h2
  · simp at h2
    obtain ⟨rfl, rfl, rfl⟩ := h2
    refine ⟨by rw [flat_len, List.length_set], .inr ⟨g, cap, cur.setIfInBounds i (.int .u8 x), by rw [List.length_set], h3, setCell_at w g i _ cur T _ h4, by rw [List.length_set]; exact h5, h6, by simpa using h7, ?_⟩⟩
    rw [byte_flat, Array.toList_setIfInBounds, List.take_set, List.length_set, h8, byte_flat, List.map_set]
set_option maxRecDepth 100000 in
set_option maxHeartbeats 2000000 in
theorem q1Bytes_any (v : Value) (N : Nat) (w : World) (h : QB w v N) (hN : N ≤ 100000) :
    Calls Tryz.prog 39 #[v] w fun e w' => ∃ u, e = .returned u ∧ QB w' u (N / 8 + 1) ∧ Bl w w' := by
  obtain ⟨xs, hi, ho, hl⟩ := h
  obtain ⟨A, c, rfl, h1, h2, h3, h4⟩ := hi
  have HA := Lib.hid h4
  have HO := Lib.hid ho
  clear h1 h2 h3 h4 ho
  obtain ⟨n, hn⟩ : ∃ n, n = (xs.length + 7) / 8 := ⟨_, rfl⟩
  have hw1 : IntKind.i64.wrap ((xs.length : Int) + 7) = (xs.length : Int) + 7 := IntWalk.i64_in _ (by omega)
  have hd1 : ((xs.length : Int) + 7).tdiv 8 = (n : Int) := by rw [Int.tdiv_eq_ediv_of_nonneg (by omega)]; omega
  have hwn : IntKind.i64.wrap (n : Int) = n := IntWalk.i64_in _ (by omega)
  have HNn := Lib.hid hn
  have hmk : ∀ w, (Instr.makeSlice 25 (.int .i64 (n : Int)) (.int .i64 (n : Int))).run Tryz.prog w = .ok (.slice (some ⟨w.heap.size, 0, none⟩) n n) (w.alloc (.cells (madeCells #[.int .u8 0] n) 5)) := fun w =>
    run_make_row' (P := Tryz.prog) 25 5 (.int .u8 0) 1 Tryz.underlying25 infoByte rfl .i64 .i64 n (by omega) (by omega) w
  clear hn
  go_enter Tryz.func39, Tryz.ntmps39
  go_wp2_with fail
  have HOa := Lib.hid (Enc.Own.lit (E := byteE) (e := 5) w w.heap.size (List.replicate n 0) (madeCells #[.int .u8 0] n) (by rw [toList_madeCells_one, byte_flat, List.map_replicate]) n (by simp) (Nat.le_refl _) (by unfold maxLen; have := HNn.out; omega) rfl)
  go_loopg [12] xs.length (fun gk vi wr => ∃ (j : Nat) (ys : List Int), j ≤ xs.length ∧ gk = xs.length - j ∧ vi = .int .i64 j ∧ Hid (ys.length = n) ∧ Hid (okB ys) ∧ Hid (byteE.Own 5 wr w.heap.size (.slice (some ⟨w.heap.size, 0, none⟩) n n) ys) ∧ Hid (Bl w wr))
  case atStart => exact ⟨0, List.replicate n 0, by omega, rfl, rfl, Lib.hid (by simp), Lib.hid (fun c hc => by rw [(List.mem_replicate.1 hc).2]; omega), HOa, Lib.hid ((Bl.refl _).alloc _)⟩
  clear HOa
  case round =>
    obtain ⟨j, ys, hj, hgj, rfl, HL, HK, HP, HB⟩ := hrel
    by_cases hjn : j < xs.length
    · have hji : (j : Int) < xs.length := by omega
      obtain ⟨ad, rfl, c0⟩ := byte_at HA.out j hjn
      have HC0 := Lib.hid c0
      replace c0 := HB.out.cell c0
      generalize xs[j] = x at *
      obtain ⟨q, hq⟩ : ∃ q, q = j / 8 := ⟨_, rfl⟩
      obtain ⟨r, hr⟩ : ∃ r, r = j % 8 := ⟨_, rfl⟩
      obtain ⟨m, hm⟩ : ∃ m, m = 7 - r := ⟨_, rfl⟩
      have hqn : q < n := by have := HNn.out; omega
      have hqi : (q : Int) < n := by omega
      have e1 : (j : Int).tdiv 8 = (q : Int) := by rw [Int.tdiv_eq_ediv_of_nonneg (by omega)]; omega
      have e2 : (j : Int).tmod 8 = (r : Int) := by rw [Int.tmod_eq_emod_of_nonneg (by omega)]; omega
      have hwq : IntKind.i64.wrap (q : Int) = q := IntWalk.i64_in _ (by omega)
      have hwr : IntKind.i64.wrap (7 - (r : Int)) = (m : Int) := by rw [IntWalk.i64_in _ (by omega)]; omega
      have hwm : IntKind.u64.wrap (m : Int) = m := by simp [IntKind.wrap, IntKind.bits, IntKind.signed]; omega
      obtain ⟨_, _, e3, _, _, _, hat⟩ := (HP.out.bl (Bl.refl _).drew).is
      simp only [Value.slice.injEq] at e3
      obtain ⟨rfl, -, -⟩ := e3
      obtain ⟨ad3, e4, d0⟩ := byte_at hat q (by have := HL.out; omega)
      injection e4 with e4
      subst e4
      rw [add_zero_block] at d0
      generalize ys[q]'(by have := HL.out; omega) = y0 at *
      obtain ⟨⟨u0, hu0⟩, fr0⟩ := (OwnBlk.of (HP.out.bl (Bl.refl _).drew)).cell q (by show q < n * 1; omega)
      clear hat hq hr hm hu0
      go_wp2_with fail
      refine wp_region_ways (S := (fun w'' => w''.cell? (ad.add j) = some (.int .u8 x))) [0, 1, 2, 3, 5, 6, 7, 8, 9, 10, 11, 12, 13, 14, 15] (y := .take 0 (.take 1 (.take 2 (.take 3 (.take 5 (.take 6 (.take 7 (.take 8 (.take 9 (.take 10 (.take 11 (.take 12 (.take 13 (.ev 4 (.take 14 (.take 15 (.ev 16 (.done) (.stop)))) (.stop))))))))))))))) (by kernel_rfl) (by kernel_rfl) (by kernel_rfl) ?_ (fun hHeld => ?_)
      · exact (Bl.refl _).drew.cell c0
      have HHe := Lib.hid hHeld
      clear hHeld
      repeat (first | (refine wpWay_take rfl (by rfl) (by intro w hSw; (try dsimp only at hSw); first | (go_simp; done) | (go_simp; with_reducible rfl)) ?_; try simp only [Act.put, List.setIfInBounds_toArray, List.set_cons_zero, List.set_cons_succ]) | (refine wpWay_skip rfl (by rfl) ?_; try simp only [Act.put, List.setIfInBounds_toArray, List.set_cons_zero, List.set_cons_succ]))
      refine wpWay_ev rfl (fun K hK => ?_) wpWay_stop
      go_wp2_with fail
      refine ⟨HHe.out, ?_⟩
      repeat (first | (refine wpWay_take rfl (by rfl) (by intro w hSw; (try dsimp only at hSw); first | (go_simp; done) | (go_simp; with_reducible rfl)) ?_; try simp only [Act.put, List.setIfInBounds_toArray, List.set_cons_zero, List.set_cons_succ]) | (refine wpWay_skip rfl (by rfl) ?_; try simp only [Act.put, List.setIfInBounds_toArray, List.set_cons_zero, List.set_cons_succ]))
      refine wpWay_ev rfl (fun K hK => ?_) wpWay_stop
      go_wp2_with fail
      have hvk := or_ok y0 (x * 2 ^ min m 8 % 256)
      generalize bits .or .u8 y0 (x * 2 ^ min m 8 % 256) = V at *
      have HPs := Lib.hid ((byte_put HP.out q V (by have := HL.out; omega)).bl (Bl.refl _).drew)
      have HZs := Lib.hid ((HB.out.set w.heap.size q (.int .u8 V) (Nat.le_refl _)).drew)
      refine ⟨HZs.out.cell HC0.out, ?_⟩
      repeat (first | (refine wpWay_take rfl (by rfl) (by intro w hSw; (try dsimp only at hSw); first | (go_simp; done) | (go_simp; with_reducible rfl)) ?_; try simp only [Act.put, List.setIfInBounds_toArray, List.set_cons_zero, List.set_cons_succ]) | (refine wpWay_skip rfl (by rfl) ?_; try simp only [Act.put, List.setIfInBounds_toArray, List.set_cons_zero, List.set_cons_succ]))
      refine wpWay_done ?_
      go_wp2_with fail
      go_roundg (xs.length - (j + 1))
      case measure => omega
      case rel => exact ⟨j + 1, ys.set q V, by omega, rfl, by go_num, Lib.hid (by rw [List.length_set]; exact HL.out), Lib.hid (okB_set HK.out q hvk), HPs, HZs⟩
    · obtain rfl : j = xs.length := by omega
      go_wp2
      go_ret
      exact ⟨_, rfl, ⟨ys, HP.out.is, HK.out, by have := HL.out; have := HNn.out; omega⟩, HB.out⟩
end Go.Proofs.YtoocebghlchcoaaGreat.ExtW

/- Contracts, weak ones, of the document's own frames (overdubref05): sample, residuals, digits. -/
namespace Go.Proofs.YtoocebghlchcoaaGreat.ExtW
open Go.RowKit Go.Ov Go.Proofs.YtoocebghlchcoaaGreat.Need
theorem q5sample_any (v : Value) (z : Int) (N : Nat) (w : World) (h : QB w v N) (hN : N ≤ 90000) :
    Calls Tryz.prog 60 #[v, .int .i64 z] w fun e w' => ∃ u, e = .returned u ∧ QB w' u (N + 24) ∧ Bl w w' := by
  have HQ := Lib.hid h
  clear h
  go_enter Tryz.func60, Tryz.ntmps60
  go_wp2_with fail
  refine (q1Put_any v _ 24 N _ HQ.out (by omega) (by decide)).mono ?_
  rintro e w1 ⟨u1, rfl, hu1, hb1⟩
  have HU1 := Lib.hid hu1
  have HB1 := Lib.hid hb1
  clear hu1 hb1
  go_wp2
  go_ret
  exact ⟨_, rfl, HU1.out, HB1.out⟩
theorem zig_nn (n : Int) : 0 ≤ zigM n := by unfold zigM; split <;> (try split) <;> omega
def ResdP (w w' : World) (N : Nat) (e : Ending) : Prop := Bl w w' ∧ ∃ u ok, e = .returned (.tuple #[u, .bool ok]) ∧ QB w' u N
set_option maxHeartbeats 2000000 in
theorem q5residuals_any (v vl : Value) (r : List Int) (N : Nat) (w : World) (h : QB w v N) (hN : N ≤ 90000) (hr : intE.Is w vl r) (hn : r.length ≤ 64) :
    Calls Tryz.prog 62 #[v, vl] w fun e w' => ResdP w w' (N + 5 + 56 * 64) e := by
  have HQ := Lib.hid h
  obtain ⟨A, c, rfl, h1, h2, h3, h4⟩ := hr
  have HA := Lib.hid h4
  clear h h1 h2 h3 h4
  go_enter Tryz.func62, Tryz.ntmps62
  go_wp2_with fail
  go_loopg [6, 14] r.length (fun gk u i wr => ∃ (k : Nat) (zs : List Int), k ≤ r.length ∧ gk = r.length - k ∧ i = .int .i64 k ∧ Hid (zs.length = k) ∧ Hid (intE.Own 3 wr w.heap.size u zs) ∧ Hid (∀ z ∈ zs, okZ z = true) ∧ Hid (Bl w wr))
  case atStart => exact ⟨0, [], by omega, rfl, rfl, Lib.hid rfl, Lib.hid (Enc.Own.nil _ _ _), Lib.hid (by simp), Lib.hid (Bl.refl _)⟩
  case round =>
    obtain ⟨k, zs, hk, hgk, rfl, HL, HO, HZ, HB⟩ := hrel
    by_cases hkn : k < r.length
    · have hki : (k : Int) < r.length := by omega
      obtain ⟨ad, rfl, c0⟩ := int_at HA.out k hkn
      replace c0 := HB.out.cell c0
      generalize r[k] = x at *
      go_wp2_with fail
      refine (q1Zig_any x _).mono ?_
      rintro e w1 ⟨rfl, rfl⟩
      have hz0 := zig_nn x
      generalize zigM x = z at *
      by_cases hz : 4294967296 ≤ z
      · go_wp2
        go_ret2
        exact ⟨HB.out, _, false, rfl, (HQ.out.bl HB.out).mono (by omega)⟩
      · have HOk := Lib.hid (show okZ z = true by unfold okZ; simp; omega)
        go_wp2_with (at_builtin; refine Enc.Own.append1 (E := intE) rfl (.tmp 25) (.tmp 27) 24 rfl w.heap.size 3 (.int .i64 0) 1 8 Tryz.underlying24 infoIntX rfl rfl (by decide) (by decide) _ zs rfl HO.out z _ rfl rfl rfl (by have := HL.out; omega) HB.out.size ?_; intro u1 w2 ho hg)
        have HO2 := Lib.hid ho
        have HB2 := Lib.hid ((HB.out.alloc _).grown hg (fun g e => (HO.out.lt g e).1))
        clear ho hg
        go_roundg (r.length - (k + 1))
        case measure => omega
        case rel => exact ⟨k + 1, zs ++ [z], by omega, rfl, by go_num, Lib.hid (by rw [List.length_append, HL.out]; rfl), HO2, Lib.hid (fun y hy => by
          rcases List.mem_append.1 hy with h | h
          · exact HZ.out y h
          · rw [List.mem_singleton.1 h]; exact HOk.out), HB2⟩
    · obtain rfl : k = r.length := by omega
      obtain ⟨Az, cz, rfl, -, -, -, hat⟩ := HO.out.is
      have HAz := Lib.hid hat
      have hzl : zs.length ≤ 64 := by have := HL.out; omega
      clear hat
      go_wp2_with fail
      refine (q1Best_any _ zs _ HO.out.is hzl HZ.out).mono ?_
      rintro e w1 ⟨⟨b, s, rfl, hb⟩, rfl⟩
      go_wp2_with fail
      refine (q1Put_any v b 5 N _ (HQ.out.bl HB.out) (by omega) (by decide)).mono ?_
      rintro e w2 ⟨u2, rfl, hu2, hb2⟩
      have HU2 := Lib.hid hu2
      have HB2 := Lib.hid (HB.out.trans hb2)
      have HAz2 := Lib.hid (HAz.out.bl hb2)
      clear hu2 hb2
      go_wp2_with fail
      go_loopg [0, 43] zs.length (fun gk u i wr => ∃ (k : Nat), k ≤ zs.length ∧ gk = zs.length - k ∧ i = .int .i64 k ∧ Hid (QB wr u (N + 5 + 56 * k)) ∧ Hid (Bl w2 wr))
      case atStart => exact ⟨0, by omega, rfl, rfl, HU2, Lib.hid (Bl.refl _)⟩
      case round =>
        obtain ⟨k, hk, hgk, rfl, HU, HBw⟩ := hrel
        by_cases hkn : k < zs.length
        · have hki : (k : Int) < zs.length := by omega
          obtain ⟨ad, rfl, c0⟩ := int_at HAz2.out k hkn
          replace c0 := HBw.out.cell c0
          have HOk := Lib.hid (HZ.out _ (List.getElem_mem hkn))
          generalize zs[k] = z at *
          go_wp2_with fail
          refine (q1Rice_any _ z b (N + 5 + 56 * k) _ HU.out (by omega) HOk.out hb).mono ?_
          rintro e w3 ⟨u3, rfl, hu3, hb3⟩
          have HU3 := Lib.hid (hu3.mono (show N + 5 + 56 * k + 56 ≤ N + 5 + 56 * (k + 1) by omega))
          have HB3 := Lib.hid (HBw.out.trans hb3)
          clear hu3 hb3
          go_wp2_with fail
          go_roundg (zs.length - (k + 1))
          case measure => omega
          case rel => exact ⟨k + 1, by omega, rfl, by go_num, HU3, HB3⟩
        · obtain rfl : k = zs.length := by omega
          go_wp2
          go_ret2
          exact ⟨HB2.out.trans HBw.out, _, true, rfl, HU.out.mono (by omega)⟩
set_option maxRecDepth 100000 in
set_option maxHeartbeats 4000000 in
theorem q5digits_any (v : Value) (l : List Int) (kind : Nat) (w : World) (h : intE.Is w v l) (hk18 : kind ≤ 18) (h1 : 1 ≤ l.length) (hx : chkM l = 0) :
    Calls Tryz.prog 38 #[.int .i64 kind, v] w fun e w' => ResdP w w' 8000 e := by
  have HI := Lib.hid h
  obtain ⟨A, c, rfl, g1, g2, g3, h4⟩ := h
  have HA := Lib.hid h4
  have hl64 := (chk_ok hx).2
  have HX := Lib.hid hx
  clear g1 g2 g3 h4 hx
  have hl1 : ¬ (l.length : Int) < 1 := by omega
  have hk0 : ¬ (kind : Int) < 0 := by omega
  have hki : ¬ (18 : Int) < kind := by omega
  go_enter Tryz.func38, Tryz.ntmps38
  go_wp2_with fail
  refine (q5May_any _ l _ HI.out (by omega)).mono ?_
  rintro e w ⟨rfl, rfl⟩
  rw [HX.out]
  go_wp2_with fail
  refine (q1Put_any _ kind 8 0 _ (QB.nil _ _) (by omega) (by decide)).mono ?_
  rintro e w1 ⟨u1, rfl, hu1, hb1⟩
  have HU1 := Lib.hid hu1
  have HB1 := Lib.hid hb1
  clear hu1 hb1
  go_wp2_with fail
  refine (q1Put_any u1 l.length 8 _ _ HU1.out (by omega) (by decide)).mono ?_
  rintro e w2 ⟨u2, rfl, hu2, hb2⟩
  have HU2 := Lib.hid (hu2.mono (show 0 + 8 + 8 ≤ 16 by omega))
  have HB2 := Lib.hid (HB1.out.trans hb2)
  clear hu2 hb2
  by_cases hkz : kind = 0
  · subst hkz
    obtain ⟨ad, rfl, z0⟩ := int_at HA.out 0 h1
    rw [show ad.add 0 = ad by unfold Addr.add; exact if_pos rfl] at z0
    generalize l[0] = x0 at *
    have hl0 : (0 : Int) < l.length := by omega
    have HZ0 := Lib.hid z0
    have hpos : 0 < l.length := by omega
    clear z0
    go_wp2_with fail
    go_loopg [52] l.length (fun gk i wr => ∃ (k : Nat), k ≤ l.length ∧ gk = l.length - k ∧ i = .int .i64 k ∧ Hid (Bl w wr) ∧ Hid (QB wr u2 16))
    case atStart => exact ⟨0, by omega, rfl, rfl, HB2, HU2⟩
    case round =>
      obtain ⟨k, hk, hgk, rfl, HB, HU⟩ := hrel
      have z0 := HB.out.cell HZ0.out
      by_cases hkn : k < l.length
      · have hki : (k : Int) < l.length := by omega
        obtain ⟨ad', e2, c0⟩ := int_at HA.out k hkn
        injection e2 with e2
        subst e2
        replace c0 := HB.out.cell c0
        generalize l[k] = x at *
        go_wp2_with fail
        refine wp_region_ways (S := (fun w'' => w''.cell? (ad.add k) = some (.int .i64 x) ∧ w''.cell? ad = some (.int .i64 x0))) [0, 1, 2, 3, 4, 5, 6, 7] (y := .take 0 (.take 1 (.take 2 (.take 3 (.take 4 (.take 5 (.take 6 (.take 7 (.done))))))))) (by kernel_rfl) (by kernel_rfl) (by kernel_rfl) ?_ (fun hHeld => ?_)
        · exact ⟨(Bl.refl _).drew.cell c0, (Bl.refl _).drew.cell z0⟩
        clear hHeld
        repeat (first | (refine wpWay_take rfl (by rfl) (by intro w hSw; (try dsimp only at hSw); first | (go_simp; done) | (go_simp; with_reducible rfl)) ?_; try simp only [Act.put, List.setIfInBounds_toArray, List.set_cons_zero, List.set_cons_succ]) | (refine wpWay_skip rfl (by rfl) ?_; try simp only [Act.put, List.setIfInBounds_toArray, List.set_cons_zero, List.set_cons_succ]))
        refine wpWay_done ?_
        have HBd := Lib.hid HB.out.drew
        have HUd := Lib.hid (HU.out.bl (Bl.refl _).drew)
        by_cases hxx : x = x0
        · subst hxx
          go_wp2_with fail
          go_roundg (l.length - (k + 1))
          case measure => omega
          case rel => exact ⟨k + 1, by omega, rfl, by go_num, HBd, HUd⟩
        · go_wp2
          go_ret2
          exact ⟨HBd.out, _, false, rfl, QB.nil _ _⟩
      · obtain rfl : k = l.length := by omega
        go_wp2_with fail
        refine (q5sample_any _ x0 16 _ HU.out (by omega)).mono ?_
        rintro e w3 ⟨u3, rfl, hu3, hb3⟩
        have HU3 := Lib.hid hu3
        have HB3 := Lib.hid (HB.out.trans hb3)
        clear hu3 hb3
        go_wp2
        go_ret2
        exact ⟨HB3.out, _, true, rfl, HU3.out.mono (by omega)⟩
  have hkzi : ¬ (kind : Int) = 0 := by omega
  by_cases hk1 : kind = 1
  · subst hk1
    go_wp2_with fail
    go_loopg [6, 74] l.length (fun gk u i wr => ∃ (k : Nat), k ≤ l.length ∧ gk = l.length - k ∧ i = .int .i64 k ∧ Hid (QB wr u (16 + 24 * k)) ∧ Hid (Bl w wr))
    case atStart => exact ⟨0, by omega, rfl, rfl, HU2, HB2⟩
    case round =>
      obtain ⟨k, hk, hgk, rfl, HU, HB⟩ := hrel
      by_cases hkn : k < l.length
      · have hki : (k : Int) < l.length := by omega
        have hkl : k < l.length := by omega
        have hkli : (k : Int) < l.length := by omega
        obtain ⟨ad, rfl, c0⟩ := int_at HA.out k hkl
        replace c0 := HB.out.cell c0
        generalize l[k] = z at *
        go_wp2_with fail
        refine (q5sample_any _ z (16 + 24 * k) _ HU.out (by omega)).mono ?_
        rintro e w3 ⟨u3, rfl, hu3, hb3⟩
        have HU3 := Lib.hid (hu3.mono (show 16 + 24 * k + 24 ≤ 16 + 24 * (k + 1) by omega))
        have HB3 := Lib.hid (HB.out.trans hb3)
        clear hu3 hb3
        go_wp2_with fail
        go_roundg (l.length - (k + 1))
        case measure => omega
        case rel => exact ⟨k + 1, by omega, rfl, by go_num, HU3, HB3⟩
      · obtain rfl : k = l.length := by omega
        go_wp2
        go_ret2
        exact ⟨HB.out, _, true, rfl, HU.out.mono (by omega)⟩
  have hk1i : ¬ (kind : Int) = 1 := by omega
  by_cases hk6 : kind ≤ 6
  · obtain ⟨o, ho⟩ : ∃ o, o + 2 = kind := ⟨kind - 2, by omega⟩
    have hi6 : (kind : Int) ≤ 6 := by omega
    have hw : IntKind.i64.wrap ((kind : Int) - 2) = (o : Int) := by rw [IntWalk.i64_in _ (by omega)]; omega
    have ho4 : o ≤ 4 := by omega
    clear ho hk6 hkz hk1
    go_wp2_with fail
    refine (q5Residual_w _ l o ho4 _ (HI.out.bl HB2.out) hl64).mono ?_
    rintro e w3 ⟨hb3, u3, r3, c3, rfl, hr3, hrl3, hc3⟩
    have HR3 := Lib.hid hr3
    have HB3 := Lib.hid (HB2.out.trans hb3)
    have HU3 := Lib.hid (HU2.out.bl hb3)
    clear hr3 hb3
    by_cases hcz : c3 = 0
    · subst hcz
      have hol := hc3 rfl
      clear hc3
      go_wp2_with fail
      go_loopg [6, 12] o (fun gk u i wr => ∃ (k : Nat), k ≤ o ∧ gk = o - k ∧ i = .int .i64 k ∧ Hid (QB wr u (16 + 24 * k)) ∧ Hid (Bl w3 wr))
      case atStart => exact ⟨0, by omega, rfl, rfl, HU3, Lib.hid (Bl.refl _)⟩
      case round =>
        obtain ⟨k, hk, hgk, rfl, HU, HB⟩ := hrel
        by_cases hkn : k < o
        · have hki : (k : Int) < o := by omega
          have hkl : k < l.length := by omega
          have hkli : (k : Int) < l.length := by omega
          obtain ⟨ad, rfl, c0⟩ := int_at HA.out k hkl
          replace c0 := HB.out.cell (HB3.out.cell c0)
          generalize l[k] = z at *
          go_wp2_with fail
          refine (q5sample_any _ z (16 + 24 * k) _ HU.out (by omega)).mono ?_
          rintro e w4 ⟨u4, rfl, hu4, hb4⟩
          have HU4 := Lib.hid (hu4.mono (show 16 + 24 * k + 24 ≤ 16 + 24 * (k + 1) by omega))
          have HB4 := Lib.hid (HB.out.trans hb4)
          clear hu4 hb4
          go_wp2_with fail
          go_roundg (o - (k + 1))
          case measure => omega
          case rel => exact ⟨k + 1, by omega, rfl, by go_num, HU4, HB4⟩
        · obtain rfl : k = o := by omega
          go_wp2_with fail
          refine (q5residuals_any _ u3 r3 (16 + 24 * k) _ HU.out (by omega) (HR3.out.bl HB.out) (by omega)).mono ?_
          rintro e w4 ⟨hb4, u4, ok, rfl, hu4⟩
          have HU4 := Lib.hid hu4
          have HB4 := Lib.hid (HB3.out.trans (HB.out.trans hb4))
          clear hu4 hb4
          go_wp2
          go_ret2
          exact ⟨HB4.out, _, ok, rfl, HU4.out.mono (by omega)⟩
    · clear hc3
      go_wp2
      go_ret2
      exact ⟨HB3.out, _, false, rfl, QB.nil _ _⟩
  obtain ⟨o, ho⟩ : ∃ o, o + 6 = kind := ⟨kind - 6, by omega⟩
  have hi6 : ¬ (kind : Int) ≤ 6 := by omega
  have hw : IntKind.i64.wrap ((kind : Int) - 6) = (o : Int) := by rw [IntWalk.i64_in _ (by omega)]; omega
  have ho1 : 1 ≤ o := by omega
  have ho12 : o ≤ 12 := by omega
  clear ho hk6 hkz hk1
  go_wp2_with fail
  refine (q5Coefs_any _ l o _ (HI.out.bl HB2.out) ho1 ho12 HX.out).mono ?_
  rintro e w3 ⟨u3, ok, rfl, hb3, hok⟩
  have HB3 := Lib.hid (HB2.out.trans hb3)
  have HU3 := Lib.hid (HU2.out.bl hb3)
  clear hb3
  cases ok
  · clear hok
    go_wp2
    go_ret2
    exact ⟨HB3.out, _, false, rfl, QB.nil _ _⟩
  · obtain ⟨cs, hol, hcl, -, hcs⟩ := hok rfl
    have HCs := Lib.hid hcs
    obtain ⟨Ac, cc, rfl, -, -, -, hat⟩ := hcs
    have HAc := Lib.hid hat
    have hc12 : cs.length ≤ 12 := by omega
    have hc2 : cs.length < l.length := by omega
    clear hok hat hcl hol
    go_wp2_with fail
    refine (q5LpcResidual_w _ _ l cs _ (HI.out.bl HB3.out) HCs.out hl64 (by omega)).mono ?_
    rintro e w4 ⟨hb4, u4, r4, c4, rfl, hr4, hrl4, -⟩
    have HR4 := Lib.hid hr4
    have HB4 := Lib.hid (HB3.out.trans hb4)
    have HU4 := Lib.hid (HU3.out.bl hb4)
    have HAc4 := Lib.hid (HAc.out.bl hb4)
    clear hr4 hb4
    go_wp2_with fail
    go_loopg [6, 131] cs.length (fun gk u i wr => ∃ (k : Nat), k ≤ cs.length ∧ gk = cs.length - k ∧ i = .int .i64 k ∧ Hid (QB wr u (16 + 24 * k)) ∧ Hid (Bl w4 wr))
    case atStart => exact ⟨0, by omega, rfl, rfl, HU4, Lib.hid (Bl.refl _)⟩
    case round =>
      obtain ⟨k, hk, hgk, rfl, HU, HB⟩ := hrel
      by_cases hkn : k < cs.length
      · have hki : (k : Int) < cs.length := by omega
        have hkl : k < l.length := by omega
        have hkli : (k : Int) < l.length := by omega
        obtain ⟨ad, rfl, c0⟩ := int_at HA.out k hkl
        replace c0 := HB.out.cell (HB4.out.cell c0)
        generalize l[k] = z at *
        go_wp2_with fail
        refine (q5sample_any _ z (16 + 24 * k) _ HU.out (by omega)).mono ?_
        rintro e w5 ⟨u5, rfl, hu5, hb5⟩
        have HU5 := Lib.hid (hu5.mono (show 16 + 24 * k + 24 ≤ 16 + 24 * (k + 1) by omega))
        have HB5 := Lib.hid (HB.out.trans hb5)
        clear hu5 hb5
        go_wp2_with fail
        go_roundg (cs.length - (k + 1))
        case measure => omega
        case rel => exact ⟨k + 1, by omega, rfl, by go_num, HU5, HB5⟩
      · obtain rfl : k = cs.length := by omega
        have HUe := Lib.hid (HU.out.mono (show 16 + 24 * cs.length ≤ 400 by omega))
        go_wp2_with fail
        go_loopg [6, 143] cs.length (fun gk u i wr2 => ∃ (k : Nat), k ≤ cs.length ∧ gk = cs.length - k ∧ i = .int .i64 k ∧ Hid (QB wr2 u (400 + 16 * k)) ∧ Hid (Bl w4 wr2))
        case atStart => exact ⟨0, by omega, rfl, rfl, HUe, HB⟩
        case round =>
          obtain ⟨k, hk, hgk, rfl, HU, HB⟩ := hrel
          by_cases hkn : k < cs.length
          · have hki : (k : Int) < cs.length := by omega
            obtain ⟨ad, rfl, c0⟩ := int_at HAc4.out k hkn
            replace c0 := HB.out.cell c0
            generalize cs[k] = z at *
            go_wp2_with fail
            refine (q1Put_any _ _ 16 (400 + 16 * k) _ HU.out (by omega) (by decide)).mono ?_
            rintro e w5 ⟨u5, rfl, hu5, hb5⟩
            have HU5 := Lib.hid (hu5.mono (show 400 + 16 * k + 16 ≤ 400 + 16 * (k + 1) by omega))
            have HB5 := Lib.hid (HB.out.trans hb5)
            clear hu5 hb5
            go_wp2_with fail
            go_roundg (cs.length - (k + 1))
            case measure => omega
            case rel => exact ⟨k + 1, by omega, rfl, by go_num, HU5, HB5⟩
          · obtain rfl : k = cs.length := by omega
            go_wp2_with fail
            refine (q5residuals_any _ u4 r4 (400 + 16 * cs.length) _ HU.out (by omega) (HR4.out.bl HB.out) (by omega)).mono ?_
            rintro e w5 ⟨hb5, u5, ok, rfl, hu5⟩
            have HU5 := Lib.hid hu5
            have HB5 := Lib.hid (HB4.out.trans (HB.out.trans hb5))
            clear hu5 hb5
            go_wp2
            go_ret2
            exact ⟨HB5.out, _, ok, rfl, HU5.out.mono (by omega)⟩
end Go.Proofs.YtoocebghlchcoaaGreat.ExtW
