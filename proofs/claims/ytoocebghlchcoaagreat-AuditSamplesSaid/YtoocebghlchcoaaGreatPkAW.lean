/- Several texts joined (see each one's head). -/
import Derived.Test.YtoocebghlchcoaaGreatPkAV
import Derived.Test.YtoocebghlchcoaaGreatPkAK
/- Contract of audit.Samples. -/
namespace Go.Proofs.YtoocebghlchcoaaGreat.ExtW
open Go.RowKit Go.Ov Go.Proofs.YtoocebghlchcoaaGreat.Need
/-- what is said of a row on an image -/
def sampR (img : List Int) (l : List Ext) : List Int × Int := if sectorsM img = 0 then ([], 1) else if validFrom 0 l = true then (match smpO img [] l with | some x => (x, 0) | none => ([], 2)) else ([], 2)
set_option maxHeartbeats 1000000 in
theorem aSamples_any (v vl : Value) (img : List Int) (l : List Ext) (w : World) (h : byteE.Is w v img) (hi : img.length ≤ 1000000) (hok : okB img) (hl : extE.Is w vl l) :
    Calls Tryz.prog 10 #[v, vl] w fun e w' => ∃ u, e = .returned (.tuple #[u, .int .i64 (sampR img l).2]) ∧ intE.Own 3 w' w.heap.size u (sampR img l).1 ∧ Bl w w' := by
  have HI := Lib.hid h
  have HX := Lib.hid hl
  obtain ⟨r, hr⟩ : ∃ r, r = sampR img l := ⟨_, rfl⟩
  rw [← hr]
  have HR := Lib.hid hr
  obtain ⟨r1, r2⟩ := r
  clear h hl hr
  go_enter Tryz.func10, Tryz.ntmps10
  go_wp2_with fail
  refine (asectors_any _ img _ HI.out (by omega)).mono ?_
  rintro e w1 ⟨rfl, rfl⟩
  by_cases h0 : sectorsM img = 0
  · have e := HR.out
    unfold sampR at e
    rw [if_pos h0] at e
    injection e with e1 e2
    subst e1
    subst e2
    rw [h0]
    go_wp2
    go_ret2
    exact ⟨_, rfl, Enc.Own.nil _ _ _, Bl.refl _⟩
  · obtain ⟨n, hn⟩ : ∃ n, n = sectorsM img := ⟨_, rfl⟩
    have HS := Lib.hid (HR.out.trans (show _ = _ by unfold sampR; rw [if_neg h0]))
    rw [← hn]
    have hn0 : ¬ n = 0 := by rw [hn]; exact h0
    clear hn h0 HR
    go_wp2_with fail
    refine (valid_any _ l _ HX.out).mono ?_
    rintro e w2 ⟨rfl, hb2⟩
    have HB2 := Lib.hid hb2
    clear hb2
    cases hv : validFrom 0 l
    · have e := HS.out
      rw [hv] at e
      injection e with e1 e2
      subst e1
      subst e2
      go_wp2
      go_ret2
      exact ⟨_, rfl, Enc.Own.nil _ _ _, HB2.out⟩
    · have hbd := validFrom_bd l 0 (by decide) hv
      have hlen : l.length ≤ 1000 := by omega
      have hones := valid_ones l 0 hv
      have e := HS.out
      rw [hv] at e
      have HE := Lib.hid (e.trans (if_pos rfl))
      clear HS e hbd
      go_wp2_with fail
      refine (asamples_any _ _ img l _ (HI.out.bl HB2.out) hi hok (HX.out.bl HB2.out) hlen hones).mono ?_
      rintro e w3 ⟨hp, hb3⟩
      have HB3 := Lib.hid (HB2.out.trans hb3)
      have HSz := Lib.hid HB2.out.size
      clear hb3
      cases hs : smpO img [] l with
      | none =>
        rw [hs] at hp
        obtain rfl := hp
        have e := HE.out
        rw [hs] at e
        injection e with e1 e2
        subst e1
        subst e2
        go_wp2
        go_ret2
        exact ⟨_, rfl, Enc.Own.nil _ _ _, HB3.out⟩
      | some x =>
        rw [hs] at hp
        obtain ⟨u, rfl, hu⟩ := hp
        have HU := Lib.hid (hu.low HSz.out)
        have e := HE.out
        rw [hs] at e
        injection e with e1 e2
        subst e1
        subst e2
        clear hu
        go_wp2
        go_ret2
        exact ⟨_, rfl, HU.out, HB3.out⟩
end Go.Proofs.YtoocebghlchcoaaGreat.ExtW

/- Contracts of the document's own digits (overdubref01): Get, Rest, Zag, may. -/
namespace Go.Proofs.YtoocebghlchcoaaGreat.ExtW
open Go.RowKit Go.Ov Go.Proofs.YtoocebghlchcoaaGreat.Need
/-- digits as bytes -/
def bitE : Enc Bool := ⟨1, fun b => [.int .u8 (bv b)], fun _ => rfl, fun x u h => by simp at h; subst h; rfl⟩
theorem bit_at {w : World} {A : Option Addr} {xs : List Bool} (h : bitE.At w A xs) (k : Nat) (hk : k < xs.length) : ∃ ad, A = some ad ∧ w.cell? (ad.add k) = some (.int .u8 (bv xs[k])) := by
  obtain ⟨ad, e, hc⟩ := h k _ (List.getElem?_eq_getElem hk)
  refine ⟨ad, e, ?_⟩
  have := hc 0 _ rfl
  simpa [bitE] using this
def QGetP (wm w w' : World) (v : Value) (l : List Bool) (n : Nat) (e : Ending) : Prop := Bl w w' ∧ match takeN l n with
  | some p => ∃ u, e = .returned (.tuple #[.int .i64 p.1, u, .bool true]) ∧ bitE.Is wm u p.2
  | none => e = .returned (.tuple #[.int .i64 0, v, .bool false])
set_option maxRecDepth 100000 in
set_option maxHeartbeats 1000000 in
theorem q1Get_any (v : Value) (l : List Bool) (n : Nat) (wm w : World) (h0 : bitE.Is wm v l) (hb : Bl wm w) (hl : l.length ≤ 1000000) (hn : n ≤ 62) :
    Calls Tryz.prog 77 #[v, .int .i64 n] w fun e w' => QGetP wm w w' v l n e := by
  have HI := Lib.hid h0
  have h := h0.bl hb
  clear h0 hb
  obtain ⟨A, c, rfl, h1, h2, h3, h4⟩ := h
  have HA := Lib.hid h4
  have HC := Lib.hid h1
  have g1 : ¬ (n : Int) < 0 := by omega
  have g2 : ¬ (62 : Int) < n := by omega
  clear h1 h2 h3 h4
  go_enter Tryz.func77, Tryz.ntmps77
  by_cases hlt : n ≤ l.length
  · have g3 : ¬ (l.length : Int) < n := by omega
    obtain ⟨V, hV, hVI⟩ := slice_l (E := bitE) (P := Tryz.prog) (t := 94) (by kernel_rfl) (fun w => by kernel_rfl) A c l n (by omega) (by omega)
    have HV := Lib.hid (hVI wm HI.out)
    clear hVI
    go_wp2_with fail
    go_loopg [7, 8] n (fun gk s i wr => ∃ (j : Nat), j ≤ n ∧ gk = n - j ∧ s = .int .i64 (valB (l.take j)) ∧ i = .int .i64 j ∧ wr = w)
    case atStart => exact ⟨0, by omega, rfl, rfl, rfl, rfl⟩
    case round =>
      obtain ⟨j, hj, hgj, rfl, rfl, hw⟩ := hrel
      obtain rfl : w = wr := hw.symm
      by_cases hjn : j < n
      · have hji : (j : Int) < n := by omega
        have hjl : j < l.length := by omega
        have hjli : (j : Int) < l.length := by omega
        obtain ⟨ad, rfl, c0⟩ := bit_at HA.out j hjl
        have hv := valB_lt (l.take j)
        have hv2 : valB (l.take j) < 2305843009213693952 := by
          have : 2 ^ (l.take j).length ≤ 2 ^ 61 := Nat.pow_le_pow_right (by decide) (by rw [List.length_take]; omega)
          omega
        have HVS := Lib.hid (show valB (l.take (j + 1)) = valB (l.take j) * 2 + bv l[j] by rw [List.take_succ_eq_append_getElem hjl, valB_snoc])
        generalize valB (l.take j) = y at *
        have hd : bv l[j] < 2 := by cases l[j] <;> decide
        generalize bv l[j] = d at *
        have hw1 : IntKind.i64.wrap (2 * (y : Int)) = 2 * (y : Int) := IntWalk.i64_in _ (by omega)
        have hw2 : IntKind.i64.wrap (d : Int) = d := IntWalk.i64_in _ (by omega)
        have hw3 : IntKind.i64.wrap (2 * (y : Int) + d) = ((y * 2 + d : Nat) : Int) := by rw [IntWalk.i64_in _ (by omega)]; omega
        go_wp2
        go_roundg (n - (j + 1))
        case measure => omega
        case rel => exact ⟨j + 1, by omega, rfl, by rw [HVS.out, Int.natCast_add, Int.natCast_mul]; rfl, by go_num, rfl⟩
      · obtain rfl : j = n := by omega
        have HT := Lib.hid (show takeN l j = some (valB (l.take j), l.drop j) by unfold takeN; rw [if_pos hlt])
        generalize valB (l.take j) = y at *
        go_wp2_with fail
        refine wp_region_ways (S := (fun _ => True)) [0, 1, 2, 3, 4, 5, 6] (y := .take 0 (.take 1 (.take 2 (.take 3 (.take 4 (.take 5 (.take 6 (.done)))))))) (by kernel_rfl) (by kernel_rfl) (by kernel_rfl) ?_ (fun hHeld => ?_)
        · trivial
        clear hHeld
        repeat (first | (refine wpWay_take rfl (by rfl) (by intro w hSw; (try dsimp only at hSw); first | (go_simp; done) | (go_simp; with_reducible rfl)) ?_; try simp only [Act.put, List.setIfInBounds_toArray, List.set_cons_zero, List.set_cons_succ]) | (refine wpWay_skip rfl (by rfl) ?_; try simp only [Act.put, List.setIfInBounds_toArray, List.set_cons_zero, List.set_cons_succ]))
        refine wpWay_done ?_
        go_wp2
        go_ret3
        refine ⟨(Bl.refl _).drew, ?_⟩
        rw [HT.out]
        exact ⟨V, rfl, HV.out⟩
  · have g3 : (l.length : Int) < n := by omega
    have HT := Lib.hid (show takeN l n = none by unfold takeN; rw [if_neg hlt])
    go_wp2
    go_ret3
    refine ⟨Bl.refl _, ?_⟩
    rw [HT.out]
    rfl
theorem q1Zag_any (z : Int) (w : World) (hz : -9223372036854775808 ≤ z ∧ z ≤ 9223372036854775807) :
    Calls Tryz.prog 108 #[.int .i64 z] w fun e w' => e = .returned (.int .i64 (zagM z)) ∧ w' = w := by
  obtain ⟨r, hr⟩ : ∃ r, r = zagM z := ⟨_, rfl⟩
  rw [← hr]
  have HR := Lib.hid hr
  clear hr
  have hw1 : IntKind.i64.wrap (z + 1) = z + 1 ∨ 2199023255552 ≤ z := by
    by_cases h : 2199023255552 ≤ z
    · exact .inr h
    · exact .inl (IntWalk.i64_in _ (by omega))
  go_enter Tryz.func108, Tryz.ntmps108
  rcases (show z < 0 ∨ (¬ z < 0 ∧ 2199023255552 ≤ z) ∨ (¬ z < 0 ∧ ¬ 2199023255552 ≤ z) by omega) with h | ⟨h, h2⟩ | ⟨h, h2⟩
  · go_wp2
    go_ret
    exact ⟨by rw [HR.out]; unfold zagM; rw [if_pos (.inl h)]; rfl, rfl⟩
  · go_wp2
    go_ret
    exact ⟨by rw [HR.out]; unfold zagM; rw [if_pos (.inr h2)]; rfl, rfl⟩
  · have e1 : z.tmod 2 = z % 2 := Int.tmod_eq_emod_of_nonneg (by omega)
    have e2 : z.tdiv 2 = z / 2 := Int.tdiv_eq_ediv_of_nonneg (by omega)
    have hw : IntKind.i64.wrap (z + 1) = z + 1 := IntWalk.i64_in _ (by omega)
    have hw3 : IntKind.i64.wrap (-(z + 1)) = -(z + 1) := IntWalk.i64_in _ (by omega)
    have hd : (-(z + 1)).tdiv 2 = -((z + 1) / 2) := by rw [Int.neg_tdiv, Int.tdiv_eq_ediv_of_nonneg (by omega)]
    have hw4 : IntKind.i64.wrap (-((z + 1) / 2)) = -((z + 1) / 2) := IntWalk.i64_in _ (by omega)
    have hw5 : IntKind.i64.wrap (z / 2) = z / 2 := IntWalk.i64_in _ (by omega)
    clear hw1
    by_cases ho : z % 2 = 1
    · go_wp2
      go_ret
      exact ⟨by rw [HR.out]; unfold zagM; rw [if_neg (by omega), if_pos ho]; rfl, rfl⟩
    · go_wp2
      go_ret
      exact ⟨by rw [HR.out]; unfold zagM; rw [if_neg (by omega), if_neg ho]; rfl, rfl⟩
theorem q1may_any (z k : Int) (w : World) :
    Calls Tryz.prog 117 #[.int .i64 z, .int .i64 k] w fun e w' => e = .returned (.bool (okZ z && (decide (0 ≤ k) && decide (k ≤ 24)))) ∧ w' = w := by
  obtain ⟨r, hr⟩ : ∃ r, r = (okZ z && (decide (0 ≤ k) && decide (k ≤ 24))) := ⟨_, rfl⟩
  rw [← hr]
  have HR := Lib.hid hr
  clear hr
  go_enter Tryz.func117, Tryz.ntmps117
  have h : ¬ 0 ≤ z ∨ (0 ≤ z ∧ ¬ z < 4294967296) ∨ (0 ≤ z ∧ z < 4294967296 ∧ ¬ 0 ≤ k) ∨ (0 ≤ z ∧ z < 4294967296 ∧ 0 ≤ k ∧ ¬ k ≤ 24) ∨ (0 ≤ z ∧ z < 4294967296 ∧ 0 ≤ k ∧ k ≤ 24) := by omega
  rcases h with h1 | ⟨h1, h2⟩ | ⟨h1, h2, h3⟩ | ⟨h1, h2, h3, h4⟩ | ⟨h1, h2, h3, h4⟩
  all_goals
    first
    | have hb : (okZ z && (decide (0 ≤ k) && decide (k ≤ 24))) = false := by unfold okZ; rw [Bool.eq_false_iff]; simp only [ne_eq, Bool.and_eq_true, decide_eq_true_eq]; omega
    | have hb : (okZ z && (decide (0 ≤ k) && decide (k ≤ 24))) = true := by unfold okZ; simp only [Bool.and_eq_true, decide_eq_true_eq]; omega
    have HB := Lib.hid (HR.out.trans hb)
    clear hb HR
    go_wp2
    go_ret
    exact ⟨by rw [HB.out]; first | rfl | (simp; omega), rfl⟩
theorem q1Rest_any (v : Value) (l : List Bool) (w : World) (h : bitE.Is w v l) (hl : l.length ≤ 1000000) :
    Calls Tryz.prog 82 #[v] w fun e w' => e = .returned (.bool (restO l)) ∧ w' = w := by
  obtain ⟨A, c, rfl, h1, h2, h3, h4⟩ := h
  have HA := Lib.hid h4
  obtain ⟨r, hr⟩ : ∃ r, r = restO l := ⟨_, rfl⟩
  rw [← hr]
  have HR := Lib.hid hr
  clear h1 h2 h3 h4 hr
  go_enter Tryz.func82, Tryz.ntmps82
  go_wp2_with fail
  go_loopg [6] l.length (fun gk i wr => ∃ (j : Nat), j ≤ l.length ∧ gk = l.length - j ∧ i = .int .i64 j ∧ Hid (r = restO (l.drop j)) ∧ wr = w)
  case atStart => exact ⟨0, by omega, rfl, rfl, Lib.hid HR.out, rfl⟩
  case round =>
    obtain ⟨j, hj, hgj, rfl, HE, hw⟩ := hrel
    obtain rfl : w = wr := hw.symm
    by_cases hjn : j < l.length
    · have hji : (j : Int) < l.length := by omega
      obtain ⟨ad, rfl, c0⟩ := bit_at HA.out j hjn
      have HC := Lib.hid (List.drop_eq_getElem_cons hjn)
      cases hb : l[j]
      · rw [hb] at c0
        simp [bv] at c0
        go_wp2
        go_roundg (l.length - (j + 1))
        case measure => omega
        case rel => exact ⟨j + 1, by omega, rfl, by go_num, Lib.hid (by rw [HE.out, HC.out, hb]; rfl), rfl⟩
      · rw [hb] at c0
        simp [bv] at c0
        go_wp2
        go_ret
        exact ⟨by rw [HE.out, HC.out, hb]; rfl, rfl⟩
    · have e : r = true := by rw [HE.out, List.drop_of_length_le (by omega)]; rfl
      subst e
      go_wp2
      go_ret
      exact ⟨rfl, rfl⟩
end Go.Proofs.YtoocebghlchcoaaGreat.ExtW

/- Contracts of the document's own digits (overdubref01): TakeOnes, Of. -/
namespace Go.Proofs.YtoocebghlchcoaaGreat.ExtW
open Go.RowKit Go.Ov Go.Proofs.YtoocebghlchcoaaGreat.Need
def QOnesP (wm w w' : World) (v : Value) (l : List Bool) (n : Nat) (e : Ending) : Prop := Bl w w' ∧ match onesM l n with
  | some p => ∃ u, e = .returned (.tuple #[.int .i64 p.1, u, .bool true]) ∧ bitE.Is wm u p.2 ∧ p.1 ≤ n ∧ p.2.length ≤ l.length
  | none => e = .returned (.tuple #[.int .i64 0, v, .bool false])
theorem ones_step {l : List Bool} {n j : Nat} (h : ∀ i, (hi : i < l.length) → i < j → l[i] = true) (hj : j ≤ l.length) (hn : j ≤ n) :
    onesM l n = (onesM (l.drop j) (n - j)).map fun p => (p.1 + j, p.2) := by
  induction j generalizing l n with
  | zero => simp
  | succ j ih =>
    cases l with
    | nil => simp at hj
    | cons b l =>
      have hb : b = true := h 0 (by simp) (by omega)
      subst hb
      obtain ⟨n, rfl⟩ : ∃ m, n = m + 1 := ⟨n - 1, by omega⟩
      simp only [onesM, if_true]
      rw [ih (l := l) (n := n) (fun i hi hij => by
        have := h (i + 1) (by simp; omega) (by omega)
        simpa using this) (by simpa using hj) (by omega)]
      simp only [List.drop_succ_cons, Option.map_map, Nat.reduceSubDiff]
      congr 1
set_option maxHeartbeats 1000000 in
theorem q1TakeOnes_any (v : Value) (l : List Bool) (n : Nat) (wm w : World) (h0 : bitE.Is wm v l) (hb : Bl wm w) (hl : l.length ≤ 1000000) (hn : n ≤ 1024) :
    Calls Tryz.prog 127 #[v, .int .i64 n] w fun e w' => QOnesP wm w w' v l n e := by
  have HI := Lib.hid h0
  have h := h0.bl hb
  clear h0 hb
  obtain ⟨A, c, rfl, h1, h2, h3, h4⟩ := h
  have HA := Lib.hid h4
  have g1 : ¬ (n : Int) < 0 := by omega
  have g2 : ¬ (1024 : Int) < n := by omega
  clear h1 h2 h3 h4
  go_enter Tryz.func127, Tryz.ntmps127
  go_wp2_with fail
  go_loopg [7] n (fun gk i wr => ∃ (j : Nat), j ≤ n ∧ j ≤ l.length ∧ gk = n - j ∧ i = .int .i64 j ∧ Hid (∀ i, (hi : i < l.length) → i < j → l[i] = true) ∧ wr = w)
  case atStart => exact ⟨0, by omega, by omega, rfl, rfl, Lib.hid (fun i _ h => absurd h (by omega)), rfl⟩
  case round =>
    obtain ⟨j, hj, hjl, hgj, rfl, HE, hw⟩ := hrel
    obtain rfl : w = wr := hw.symm
    have HST := Lib.hid (ones_step HE.out hjl hj)
    by_cases hjn : j < n
    · have hji : (j : Int) < n := by omega
      by_cases hjl2 : j < l.length
      · have hjli : (j : Int) < l.length := by omega
        obtain ⟨ad, rfl, c0⟩ := bit_at HA.out j hjl2
        cases hb : l[j]
        · rw [hb] at c0
          simp [bv] at c0
          have hne : ¬ (j : Int) = n := by omega
          have hne2 : ¬ (j : Int) = l.length := by omega
          have hw1 : IntKind.i64.wrap ((j : Int) + 1) = ((j + 1 : Nat) : Int) := by rw [IntWalk.i64_in _ (by omega)]; omega
          obtain ⟨m, hm⟩ : ∃ m, m = j + 1 := ⟨_, rfl⟩
          rw [← hm] at hw1
          obtain ⟨V, hV, hVI⟩ := slice_l (E := bitE) (P := Tryz.prog) (t := 94) (by kernel_rfl) (fun w => by kernel_rfl) (some ad) c l m (by omega) (by omega)
          have HV := Lib.hid (hVI wm HI.out)
          have HF := Lib.hid (show onesM l n = some (j, l.drop m) by
            rw [HST.out, List.drop_eq_getElem_cons hjl2, hb]
            obtain ⟨k, hk⟩ : ∃ k, n - j = k + 1 := ⟨n - j - 1, by omega⟩
            rw [hk]
            simp [onesM, hm])
          clear hVI hm HST
          go_wp2_with fail
          refine wp_region_ways (S := (fun _ => True)) [0, 1, 2, 3, 4, 5, 6, 7] (y := .take 0 (.take 1 (.take 2 (.take 3 (.take 4 (.take 5 (.take 6 (.take 7 (.done))))))))) (by kernel_rfl) (by kernel_rfl) (by kernel_rfl) ?_ (fun hHeld => ?_)
          · trivial
          clear hHeld
          repeat (first | (refine wpWay_take rfl (by rfl) (by intro w hSw; (try dsimp only at hSw); first | (go_simp; done) | (go_simp; with_reducible rfl)) ?_; try simp only [Act.put, List.setIfInBounds_toArray, List.set_cons_zero, List.set_cons_succ]) | (refine wpWay_skip rfl (by rfl) ?_; try simp only [Act.put, List.setIfInBounds_toArray, List.set_cons_zero, List.set_cons_succ]))
          refine wpWay_done ?_
          go_wp2
          go_ret3
          refine ⟨(Bl.refl _).drew, ?_⟩
          rw [HF.out]
          exact ⟨V, rfl, HV.out, hj, by simp⟩
        · rw [hb] at c0
          simp [bv] at c0
          clear HST
          go_wp2
          go_roundg (n - (j + 1))
          case measure => omega
          case rel => exact ⟨j + 1, by omega, by omega, rfl, by go_num, Lib.hid (fun i hi hij => by
            by_cases h : i < j
            · exact HE.out i hi h
            · obtain rfl : i = j := by omega
              exact hb), rfl⟩
      · have hjli : ¬ (j : Int) < l.length := by omega
        have hne : ¬ (j : Int) = n := by omega
        have hne2 : (j : Int) = l.length := by omega
        have HF := Lib.hid (show onesM l n = none by
          rw [HST.out, List.drop_of_length_le (by omega)]
          obtain ⟨k, hk⟩ : ∃ k, n - j = k + 1 := ⟨n - j - 1, by omega⟩
          rw [hk]
          rfl)
        clear HST
        go_wp2
        go_ret3
        refine ⟨Bl.refl _, ?_⟩
        rw [HF.out]
        rfl
    · have hjn2 : j = n := by omega
      have hji : ¬ (j : Int) < n := by omega
      have hne : (j : Int) = n := by omega
      obtain ⟨V, hV, hVI⟩ := slice_l (E := bitE) (P := Tryz.prog) (t := 94) (by kernel_rfl) (fun w => by kernel_rfl) A c l n (by omega) (by omega)
      have HV := Lib.hid (hVI wm HI.out)
      have HF := Lib.hid (show onesM l n = some (n, l.drop n) by
        rw [HST.out, hjn2, Nat.sub_self]
        cases l.drop n <;> simp [onesM])
      clear hVI HST
      subst hjn2
      clear hne
      go_wp2_with fail
      refine wp_region_ways (S := (fun _ => True)) [0, 1, 2, 3, 4, 5, 6] (y := .take 0 (.take 1 (.take 2 (.take 3 (.take 4 (.take 5 (.take 6 (.done)))))))) (by kernel_rfl) (by kernel_rfl) (by kernel_rfl) ?_ (fun hHeld => ?_)
      · trivial
      clear hHeld
      repeat (first | (refine wpWay_take rfl (by rfl) (by intro w hSw; (try dsimp only at hSw); first | (go_simp; done) | (go_simp; with_reducible rfl)) ?_; try simp only [Act.put, List.setIfInBounds_toArray, List.set_cons_zero, List.set_cons_succ]) | (refine wpWay_skip rfl (by rfl) ?_; try simp only [Act.put, List.setIfInBounds_toArray, List.set_cons_zero, List.set_cons_succ]))
      refine wpWay_done ?_
      go_wp2
      go_ret3
      refine ⟨(Bl.refl _).drew, ?_⟩
      rw [HF.out]
      exact ⟨V, rfl, HV.out, Nat.le_refl _, by simp⟩
end Go.Proofs.YtoocebghlchcoaaGreat.ExtW
