/- Several texts joined (see each one's head). -/
import Derived.Test.YtoocebghlchcoaaGreatPkAW
import Derived.Test.YtoocebghlchcoaaGreatPkAH
import Derived.Test.YtoocebghlchcoaaGreatPkAM
/- Contracts of the document's own digits (overdubref01): TakeRice. -/
namespace Go.Proofs.YtoocebghlchcoaaGreat.ExtW
open Go.RowKit Go.Ov Go.Proofs.YtoocebghlchcoaaGreat.Need
theorem QGetP.cases {wm w w' : World} {v : Value} {l : List Bool} {n : Nat} {e : Ending} (h : QGetP wm w w' v l n e) : Bl w w' ∧ ((∃ x r u, takeN l n = some (x, r) ∧ x < 2 ^ n ∧ r.length ≤ l.length ∧ e = .returned (.tuple #[.int .i64 x, u, .bool true]) ∧ bitE.Is wm u r) ∨ (takeN l n = none ∧ e = .returned (.tuple #[.int .i64 0, v, .bool false]))) := by
  refine ⟨h.1, ?_⟩
  have h2 := h.2
  cases ht : takeN l n with
  | none => rw [ht] at h2; exact .inr ⟨rfl, h2⟩
  | some p =>
    rw [ht] at h2
    obtain ⟨u, h3, h4⟩ := h2
    refine .inl ⟨p.1, p.2, u, rfl, ?_, ?_, h3, h4⟩
    all_goals
      unfold takeN at ht
      split at ht
      · injection ht with ht
        rw [← ht]
        first
        | (have := valB_lt (l.take n); rw [List.length_take, Nat.min_eq_left (by assumption)] at this; exact this)
        | (simp)
      · cases ht
theorem QOnesP.cases {wm w w' : World} {v : Value} {l : List Bool} {n : Nat} {e : Ending} (h : QOnesP wm w w' v l n e) : Bl w w' ∧ ((∃ x r u, onesM l n = some (x, r) ∧ x ≤ n ∧ r.length ≤ l.length ∧ e = .returned (.tuple #[.int .i64 x, u, .bool true]) ∧ bitE.Is wm u r) ∨ (onesM l n = none ∧ e = .returned (.tuple #[.int .i64 0, v, .bool false]))) := by
  refine ⟨h.1, ?_⟩
  have h2 := h.2
  cases ht : onesM l n with
  | none => rw [ht] at h2; exact .inr ⟨rfl, h2⟩
  | some p =>
    rw [ht] at h2
    obtain ⟨u, h3, h4, h5, h6⟩ := h2
    exact .inl ⟨p.1, p.2, u, rfl, h5, h6, h3, h4⟩
/-- a number read: it, and what is behind; or none -/
def QReadP (wm w w' : World) (v : Value) (L : Nat) (o : Option (Nat × List Bool)) (e : Ending) : Prop := Bl w w' ∧ ((∃ x r u, o = some (x, r) ∧ x < 2199023255552 ∧ r.length ≤ L ∧ e = .returned (.tuple #[.int .i64 x, u, .bool true]) ∧ bitE.Is wm u r) ∨ (o = none ∧ e = .returned (.tuple #[.int .i64 0, v, .bool false])))
set_option maxHeartbeats 2000000 in
theorem q1TakeRice_any (v : Value) (l : List Bool) (k : Nat) (wm w : World) (h0 : bitE.Is wm v l) (hb : Bl wm w) (hl : l.length ≤ 1000000) (hk : k ≤ 24) :
    Calls Tryz.prog 107 #[v, .int .i64 k] w fun e w' => QReadP wm w w' v l.length (riceO l k) e := by
  have HI := Lib.hid h0
  have HB0 := Lib.hid hb
  have hmy : (okZ 0 && (decide (0 ≤ (k : Int)) && decide ((k : Int) ≤ 24))) = true := by unfold okZ; simp; omega
  have hwk : IntKind.u64.wrap (k : Int) = k := by simp [IntKind.wrap, IntKind.bits, IntKind.signed]; omega
  clear h0 hb
  obtain ⟨o, ho⟩ : ∃ o, o = riceO l k := ⟨_, rfl⟩
  rw [← ho]
  have HO := Lib.hid ho
  clear ho
  go_enter Tryz.func107, Tryz.ntmps107
  go_wp2_with fail
  refine (q1may_any 0 k _).mono ?_
  rintro e w0 ⟨rfl, rfl⟩
  rw [hmy]
  go_wp2_with fail
  refine (q1TakeOnes_any v l 24 wm _ HI.out HB0.out hl (by decide)).mono ?_
  rintro e w1 hp
  obtain ⟨hb1, hp⟩ := hp.cases
  rcases hp with ⟨q, r, u, hon, hq, hr, rfl, hu⟩ | ⟨hon, rfl⟩
  · have HU := Lib.hid hu
    have HB1 := Lib.hid hb1
    have HOn := Lib.hid hon
    clear hu hb1 hon
    by_cases hq24 : q < 24
    · have hqi : (q : Int) < 24 := by omega
      go_wp2_with fail
      refine (q1Get_any u r k wm _ HU.out (HB0.out.trans HB1.out) (by omega) (by omega)).mono ?_
      rintro e w2 hp
      obtain ⟨hb2, hp⟩ := hp.cases
      rcases hp with ⟨x, r2, u2, hta, hx, hr2, rfl, hu2⟩ | ⟨hta, rfl⟩
      · have hwq := wrap_rice q k hq24 hk
        have hp2 : 2 ^ k ≤ 2 ^ 24 := Nat.pow_le_pow_right (by decide) hk
        have hm : q * 2 ^ k ≤ 24 * 2 ^ 24 := Nat.mul_le_mul (by omega) hp2
        have hw2 : IntKind.i64.wrap ((q : Int) * 2 ^ k + x) = ((q * 2 ^ k + x : Nat) : Int) := by
          have e : ((q : Int) * 2 ^ k) = ((q * 2 ^ k : Nat) : Int) := by simp
          rw [e, IntWalk.i64_in _ (by omega)]; omega
        have HF := Lib.hid (show o = some (q * 2 ^ k + x, r2) by
          rw [HO.out]
          unfold riceO
          rw [HOn.out]
          simp only [Option.bind_some]
          rw [if_neg (by omega), hta]
          simp only [Option.bind_some]
          rw [if_pos hq24])
        have HU2 := Lib.hid hu2
        have HB2 := Lib.hid (HB1.out.trans hb2)
        have hlt : q * 2 ^ k + x < 2199023255552 := by omega
        clear hta hu2 hb2 hm hp2
        go_wp2
        go_ret3
        refine ⟨HB2.out, .inl ⟨_, r2, u2, HF.out, hlt, by omega, ?_, ?_⟩⟩
        · first | rfl | (rw [← hw2]; rfl)
        · exact HU2.out
      · have HF := Lib.hid (show o = none by
          rw [HO.out]
          unfold riceO
          rw [HOn.out]
          simp only [Option.bind_some]
          rw [if_neg (by omega), hta]
          rfl)
        have HB2 := Lib.hid (HB1.out.trans hb2)
        clear hta hb2
        go_wp2
        go_ret3
        exact ⟨HB2.out, .inr ⟨HF.out, rfl⟩⟩
    · have hqi : ¬ (q : Int) < 24 := by omega
      obtain rfl : q = 24 := by omega
      go_wp2_with fail
      refine (q1Get_any u r 32 wm _ HU.out (HB0.out.trans HB1.out) (by omega) (by omega)).mono ?_
      rintro e w2 hp
      obtain ⟨hb2, hp⟩ := hp.cases
      rcases hp with ⟨x, r2, u2, hta, hx, hr2, rfl, hu2⟩ | ⟨hta, rfl⟩
      · have HF := Lib.hid (show o = if x / 2 ^ k < 24 then none else some (x, r2) by
          rw [HO.out]
          unfold riceO
          rw [HOn.out]
          simp only [Option.bind_some]
          rw [if_pos trivial, hta]
          simp only [Option.bind_some]
          rw [if_neg (by omega)])
        have HU2 := Lib.hid hu2
        have HB2 := Lib.hid (HB1.out.trans hb2)
        have hdv : (x : Int) / 2 ^ k = ((x / 2 ^ k : Nat) : Int) := by simp
        obtain ⟨y, hy⟩ : ∃ y, y = x / 2 ^ k := ⟨_, rfl⟩
        rw [← hy] at hdv HF
        clear hta hu2 hb2 hy
        by_cases hy24 : y < 24
        · have hyi : (y : Int) < 24 := by omega
          have HF2 := Lib.hid (HF.out.trans (if_pos hy24))
          go_wp2
          go_ret3
          exact ⟨HB2.out, .inr ⟨HF2.out, rfl⟩⟩
        · have hyi : ¬ (y : Int) < 24 := by omega
          have HF2 := Lib.hid (HF.out.trans (if_neg hy24))
          have hlt : x < 2199023255552 := by omega
          go_wp2
          go_ret3
          refine ⟨HB2.out, .inl ⟨_, r2, u2, HF2.out, hlt, by omega, rfl, ?_⟩⟩
          exact HU2.out
      · have HF := Lib.hid (show o = none by
          rw [HO.out]
          unfold riceO
          rw [HOn.out]
          simp only [Option.bind_some]
          rw [if_pos trivial, hta]
          rfl)
        have HB2 := Lib.hid (HB1.out.trans hb2)
        clear hta hb2
        go_wp2
        go_ret3
        exact ⟨HB2.out, .inr ⟨HF.out, rfl⟩⟩
  · have HF := Lib.hid (show o = none by
      rw [HO.out]
      unfold riceO
      rw [hon]
      rfl)
    have HB1 := Lib.hid hb1
    clear hon hb1
    go_wp2
    go_ret3
    exact ⟨HB1.out, .inr ⟨HF.out, rfl⟩⟩
end Go.Proofs.YtoocebghlchcoaaGreat.ExtW

/- Contracts of the document's own frames (overdubref05): samples, takeResiduals. -/
namespace Go.Proofs.YtoocebghlchcoaaGreat.ExtW
open Go.RowKit Go.Ov Go.Proofs.YtoocebghlchcoaaGreat.Need
/-- so many were read, or not -/
def QManyP (wm w w' : World) (o : Option (List Int × List Bool)) (L n : Nat) (e : Ending) : Prop := Bl w w' ∧ ((∃ xs r u t, o = some (xs, r) ∧ xs.length = n ∧ r.length ≤ L ∧ e = .returned (.tuple #[t, u, .bool true]) ∧ intE.Own 3 w' w.heap.size t xs ∧ bitE.Is wm u r) ∨ (o = none ∧ ∃ u, e = .returned (.tuple #[.slice none 0 0, u, .bool false])))
theorem sample_of {l r : List Bool} {x : Nat} (h : takeN l 24 = some (x, r)) : sampleO l = some ((x : Int) - 8388608, r) := by unfold sampleO; rw [h]; rfl
theorem many_next {α : Type} {f : List Bool → Option (α × List Bool)} {k : Nat} {l m r : List Bool} {xs : List α} {x : α} (h : manyO f k l = some (xs, m)) (h2 : f m = some (x, r)) : manyO f (k + 1) l = some (xs ++ [x], r) := by
  rw [many_snoc, h]; simp [h2]
theorem many_stop {α : Type} {f : List Bool → Option (α × List Bool)} {k n : Nat} {l m : List Bool} {xs : List α} (h : manyO f k l = some (xs, m)) (h2 : f m = none) (hk : k < n) : manyO f n l = none :=
  many_mono f (j := k + 1) (by rw [many_snoc, h]; simp [h2]) n (by omega)
set_option maxHeartbeats 1000000 in
theorem q5samples_any (v : Value) (l : List Bool) (n : Nat) (wm w : World) (h : bitE.Is wm v l) (hb0 : Bl wm w) (hl : l.length ≤ 1000000) (hn : n ≤ 64) :
    Calls Tryz.prog 78 #[v, .int .i64 n] w fun e w' => QManyP wm w w' (manyO sampleO n l) l.length n e := by
  have HI := Lib.hid h
  have HB0 := Lib.hid hb0
  clear h hb0
  obtain ⟨o, ho⟩ : ∃ o, o = manyO sampleO n l := ⟨_, rfl⟩
  rw [← ho]
  have HM := Lib.hid ho
  clear ho
  go_enter Tryz.func78, Tryz.ntmps78
  go_wp2_with fail
  go_loopg [0, 7, 8] n (fun gk b u i wr => ∃ (k : Nat) (xs : List Int) (r : List Bool), k ≤ n ∧ gk = n - k ∧ i = .int .i64 k ∧ Hid (xs.length = k) ∧ Hid (r.length ≤ l.length) ∧ Hid (intE.Own 3 wr w.heap.size u xs) ∧ Hid (bitE.Is wm b r) ∧ Hid (Bl w wr) ∧ Hid (manyO sampleO k l = some (xs, r)))
  case atStart => exact ⟨0, [], l, by omega, rfl, rfl, Lib.hid rfl, Lib.hid (Nat.le_refl _), Lib.hid (Enc.Own.nil _ _ _), HI, Lib.hid (Bl.refl _), Lib.hid rfl⟩
  case round =>
    obtain ⟨k, xs, r, hk, hgk, rfl, HL, HRl, HO, HB, HBl, HMk⟩ := hrel
    by_cases hkn : k < n
    · have hki : (k : Int) < n := by omega
      obtain ⟨A, c, rfl⟩ := HO.out.slice
      go_wp2_with fail
      refine (q1Get_any _ r 24 wm _ HB.out (HB0.out.trans HBl.out) (Nat.le_trans HRl.out hl) (by decide)).mono ?_
      rintro e w1 hp
      obtain ⟨hb1, hp⟩ := hp.cases
      rcases hp with ⟨x, r2, u2, hta, hx, hr2, rfl, hu2⟩ | ⟨hta, rfl⟩
      · have hx24 : x < 16777216 := hx
        have HN := Lib.hid (many_next HMk.out (sample_of hta))
        have HR2 := Lib.hid (Nat.le_trans hr2 HRl.out)
        have HU2 := Lib.hid hu2
        have HO1 := Lib.hid (HO.out.bl hb1)
        have HB1 := Lib.hid (HBl.out.trans hb1)
        obtain ⟨y, hy⟩ : ∃ y : Int, y = (x : Int) - 8388608 := ⟨_, rfl⟩
        rw [← hy] at HN
        have hw1 : IntKind.i64.wrap ((x : Int) + -8388608) = y := by rw [IntWalk.i64_in _ (by omega)]; omega
        clear hta hu2 hb1 hy hx
        go_wp2_with (at_builtin; refine Enc.Own.append1 (E := intE) rfl (.tmp 26) (.tmp 29) 24 rfl w.heap.size 3 (.int .i64 0) 1 8 Tryz.underlying24 infoIntF rfl rfl (by decide) (by decide) _ xs rfl HO1.out y _ rfl rfl rfl (by have := HL.out; omega) HB1.out.size ?_; intro u3 w3 ho hg)
        have HO3 := Lib.hid ho
        have hb3 := ((Bl.refl w1).alloc (.cells #[.int .i64 y] 3))
        have hr := fun g e => (HO1.out.lt g e).1
        have HB3 := Lib.hid ((HB1.out.trans hb3).grown hg hr)
        clear ho hg hb3 hr
        go_roundg (n - (k + 1))
        case measure => omega
        case rel => exact ⟨k + 1, xs ++ [y], r2, by omega, rfl, by go_num, Lib.hid (by rw [List.length_append, HL.out]; rfl), HR2, HO3, HU2, HB3, HN⟩
      · have HF := Lib.hid (HM.out.trans (many_stop HMk.out (show sampleO r = none by unfold sampleO; rw [hta]; rfl) hkn))
        have HB1 := Lib.hid (HBl.out.trans hb1)
        clear hta hb1
        go_wp2
        go_ret3
        exact ⟨HB1.out, .inr ⟨HF.out, _, rfl⟩⟩
    · obtain rfl : k = n := by omega
      go_wp2
      go_ret3
      exact ⟨HBl.out, .inl ⟨xs, r, _, _, by rw [HM.out, HMk.out], HL.out, HRl.out, rfl, HO.out, HB.out⟩⟩
theorem resO_of {l r : List Bool} {x n : Nat} (h : takeN l 5 = some (x, r)) (hx : x ≤ 24) : resO n l = manyO (riceZ x) n r := by
  unfold resO
  rw [h]
  simp only [Option.bind_some]
  rw [if_neg (by omega)]
  rfl
set_option maxHeartbeats 1000000 in
theorem q5takeRes_any (v : Value) (l : List Bool) (n : Nat) (wm w : World) (h : bitE.Is wm v l) (hb0 : Bl wm w) (hl : l.length ≤ 1000000) (hn : n ≤ 64) :
    Calls Tryz.prog 79 #[v, .int .i64 n] w fun e w' => QManyP wm w w' (resO n l) l.length n e := by
  have HI := Lib.hid h
  have HB0 := Lib.hid hb0
  clear h hb0
  obtain ⟨o, ho⟩ : ∃ o, o = resO n l := ⟨_, rfl⟩
  rw [← ho]
  have HM := Lib.hid ho
  clear ho
  go_enter Tryz.func79, Tryz.ntmps79
  go_wp2_with fail
  refine (q1Get_any v l 5 wm _ HI.out HB0.out hl (by decide)).mono ?_
  rintro e w0 hp
  obtain ⟨hb1, hp⟩ := hp.cases
  have HBs := Lib.hid hb1
  clear hb1
  rcases hp with ⟨x, r0, u0, hta, hx, hr0, rfl, hu0⟩ | ⟨hta, rfl⟩
  · by_cases hx24 : 24 < x
    · have hxi : (24 : Int) < x := by omega
      have HF := Lib.hid (show o = none by rw [HM.out]; unfold resO; rw [hta]; simp only [Option.bind_some]; rw [if_pos hx24])
      clear hta hu0
      go_wp2
      go_ret3
      exact ⟨HBs.out, .inr ⟨HF.out, _, rfl⟩⟩
    · have hxi : ¬ (24 : Int) < x := by omega
      have HM2 := Lib.hid (HM.out.trans (resO_of (n := n) hta (by omega)))
      have HU0 := Lib.hid hu0
      clear hta hu0 HM
      have HR0 := Lib.hid hr0
      clear hr0
      go_wp2_with fail
      go_loopg [0, 9, 10] n (fun gk b u i wr => ∃ (k : Nat) (xs : List Int) (r : List Bool), k ≤ n ∧ gk = n - k ∧ i = .int .i64 k ∧ Hid (xs.length = k) ∧ Hid (r.length ≤ l.length) ∧ Hid (intE.Own 3 wr w.heap.size u xs) ∧ Hid (bitE.Is wm b r) ∧ Hid (Bl w wr) ∧ Hid (manyO (riceZ x) k r0 = some (xs, r)))
      case atStart => exact ⟨0, [], r0, by omega, rfl, rfl, Lib.hid rfl, HR0, Lib.hid (Enc.Own.nil _ _ _), HU0, HBs, Lib.hid rfl⟩
      case round =>
        obtain ⟨k, xs, r, hk, hgk, rfl, HL, HRl, HO, HB, HBl, HMk⟩ := hrel
        by_cases hkn : k < n
        · have hki : (k : Int) < n := by omega
          obtain ⟨A, c, rfl⟩ := HO.out.slice
          go_wp2_with fail
          refine (q1TakeRice_any _ r x wm _ HB.out (HB0.out.trans HBl.out) (Nat.le_trans HRl.out hl) (by omega)).mono ?_
          rintro e w1 hp
          obtain ⟨hb1, hp⟩ := hp
          rcases hp with ⟨z, r2, u2, hta, hz, hr2, rfl, hu2⟩ | ⟨hta, rfl⟩
          · have HN := Lib.hid (many_next HMk.out (show riceZ x r = some (zagM z, r2) by unfold riceZ; rw [hta]; rfl))
            have HR2 := Lib.hid (Nat.le_trans hr2 HRl.out)
            have HU2 := Lib.hid hu2
            have HO1 := Lib.hid (HO.out.bl hb1)
            have HB1 := Lib.hid (HBl.out.trans hb1)
            clear hta hu2 hb1
            go_wp2_with fail
            refine (q1Zag_any z _ (by omega)).mono ?_
            rintro e w2 ⟨rfl, rfl⟩
            generalize zagM (z : Int) = y at *
            go_wp2_with (at_builtin; refine Enc.Own.append1 (E := intE) rfl (.tmp 42) (.tmp 45) 24 rfl w.heap.size 3 (.int .i64 0) 1 8 Tryz.underlying24 infoIntF rfl rfl (by decide) (by decide) _ xs rfl HO1.out y _ rfl rfl rfl (by have := HL.out; omega) HB1.out.size ?_; intro u3 w3 ho hg)
            have HO3 := Lib.hid ho
            have HB3 := Lib.hid ((HB1.out.alloc _).grown hg (fun g e => (HO1.out.lt g e).1))
            clear ho hg
            go_roundg (n - (k + 1))
            case measure => omega
            case rel => exact ⟨k + 1, xs ++ [y], r2, by omega, rfl, by go_num, Lib.hid (by rw [List.length_append, HL.out]; rfl), HR2, HO3, HU2, HB3, HN⟩
          · have HF := Lib.hid (HM2.out.trans (many_stop HMk.out (show riceZ x r = none by unfold riceZ; rw [hta]; rfl) hkn))
            have HB1 := Lib.hid (HBl.out.trans hb1)
            clear hta hb1
            go_wp2
            go_ret3
            exact ⟨HB1.out, .inr ⟨HF.out, _, rfl⟩⟩
        · obtain rfl : k = n := by omega
          go_wp2
          go_ret3
          exact ⟨HBl.out, .inl ⟨xs, r, _, _, by rw [HM2.out, HMk.out], HL.out, HRl.out, rfl, HO.out, HB.out⟩⟩
  · have HF := Lib.hid (show o = none by rw [HM.out]; unfold resO; rw [hta]; rfl)
    clear hta
    go_wp2
    go_ret3
    exact ⟨HBs.out, .inr ⟨HF.out, _, rfl⟩⟩
end Go.Proofs.YtoocebghlchcoaaGreat.ExtW

/- Contracts of the document's own predictors (overdubref05): May, Fixed, MayCoefs, told, down, Guess. -/
namespace Go.Proofs.YtoocebghlchcoaaGreat.ExtW
open Go.RowKit Go.Ov Go.Proofs.YtoocebghlchcoaaGreat.Need
theorem q5May_any (v : Value) (l : List Int) (w : World) (h : intE.Is w v l) (hn : l.length ≤ 1000000) :
    Calls Tryz.prog 37 #[v] w fun e w' => e = .returned (.int .i64 (chkM l)) ∧ w' = w := by
  obtain ⟨A, c, rfl, h1, h2, h3, h4⟩ := h
  have HA := Lib.hid h4
  clear h1 h2 h3 h4
  obtain ⟨r, hr⟩ : ∃ r, r = chkM l := ⟨_, rfl⟩
  rw [← hr]
  have HR := Lib.hid hr
  clear hr
  go_enter Tryz.func37, Tryz.ntmps37
  go_wp2_with fail
  go_loopg [6] l.length (fun gk i wr => ∃ k : Nat, k ≤ l.length ∧ gk = l.length - k ∧ i = .int .i64 k ∧ Hid ((l.take k).all okS = true) ∧ wr = w)
  case atStart => exact ⟨0, by omega, rfl, rfl, Lib.hid (by simp), rfl⟩
  case round =>
    obtain ⟨k, hk, hgk, rfl, HK, hw⟩ := hrel
    obtain rfl : w = wr := hw.symm
    by_cases hlt : k < l.length
    · have hlti : (k : Int) < l.length := by omega
      obtain ⟨ad, rfl, c0⟩ := int_at HA.out k hlt
      obtain ⟨x, hx⟩ : ∃ x, x = l[k] := ⟨_, rfl⟩
      rw [← hx] at c0
      have HX := Lib.hid hx
      clear hx
      have hbad : okS x = false → r = 8 := fun hz => by
        rw [HR.out]
        unfold chkM
        rw [if_neg]
        intro h
        rw [List.all_eq_true] at h
        have := h _ (List.getElem_mem hlt)
        rw [← HX.out, hz] at this
        cases this
      rcases (show x < -8388608 ∨ (¬ x < -8388608 ∧ 8388607 < x) ∨ (¬ x < -8388608 ∧ ¬ 8388607 < x) by omega) with h1 | ⟨h1, h2⟩ | ⟨h1, h2⟩
      · obtain rfl := hbad (by unfold okS; rw [Bool.eq_false_iff]; simp; omega)
        go_wp2
        go_ret
        exact ⟨rfl, rfl⟩
      · obtain rfl := hbad (by unfold okS; rw [Bool.eq_false_iff]; simp; omega)
        go_wp2
        go_ret
        exact ⟨rfl, rfl⟩
      · have hz : okS x = true := by unfold okS; simp; omega
        have HZ := Lib.hid hz
        clear hbad hz
        go_wp2
        go_roundg (l.length - (k + 1))
        case measure => omega
        case rel => exact ⟨k + 1, by omega, rfl, by go_num, Lib.hid (by rw [List.take_succ_eq_append_getElem hlt, List.all_append, HK.out, ← HX.out]; simp [HZ.out]), rfl⟩
    · obtain rfl : k = l.length := by omega
      have e : chkM l = if 64 < l.length then 4 else 0 := by
        unfold chkM
        rw [if_pos (by have := HK.out; rwa [List.take_of_length_le (Nat.le_refl _)] at this)]
      have HE := Lib.hid (HR.out.trans e)
      clear e HR
      rcases (show 64 < l.length ∨ ¬ 64 < l.length by omega) with h | h
      · have hi : (64 : Int) < l.length := by omega
        have e := HE.out.trans (if_pos h)
        subst e
        go_wp2
        go_ret
        exact ⟨rfl, rfl⟩
      · have hi : ¬ (64 : Int) < l.length := by omega
        have e := HE.out.trans (if_neg h)
        subst e
        go_wp2
        go_ret
        exact ⟨rfl, rfl⟩
theorem q5Fixed_any (o : Nat) (ho : o ≤ 4) (w : World) : Calls Tryz.prog 116 #[.int .i64 o] w fun e w' => ∃ u, e = .returned u ∧ intE.Own 3 w' w.heap.size u (fixC o) ∧ Bl w w' := by
  go_enter Tryz.func116, Tryz.ntmps116
  match o, ho with
  | 0, _ =>
    go_wp2
    go_ret
    exact ⟨_, rfl, Enc.Own.nil _ _ _, Bl.refl _⟩
  | 1, _ =>
    go_wp2
    go_ret
    exact ⟨_, rfl, Enc.Own.lit (E := intE) w _ [1] _ rfl 1 rfl (Nat.le_refl _) (by decide) rfl, (Bl.refl _).alloc _⟩
  | 2, _ =>
    go_wp2
    go_ret
    exact ⟨_, rfl, Enc.Own.lit (E := intE) w _ [2, -1] _ rfl 2 rfl (Nat.le_refl _) (by decide) rfl, (Bl.refl _).alloc _⟩
  | 3, _ =>
    go_wp2
    go_ret
    exact ⟨_, rfl, Enc.Own.lit (E := intE) w _ [3, -3, 1] _ rfl 3 rfl (Nat.le_refl _) (by decide) rfl, (Bl.refl _).alloc _⟩
  | 4, _ =>
    go_wp2
    go_ret
    exact ⟨_, rfl, Enc.Own.lit (E := intE) w _ [4, -6, 4, -1] _ rfl 4 rfl (Nat.le_refl _) (by decide) rfl, (Bl.refl _).alloc _⟩
theorem q5MayCoefs_any (v : Value) (l : List Int) (w : World) (h : intE.Is w v l) (hn : l.length ≤ 1000000) :
    Calls Tryz.prog 98 #[v] w fun e w' => e = .returned (.bool (mayC l)) ∧ w' = w := by
  obtain ⟨A, c, rfl, h1, h2, h3, h4⟩ := h
  have HA := Lib.hid h4
  clear h1 h2 h3 h4
  obtain ⟨r, hr⟩ : ∃ r, r = mayC l := ⟨_, rfl⟩
  rw [← hr]
  have HR := Lib.hid hr
  clear hr
  go_enter Tryz.func98, Tryz.ntmps98
  go_wp2_with fail
  go_loopg [6] l.length (fun gk i wr => ∃ k : Nat, k ≤ l.length ∧ gk = l.length - k ∧ i = .int .i64 k ∧ Hid ((l.take k).all okC = true) ∧ wr = w)
  case atStart => exact ⟨0, by omega, rfl, rfl, Lib.hid (by simp), rfl⟩
  case round =>
    obtain ⟨k, hk, hgk, rfl, HK, hw⟩ := hrel
    obtain rfl : w = wr := hw.symm
    by_cases hlt : k < l.length
    · have hlti : (k : Int) < l.length := by omega
      obtain ⟨ad, rfl, c0⟩ := int_at HA.out k hlt
      obtain ⟨x, hx⟩ : ∃ x, x = l[k] := ⟨_, rfl⟩
      rw [← hx] at c0
      have HX := Lib.hid hx
      clear hx
      have hbad : okC x = false → r = false := fun hz => by
        rw [HR.out]
        unfold mayC
        rw [Bool.eq_false_iff]
        intro h
        rw [Bool.and_eq_true, List.all_eq_true] at h
        have := h.1 _ (List.getElem_mem hlt)
        rw [← HX.out, hz] at this
        cases this
      rcases (show x < -32768 ∨ (¬ x < -32768 ∧ 32767 < x) ∨ (¬ x < -32768 ∧ ¬ 32767 < x) by omega) with h1 | ⟨h1, h2⟩ | ⟨h1, h2⟩
      · obtain rfl := hbad (by unfold okC; rw [Bool.eq_false_iff]; simp; omega)
        go_wp2
        go_ret
        exact ⟨rfl, rfl⟩
      · obtain rfl := hbad (by unfold okC; rw [Bool.eq_false_iff]; simp; omega)
        go_wp2
        go_ret
        exact ⟨rfl, rfl⟩
      · have hz : okC x = true := by unfold okC; simp; omega
        have HZ := Lib.hid hz
        clear hbad hz
        go_wp2
        go_roundg (l.length - (k + 1))
        case measure => omega
        case rel => exact ⟨k + 1, by omega, rfl, by go_num, Lib.hid (by rw [List.take_succ_eq_append_getElem hlt, List.all_append, HK.out, ← HX.out]; simp [HZ.out]), rfl⟩
    · obtain rfl : k = l.length := by omega
      have e : mayC l = (decide (1 ≤ l.length) && decide (l.length ≤ 12)) := by
        unfold mayC
        rw [show l.all okC = true by have := HK.out; rwa [List.take_of_length_le (Nat.le_refl _)] at this, Bool.true_and]
      have HE := Lib.hid (HR.out.trans e)
      clear e HR
      rcases (show l.length < 1 ∨ (1 ≤ l.length ∧ l.length ≤ 12) ∨ (1 ≤ l.length ∧ 12 < l.length) by omega) with h | ⟨h, h'⟩ | ⟨h, h'⟩
      · have hi : ¬ (1 : Int) ≤ l.length := by omega
        go_wp2
        go_ret
        exact ⟨by rw [HE.out]; simp; omega, rfl⟩
      · have hi : (1 : Int) ≤ l.length := by omega
        have hi2 : (l.length : Int) ≤ 12 := by omega
        go_wp2
        go_ret
        exact ⟨by rw [HE.out]; simp; omega, rfl⟩
      · have hi : (1 : Int) ≤ l.length := by omega
        have hi2 : ¬ (l.length : Int) ≤ 12 := by omega
        go_wp2
        go_ret
        exact ⟨by rw [HE.out]; simp; omega, rfl⟩
/-- a quotient, rounded down -/
theorem q5down_any (a b : Int) (w : World) (ha : -9223372036854775808 ≤ a ∧ a ≤ 9223372036854775807) (hb : 1 ≤ b ∧ b ≤ 9223372036854775807) :
    Calls Tryz.prog 97 #[.int .i64 a, .int .i64 b] w fun e w' => e = .returned (.int .i64 (a / b)) ∧ w' = w := by
  have hdm := Int.mul_ediv_add_emod a b
  have hm0 := Int.emod_nonneg a (show b ≠ 0 by omega)
  have hml := Int.emod_lt_of_pos a (show 0 < b by omega)
  have hq : -9223372036854775808 ≤ a / b ∧ a / b ≤ 9223372036854775807 := by
    constructor
    · by_cases h : 0 ≤ a
      · have := Int.ediv_nonneg h (show 0 ≤ b by omega); omega
      · have := Int.le_ediv_of_mul_le (a := a) (b := a) (c := b) (by omega) (by
          have : a * b ≤ a * 1 := Int.mul_le_mul_of_nonpos_left (by omega) (by omega)
          omega)
        omega
    · by_cases h : 0 ≤ a
      · have := Int.ediv_le_self b h; omega
      · have := Int.ediv_neg_of_neg_of_pos (show a < 0 by omega) (show 0 < b by omega); omega
  obtain ⟨q, hqq⟩ : ∃ q, q = a / b := ⟨_, rfl⟩
  rw [← hqq]
  have HQ := Lib.hid hqq
  have hb0 : ¬ b = 0 := by omega
  go_enter Tryz.func97, Tryz.ntmps97
  by_cases ha0 : 0 ≤ a
  · have e1 : a.tdiv b = a / b := Int.tdiv_eq_ediv_of_nonneg ha0
    have e2 : a.tmod b = a % b := Int.tmod_eq_emod_of_nonneg ha0
    have e3 : IntKind.i64.wrap (a / b) = q := by rw [IntWalk.i64_in _ hq]; exact HQ.out.symm
    have hna : ¬ a < 0 := by omega
    by_cases hmz : a % b = 0
    · clear hdm hm0 hml hq hqq
      go_wp2
      go_ret
      exact ⟨rfl, rfl⟩
    · clear hdm hm0 hml hq hqq
      go_wp2
      go_ret
      exact ⟨rfl, rfl⟩
  · have hna : a < 0 := by omega
    obtain ⟨n, hn⟩ : ∃ n, n = -a := ⟨_, rfl⟩
    have e1 : a.tdiv b = -(n / b) := by rw [show a = -n by omega, Int.neg_tdiv, Int.tdiv_eq_ediv_of_nonneg (by omega)]
    have e2 : a.tmod b = -(n % b) := by rw [show a = -n by omega, Int.neg_tmod, Int.tmod_eq_emod_of_nonneg (by omega)]
    have k1 := Int.mul_ediv_add_emod n b
    have k2 := Int.emod_nonneg n (show b ≠ 0 by omega)
    have k3 := Int.emod_lt_of_pos n (show 0 < b by omega)
    have k4 : n / b ≤ n := Int.ediv_le_self b (by omega)
    have k5 : 0 ≤ n / b := Int.ediv_nonneg (by omega) (by omega)
    have k6 : n / b ≤ 9223372036854775807 ∨ n = 9223372036854775808 ∧ n / b = 9223372036854775808 := by omega
    have hmul : b * -(n / b) = -(b * (n / b)) := Int.mul_neg _ _
    have hmul2 : b * (-(n / b) - 1) = -(b * (n / b)) - b := by rw [Int.mul_sub, hmul, Int.mul_one]
    have hw0 : IntKind.i64.wrap (-(n / b)) = -(n / b) := IntWalk.i64_in _ (by omega)
    generalize n / b = p at *
    generalize n % b = m at *
    by_cases hmz : m = 0
    · have hqe : q = -p := by
        rw [hqq]
        exact ((Int.ediv_emod_unique (a := a) (b := b) (r := 0) (q := -p) (by omega)).2 ⟨by omega, by omega, by omega⟩).1
      subst hqe
      have e2' : a.tmod b = 0 := by rw [e2, hmz]; rfl
      clear hdm hm0 hml hq hqq k1 k2 k3 k4 k5 k6 hmul hmul2 e2 HQ hmz hn
      go_wp2
      go_ret
      exact ⟨rfl, rfl⟩
    · have hqe : q = -p - 1 := by
        rw [hqq]
        exact ((Int.ediv_emod_unique (a := a) (b := b) (r := b - m) (q := -p - 1) (by omega)).2 ⟨by omega, by omega, by omega⟩).1
      have hmn : ¬ a.tmod b = 0 := by rw [e2]; omega
      have hw1 : IntKind.i64.wrap (-p - 1) = q := by rw [IntWalk.i64_in _ (by omega)]; exact hqe.symm
      clear hdm hm0 hml hq hqq k1 k2 k3 k4 k5 k6 hmul hmul2 e2 HQ hmz hn hqe
      go_wp2
      go_ret
      exact ⟨rfl, rfl⟩
set_option maxRecDepth 100000 in
set_option maxHeartbeats 1000000 in
theorem q5told_any (v : Value) (past : List Int) (o : Nat) (w : World) (h : intE.Is w v past) (hn : past.length ≤ 1000000) (ho : o ≤ 4) (hl : o ≤ past.length) :
    Calls Tryz.prog 91 #[v, .int .i64 o] w fun e w' => e = .returned (.int .i64 (gSum (fixC o) past)) ∧ Bl w w' := by
  obtain ⟨A, cp, rfl, h1, h2, h3, h4⟩ := h
  have HA := Lib.hid h4
  clear h1 h2 h3 h4
  obtain ⟨r, hr⟩ : ∃ r, r = gSum (fixC o) past := ⟨_, rfl⟩
  rw [← hr]
  have HR := Lib.hid hr
  have HLc := Lib.hid (fixC_len o)
  clear hr
  go_enter Tryz.func91, Tryz.ntmps91
  go_wp2_with fail
  refine (q5Fixed_any o ho _).mono ?_
  rintro e w1 ⟨uc, rfl, hoc, hb1⟩
  generalize fixC o = c at *
  obtain ⟨A2, c2, rfl, -, -, -, hat⟩ := hoc.is
  have HA2 := Lib.hid hat
  have HB1 := Lib.hid hb1
  clear hoc hb1 hat
  go_wp2_with fail
  go_loopg [6, 12] c.length (fun gk s i wr => ∃ (k : Nat) (t : Int), k ≤ c.length ∧ gk = c.length - k ∧ i = .int .i64 k ∧ s = .int .i64 t ∧ Hid (t = gSum (c.take k) past) ∧ Hid (Bl w1 wr))
  case atStart => exact ⟨0, 0, by omega, rfl, rfl, rfl, Lib.hid (by simp [gSum]), Lib.hid (Bl.refl _)⟩
  case round =>
    obtain ⟨k, t, hk, hgk, rfl, rfl, HK, HB⟩ := hrel
    by_cases hlt : k < c.length
    · have hlti : (k : Int) < c.length := by omega
      have hcp : c.length ≤ past.length := by have := HLc.out; omega
      have hc4 : c.length ≤ 4 := by have := HLc.out; omega
      obtain ⟨ad2, rfl, d2⟩ := int_at HA2.out k hlt
      have hj : past.length - 1 - k < past.length := by omega
      obtain ⟨ad, rfl, d0⟩ := int_at HA.out (past.length - 1 - k) hj
      replace d2 := HB.out.cell d2
      replace d0 := HB.out.cell (HB1.out.cell d0)
      have HS := Lib.hid (gSum_step c past k hlt hcp)
      generalize c[k] = x at *
      generalize past[past.length - 1 - k] = y at *
      generalize hj2 : past.length - 1 - k = j at *
      have hw1 : IntKind.i64.wrap ((past.length : Int) - 1) = past.length - 1 := IntWalk.i64_in _ (by omega)
      have hw2 : IntKind.i64.wrap ((past.length : Int) - 1 - k) = j := by rw [IntWalk.i64_in _ (by omega)]; omega
      have hji : (past.length : Int) - 1 - k = j := by omega
      have hw3 : IntKind.i64.wrap (j : Int) = j := IntWalk.i64_in _ (by omega)
      clear hj2
      go_wp2_with fail
      refine wp_region_ways (S := (fun w'' => w''.cell? (ad2.add k) = some (.int .i64 x) ∧ w''.cell? (ad.add j) = some (.int .i64 y))) [0, 1, 2, 3, 4, 5, 6, 7, 8, 9, 10, 11, 12, 13, 14, 15] (y := .take 0 (.take 1 (.take 2 (.take 3 (.take 4 (.take 5 (.take 6 (.take 7 (.take 8 (.take 9 (.take 10 (.take 11 (.take 12 (.take 13 (.take 14 (.take 15 (.done))))))))))))))))) (by kernel_rfl) (by kernel_rfl) (by kernel_rfl) ?_ (fun hHeld => ?_)
      · exact ⟨(Bl.refl _).drew.cell d2, (Bl.refl _).drew.cell d0⟩
      clear hHeld
      repeat (first | (refine wpWay_take rfl (by rfl) (by intro w hSw; (try dsimp only at hSw); first | (go_simp; done) | (go_simp; with_reducible rfl)) ?_; try simp only [Act.put, List.setIfInBounds_toArray, List.set_cons_zero, List.set_cons_succ]) | (refine wpWay_skip rfl (by rfl) ?_; try simp only [Act.put, List.setIfInBounds_toArray, List.set_cons_zero, List.set_cons_succ]))
      refine wpWay_done ?_
      go_wp2_with fail
      go_roundg (c.length - (k + 1))
      case measure => omega
      case rel => exact ⟨k + 1, _, by omega, rfl, by go_num, rfl, Lib.hid (by rw [HS.out, ← HK.out, IntKind.wrap_i64, IntKind.wrap_i64]; unfold wrap64; rfl), Lib.hid HB.out.drew⟩
    · obtain rfl : k = c.length := by omega
      go_wp2
      go_ret
      refine ⟨?_, HB1.out.trans HB.out⟩
      have := HK.out
      rw [List.take_of_length_le (Nat.le_refl _)] at this
      rw [HR.out, this]
      rfl
set_option maxRecDepth 100000 in
set_option maxHeartbeats 1000000 in
theorem q5Guess_any (v u : Value) (past c : List Int) (w : World) (h : intE.Is w v past) (hc : intE.Is w u c) (hn : past.length ≤ 1000000) (hl : c.length ≤ past.length) (hm : mayC c = true) :
    Calls Tryz.prog 99 #[v, u] w fun e w' => e = .returned (.int .i64 (gLpc c past)) ∧ Bl w w' := by
  obtain ⟨A, cp, rfl, h1, h2, h3, h4⟩ := h
  have HA := Lib.hid h4
  clear h1 h2 h3 h4
  obtain ⟨A2, cp2, rfl, h1, h2, h3, h4⟩ := hc
  have HA2 := Lib.hid h4
  clear h1 h2 h3 h4
  unfold mayC at hm
  simp only [Bool.and_eq_true, decide_eq_true_eq, List.all_eq_true] at hm
  obtain ⟨hm1, hm2, hm3⟩ := hm
  have HM := Lib.hid hm1
  clear hm1
  obtain ⟨r, hr⟩ : ∃ r, r = gLpc c past := ⟨_, rfl⟩
  rw [← hr]
  have HR := Lib.hid hr
  clear hr
  go_enter Tryz.func99, Tryz.ntmps99
  go_wp2_with fail
  go_loopg [5, 6] c.length (fun gk s i wr => ∃ (k : Nat) (t : Int), k ≤ c.length ∧ gk = c.length - k ∧ i = .int .i64 k ∧ s = .int .i64 t ∧ Hid (t = gF (c.take k) past) ∧ Hid (-9223372036854775808 ≤ t ∧ t ≤ 9223372036854775807) ∧ Hid (Bl w wr))
  case atStart => exact ⟨0, 0, by omega, rfl, rfl, rfl, Lib.hid (by simp [gF]), Lib.hid (by omega), Lib.hid (Bl.refl _)⟩
  case round =>
    obtain ⟨k, t, hk, hgk, rfl, rfl, HK, HT, HBw⟩ := hrel
    by_cases hlt : k < c.length
    · have hlti : (k : Int) < c.length := by omega
      have hkp : (k : Int) < past.length := by omega
      have hk12 : (k : Int) < 12 := by omega
      obtain ⟨ad2, rfl, d2⟩ := int_at HA2.out k hlt
      replace d2 := HBw.out.cell d2
      have hj : past.length - 1 - k < past.length := by omega
      obtain ⟨ad, rfl, d0⟩ := int_at HA.out (past.length - 1 - k) hj
      replace d0 := HBw.out.cell d0
      have hok := HM.out _ (List.getElem_mem hlt)
      have HS := Lib.hid (gF_step c past k hlt hl hok)
      generalize c[k] = x at *
      generalize past[past.length - 1 - k] = y at *
      generalize hj2 : past.length - 1 - k = j at *
      have hw1 : IntKind.i64.wrap ((past.length : Int) - 1) = past.length - 1 := IntWalk.i64_in _ (by omega)
      have hw2 : IntKind.i64.wrap (j : Int) = j := IntWalk.i64_in _ (by omega)
      have hji : (past.length : Int) - 1 - k = j := by omega
      unfold okC at hok
      simp only [Bool.and_eq_true, decide_eq_true_eq] at hok
      have hx1 : ¬ x < -32768 := by omega
      have hx2 : ¬ 32767 < x := by omega
      clear hj2 hok
      go_wp2_with fail
      refine wp_region_ways (S := (fun w'' => w''.cell? (ad2.add k) = some (.int .i64 x) ∧ w''.cell? (ad.add j) = some (.int .i64 y))) [0, 1, 2, 3, 4, 5, 6, 7, 8, 9, 10, 11, 12, 13] (y := .take 0 (.take 1 (.take 2 (.take 3 (.take 4 (.take 5 (.take 6 (.take 7 (.take 8 (.take 9 (.take 10 (.take 11 (.take 12 (.take 13 (.done))))))))))))))) (by kernel_rfl) (by kernel_rfl) (by kernel_rfl) ?_ (fun hHeld => ?_)
      · exact ⟨(Bl.refl _).drew.cell d2, (Bl.refl _).drew.cell d0⟩
      clear hHeld
      repeat (first | (refine wpWay_take rfl (by rfl) (by intro w hSw; (try dsimp only at hSw); first | (go_simp; done) | (go_simp; with_reducible rfl)) ?_; try simp only [Act.put, List.setIfInBounds_toArray, List.set_cons_zero, List.set_cons_succ]) | (refine wpWay_skip rfl (by rfl) ?_; try simp only [Act.put, List.setIfInBounds_toArray, List.set_cons_zero, List.set_cons_succ]))
      refine wpWay_done ?_
      have HBd := Lib.hid HBw.out.drew
      rcases (show (y < -16777216 ∨ 16777216 < y) ∨ (¬ y < -16777216 ∧ ¬ 16777216 < y) by omega) with hy | ⟨hy1, hy2⟩
      · have HS2 := Lib.hid (show gF (c.take (k + 1)) past = t by
          rw [HS.out, ← HK.out]
          unfold cutG
          rw [if_pos hy, Int.mul_zero]
          have := HT.out
          rw [show wrap64 0 = 0 by unfold wrap64; rfl, Int.add_zero, wrap_in this])
        rcases (show y < -16777216 ∨ (¬ y < -16777216 ∧ 16777216 < y) by omega) with h1 | ⟨h1, h2⟩
        all_goals
          go_wp2_with fail
          go_roundg (c.length - (k + 1))
          case measure => omega
          case rel => exact ⟨k + 1, t, by omega, rfl, by go_num, rfl, Lib.hid HS2.out.symm, HT, HBd⟩
      · have HS2 := Lib.hid (show gF (c.take (k + 1)) past = wrap64 (t + wrap64 (x * y)) by
          rw [HS.out, ← HK.out]
          unfold cutG
          rw [if_neg (by omega)])
        go_wp2_with fail
        go_roundg (c.length - (k + 1))
        case measure => omega
        case rel => exact ⟨k + 1, _, by omega, rfl, by go_num, rfl, Lib.hid (by rw [HS2.out]), Lib.hid (by unfold wrap64; omega), HBd⟩
    · obtain rfl : k = c.length := by omega
      have hnl : ¬ (c.length : Int) < c.length := by omega
      have ht := HT.out
      have HF := Lib.hid (show r = t / 4096 by
        have := HK.out
        rw [List.take_of_length_le (Nat.le_refl _)] at this
        rw [HR.out, gLpc_eq c past (by omega), ← this])
      go_wp2_with fail
      refine (q5down_any t 4096 _ ht (by decide)).mono ?_
      rintro e w1 ⟨rfl, rfl⟩
      rw [← HF.out]
      go_wp2
      go_ret
      exact ⟨rfl, HBw.out⟩
end Go.Proofs.YtoocebghlchcoaaGreat.ExtW
