/- Several texts joined (see each one's head). -/
import Derived.Test.YtoocebghlchcoaaGreatPkAJ
/- Contract of frame.reader: residuals. -/
namespace Go.Proofs.YtoocebghlchcoaaGreat.ExtW
open Go.RowKit Go.Ov Go.Proofs.YtoocebghlchcoaaGreat.Need
theorem iceGet_far (B k : Nat) (w : World) (hk : 24 < k) (hk2 : k < 1000) :
    Calls Tryz.prog 142 #[.pointer (some ⟨B, 0, none⟩), .int .i64 k] w fun e w' => e = .returned (.tuple #[.int .i64 0, .bool false]) ∧ w' = w := by
  have g1 : ¬ (k : Int) < 0 := by omega
  have g2 : (24 : Int) < k := by omega
  go_enter Tryz.func142, Tryz.ntmps142
  go_wp2
  go_ret2
  exact ⟨rfl, rfl⟩
theorem zag_bd (z : Nat) (_ : z < 2199023255552) : -1099511627776 ≤ zagM z ∧ zagM z ≤ 1099511627776 := by
  unfold zagM
  rw [if_neg (by omega)]
  split <;> omega
theorem rice_lt {l : List Bool} {k : Nat} {q : Nat × List Bool} (hk : k ≤ 24) (h : riceO l k = some q) : q.1 < 2199023255552 := by
  unfold riceO at h
  cases ho : onesM l 24 with
  | none => rw [ho] at h; cases h
  | some p =>
    rw [ho] at h
    simp only [Option.bind_some] at h
    obtain ⟨m, hm, hm2⟩ : ∃ m, m = (if p.1 = 24 then 32 else k) ∧ m ≤ 32 := ⟨_, rfl, by split <;> omega⟩
    rw [← hm] at h
    cases ht : takeN p.2 m with
    | none => rw [ht] at h; cases h
    | some r =>
      rw [ht] at h
      simp only [Option.bind_some] at h
      unfold takeN at ht
      split at ht
      · injection ht with ht
        have hv := valB_lt (p.2.take m)
        rw [List.length_take] at hv
        have hp : 2 ^ min m p.2.length ≤ 2 ^ 32 := Nat.pow_le_pow_right (by decide) (by omega)
        have hr : r.1 < 2 ^ 32 := by rw [← ht]; simp only; omega
        have hpk : 2 ^ k ≤ 2 ^ 24 := Nat.pow_le_pow_right (by decide) hk
        split at h
        · rename_i hp24
          injection h with h
          rw [← h]
          have : p.1 * 2 ^ k ≤ 24 * 2 ^ 24 := Nat.mul_le_mul (by omega) hpk
          simp only
          omega
        · split at h
          · cases h
          · injection h with h
            rw [← h]
            simp only
            omega
      · cases ht
/-- one residual -/
def riceZ (k : Nat) (l : List Bool) : Option (Int × List Bool) := (riceO l k).map fun q => (zagM q.1, q.2)
theorem many_mono {α : Type} (f : List Bool → Option (α × List Bool)) {j : Nat} {L : List Bool} (h : manyO f j L = none) : ∀ n, j ≤ n → manyO f n L = none := fun n hn => by
  obtain ⟨d, rfl⟩ : ∃ d, n = j + d := ⟨n - j, by omega⟩
  clear hn
  induction d with
  | zero => exact h
  | succ d ih => rw [show j + (d + 1) = (j + d) + 1 by omega, many_snoc, ih]; rfl
theorem ReadP.far {α : Type} {l : List Int} {bad bad1 : Bool} {f : List Bool → Option (α × List Bool)} {j : Nat} {L : List Bool} {xs ys : List α} {p1 p2 n : Nat} (h : ReadP l bad bad1 (manyO f j L) xs p1) (h2 : f (leftB l p1) = none) (hj : j < n) : ReadP l bad true (manyO f n L) ys p2 := by
  refine ⟨(fun h => by cases h), fun _ => ?_⟩
  cases hb1 : bad1 with
  | true =>
    rcases h.2 hb1 with e | e
    · exact .inl e
    · exact .inr (many_mono f e n (by omega))
  | false =>
    right
    refine many_mono f (j := j + 1) ?_ n (by omega)
    rw [many_snoc, (h.1 hb1).2]
    simp [h2]
theorem ReadP.res {l : List Int} {bad bad1 bad' : Bool} {L : List Bool} {x p1 p' n : Nat} {xs : List Int} (h : ReadP l bad bad1 (takeN L 5) x p1) (h2 : ReadP l (bad1 || decide (24 < x)) bad' (manyO (riceZ x) n (leftB l p1)) xs p') : ReadP l bad bad' (resO n L) xs p' := by
  have key : bad1 = false → resO n L = if 24 < x then none else manyO (riceZ x) n (leftB l p1) := fun hb => by
    unfold resO
    rw [(h.1 hb).2]
    rfl
  refine ⟨fun hb => ?_, fun hb => ?_⟩
  · obtain ⟨a1, a2⟩ := h2.1 hb
    have hb1 : bad1 = false := by cases bad1 <;> simp_all
    have hx : ¬ 24 < x := by rw [hb1] at a1; simpa using a1
    exact ⟨(h.1 hb1).1, by rw [key hb1, if_neg hx]; exact a2⟩
  · cases hb1 : bad1 with
    | true =>
      rcases h.2 hb1 with e | e
      · exact .inl e
      · right; unfold resO; rw [e]; rfl
    | false =>
      right
      rw [key hb1]
      by_cases hx : 24 < x
      · rw [if_pos hx]
      · rw [if_neg hx]
        rcases h2.2 hb with e | e
        · rw [hb1] at e; simp [hx] at e
        · exact e
end Go.Proofs.YtoocebghlchcoaaGreat.ExtW

/- Contract of frame.reader: residuals, walked. -/
namespace Go.Proofs.YtoocebghlchcoaaGreat.ExtW
open Go.RowKit Go.Ov Go.Proofs.YtoocebghlchcoaaGreat.Need
def FResP (w w' : World) (F B : Nat) (v : Value) (l : List Int) (p n : Nat) (bad : Bool) (u : Value) : Prop := ∃ (xs : List Int) (p' : Nat) (bad' : Bool), intE.Own 3 w' w.heap.size u xs ∧ xs.length ≤ n ∧ (bad' = false → xs.length = n) ∧ (∀ x ∈ xs, -1099511627776 ≤ x ∧ x ≤ 1099511627776) ∧ Kp (nbs [some F, some B]) w w' ∧ FrSt w' F B v l p' bad' ∧ ReadP l bad bad' (resO n (leftB l p)) xs p'
set_option maxHeartbeats 2000000 in
theorem fmresiduals_any (F B : Nat) (v : Value) (l : List Int) (p n : Nat) (bad : Bool) (w : World) (h : FrSt w F B v l p bad) (hn : n ≤ 64) :
    Calls Tryz.prog 123 #[.pointer (some ⟨F, 0, none⟩), .int .i64 n] w fun e w' => ∃ u, e = .returned u ∧ FResP w w' F B v l p n bad u := by
  have HF := Lib.hid h
  have HFB := Lib.hid (show F < w.heap.size ∧ B < w.heap.size from ⟨h.blk.lt, h.rd.blk.lt⟩)
  clear h
  go_enter Tryz.func123, Tryz.ntmps123
  go_wp2_with fail
  refine (fmget_any F B v l p 5 bad _ HF.out (by decide)).mono ?_
  rintro e w1 ⟨hk1, x, p1, bad1, rfl, hx, hs1, hrd⟩
  have HRd := Lib.hid hrd
  have hx32 : x < 32 := hx
  have d1 := hs1.blk.cell 1
  have f1 := hs1.blk.frozen 1
  simp at d1
  have HS := Lib.hid (frst_set hs1.blk hs1.rd hs1.is2 hs1.ne)
  clear hrd hx
  obtain ⟨bad2, hbad2⟩ : ∃ bad2, bad2 = (bad1 || decide (24 < x)) := ⟨_, rfl⟩
  have HK2 := Lib.hid (hk1.trans (HS.out bad2).2)
  have HS2 := Lib.hid (HS.out bad2).1
  have HB2 := Lib.hid hbad2
  have hxi : decide ((24 : Int) < x) = decide (24 < x) := by by_cases h : 24 < x <;> simp [h] <;> omega
  have hdone : ∀ K : Prop, K → K := fun _ h => h
  clear hk1 hs1 hbad2
  have key : ∀ b, w1.setCell ⟨F, 1, none⟩ (.bool b) = w1.setCell ⟨F, 1, none⟩ (.bool b) := fun _ => rfl
  cases bad1
  · by_cases hx24 : 24 < x
    · have hxi24 : (24 : Int) < x := by omega
      obtain rfl : bad2 = true := by rw [HB2.out]; simp [hx24]
      go_wp2
      try clear hx24
      try clear hxi24
      have HKa := Lib.hid HK2.out
      have HSa := Lib.hid HS2.out
      clear HK2 HS2 HS f1 d1
      generalize w1.setCell ⟨F, 1, none⟩ (.bool true) = w2 at *
      go_loopg [6, 23] n (fun gk u i wr => ∃ (k : Nat) (xs : List Int) (p' : Nat) (bad' : Bool), k ≤ n ∧ gk = n - k ∧ i = .int .i64 k ∧ Hid (xs.length = k) ∧ Hid (intE.Own 3 wr w.heap.size u xs) ∧ Hid (∀ x ∈ xs, -1099511627776 ≤ x ∧ x ≤ 1099511627776) ∧ Hid (Kp (nbs [some F, some B]) w wr) ∧ Hid (FrSt wr F B v l p' bad') ∧ Hid (ReadP l true bad' (manyO (riceZ x) k (leftB l p1)) xs p'))
      case atStart => exact ⟨0, [], p1, true, by omega, rfl, rfl, Lib.hid rfl, Lib.hid (Enc.Own.nil _ _ _), Lib.hid (by simp), HKa, HSa, Lib.hid ⟨fun h => ⟨h, rfl⟩, fun h => .inl h⟩⟩
      case round =>
        obtain ⟨k, xs, p2, bad', hk, hgk, rfl, HL, HO, HX, HK, HS, HMy⟩ := hrel
        by_cases hkn : k < n
        · have hki : (k : Int) < n := by omega
          have c0 := HS.out.blk.cell 0
          simp at c0
          obtain ⟨A, c, rfl⟩ := HO.out.slice
          by_cases hxr : 24 < x
          · go_wp2_with fail
            refine (iceGet_far B x _ hxr (by omega)).mono ?_
            rintro e w3 ⟨rfl, rfl⟩
            have d1 := HS.out.blk.cell 1
            have f1 := HS.out.blk.frozen 1
            simp at d1
            have hs := frst_set HS.out.blk HS.out.rd HS.out.is2 HS.out.ne true
            go_wp2
            go_ret
            refine ⟨_, rfl, [], p2, true, Enc.Own.nil _ _ _, by simp, (fun h => by cases h), by simp, HK.out.trans hs.2, hs.1, ReadP.res HRd.out (xs := []) ?_⟩
            rw [← HB2.out]
            exact ⟨(fun h => by cases h), fun _ => .inl (HB2.out.trans (by simp [hxr]))⟩
          · go_wp2_with fail
            refine (iceGet_any B v l p2 x _ HS.out.rd (by omega)).mono ?_
            rintro e w3 ⟨hk3, hm⟩
            have hB3 := hk3.blk HS.out.blk (nbs_iff.2 fun hm => by
              have := List.mem_singleton.1 hm
              injection this with this
              exact HS.out.ne this)
            have hK3 : Kp (nbs [some F, some B]) _ w3 := Kp.mono hk3 (fun i hi => nbs2 hi)
            have hI3 := hK3.sub.is HS.out.is2
            have HK3 := Lib.hid (HK.out.trans hK3)
            have HO3 := Lib.hid (hK3.own HO.out fun g hg => nbs_iff.2 fun hm => by
              have h1 := (HO.out.lt g hg).1
              have h2 := HFB.out
              simp only [List.mem_cons, List.not_mem_nil, or_false] at hm
              rcases hm with e | e <;> (injection e with e; omega))
            obtain ⟨o, ho⟩ : ∃ o, o = riceO (leftB l p2) x := ⟨_, rfl⟩
            rw [← ho] at hm
            rcases o with _ | ⟨q, r⟩
            · obtain ⟨rfl, h4⟩ := hm
              have d1 := hB3.cell 1
              have f1 := hB3.frozen 1
              simp at d1
              have hs := frst_set hB3 h4 hI3 HS.out.ne true
              have hz : riceZ x (leftB l p2) = none := by unfold riceZ; rw [← ho]; rfl
              clear hB3 ho
              go_wp2
              go_ret
              refine ⟨_, rfl, [], p2, true, Enc.Own.nil _ _ _, by simp, (fun h => by cases h), by simp, HK3.out.trans hs.2, hs.1, ReadP.res HRd.out (xs := []) ?_⟩
              rw [← HB2.out]
              exact ReadP.far HMy.out hz hkn
            · obtain ⟨rfl, p3, h4, hr⟩ := hm
              have hq := rice_lt (by omega) ho.symm
              have hzb := zag_bd q hq
              have HMy2 := Lib.hid (HMy.out.snoc (x := zagM q) (p2 := p3) (bad2 := bad') ⟨fun h => ⟨h, by unfold riceZ; rw [← ho, hr]; rfl⟩, fun h => .inl h⟩)
              have HS3 := Lib.hid (show FrSt w3 F B v l p3 bad' from ⟨hB3, h4, hI3, HS.out.ne⟩)
              try simp only at hq
              clear hB3 ho hI3 h4 hr
              go_wp2_with fail
              refine (iceZag_any q _ (by omega)).mono ?_
              rintro e w4 ⟨rfl, rfl⟩
              have HX2 := Lib.hid (show ∀ y ∈ xs ++ [zagM q], -1099511627776 ≤ y ∧ y ≤ 1099511627776 from fun y hy => by
                rcases List.mem_append.1 hy with hy | hy
                · exact HX.out y hy
                · obtain rfl := List.mem_singleton.1 hy
                  exact hzb)
              generalize zagM (q : Int) = y at *
              go_wp2_with (at_builtin; refine Enc.Own.append1 (E := intE) rfl (.tmp 39) (.tmp 42) 24 rfl w.heap.size 3 (.int .i64 0) 1 8 Tryz.underlying24 infoIntF rfl rfl (by decide) (by decide) _ xs rfl HO3.out y _ rfl rfl rfl (by have := HL.out; omega) HK3.out.size ?_; intro u2 w5 ho hg)
              have hal := (Bl.refl w4).alloc (.cells #[.int .i64 y] 3)
              have hr := fun g e => (HO3.out.lt g e).1
              have hk2 := (HK3.out.trans (Kp.of_bl hal)).grown hg hr
              have HS5 := Lib.hid (FrSt.keep HF.out hk2 (HS3.out.bl hal) hg hr)
              have HK5 := Lib.hid hk2
              have HO5 := Lib.hid ho
              clear hal hr hk2 ho hg
              go_roundg (n - (k + 1))
              case measure => omega
              case rel => exact ⟨k + 1, xs ++ [y], p3, bad', by omega, rfl, by go_num, Lib.hid (by rw [List.length_append, HL.out]; rfl), HO5, HX2, HK5, HS5, HMy2⟩
        · obtain rfl : k = n := by omega
          go_wp2
          go_ret
          refine ⟨_, rfl, xs, p2, bad', HO.out, by rw [HL.out]; exact Nat.le_refl _, fun _ => HL.out, HX.out, HK.out, HS.out, ReadP.res HRd.out ?_⟩
          rw [← HB2.out]
          exact HMy.out
    · have hxi24 : ¬ (24 : Int) < x := by omega
      obtain rfl : bad2 = false := by rw [HB2.out]; simp [hx24]
      go_wp2
      try clear hx24
      try clear hxi24
      have HKa := Lib.hid HK2.out
      have HSa := Lib.hid HS2.out
      clear HK2 HS2 HS f1 d1
      generalize w1.setCell ⟨F, 1, none⟩ (.bool false) = w2 at *
      go_loopg [6, 23] n (fun gk u i wr => ∃ (k : Nat) (xs : List Int) (p' : Nat) (bad' : Bool), k ≤ n ∧ gk = n - k ∧ i = .int .i64 k ∧ Hid (xs.length = k) ∧ Hid (intE.Own 3 wr w.heap.size u xs) ∧ Hid (∀ x ∈ xs, -1099511627776 ≤ x ∧ x ≤ 1099511627776) ∧ Hid (Kp (nbs [some F, some B]) w wr) ∧ Hid (FrSt wr F B v l p' bad') ∧ Hid (ReadP l false bad' (manyO (riceZ x) k (leftB l p1)) xs p'))
      case atStart => exact ⟨0, [], p1, false, by omega, rfl, rfl, Lib.hid rfl, Lib.hid (Enc.Own.nil _ _ _), Lib.hid (by simp), HKa, HSa, Lib.hid ⟨fun h => ⟨h, rfl⟩, fun h => .inl h⟩⟩
      case round =>
        obtain ⟨k, xs, p2, bad', hk, hgk, rfl, HL, HO, HX, HK, HS, HMy⟩ := hrel
        by_cases hkn : k < n
        · have hki : (k : Int) < n := by omega
          have c0 := HS.out.blk.cell 0
          simp at c0
          obtain ⟨A, c, rfl⟩ := HO.out.slice
          by_cases hxr : 24 < x
          · go_wp2_with fail
            refine (iceGet_far B x _ hxr (by omega)).mono ?_
            rintro e w3 ⟨rfl, rfl⟩
            have d1 := HS.out.blk.cell 1
            have f1 := HS.out.blk.frozen 1
            simp at d1
            have hs := frst_set HS.out.blk HS.out.rd HS.out.is2 HS.out.ne true
            go_wp2
            go_ret
            refine ⟨_, rfl, [], p2, true, Enc.Own.nil _ _ _, by simp, (fun h => by cases h), by simp, HK.out.trans hs.2, hs.1, ReadP.res HRd.out (xs := []) ?_⟩
            rw [← HB2.out]
            exact ⟨(fun h => by cases h), fun _ => .inl (HB2.out.trans (by simp [hxr]))⟩
          · go_wp2_with fail
            refine (iceGet_any B v l p2 x _ HS.out.rd (by omega)).mono ?_
            rintro e w3 ⟨hk3, hm⟩
            have hB3 := hk3.blk HS.out.blk (nbs_iff.2 fun hm => by
              have := List.mem_singleton.1 hm
              injection this with this
              exact HS.out.ne this)
            have hK3 : Kp (nbs [some F, some B]) _ w3 := Kp.mono hk3 (fun i hi => nbs2 hi)
            have hI3 := hK3.sub.is HS.out.is2
            have HK3 := Lib.hid (HK.out.trans hK3)
            have HO3 := Lib.hid (hK3.own HO.out fun g hg => nbs_iff.2 fun hm => by
              have h1 := (HO.out.lt g hg).1
              have h2 := HFB.out
              simp only [List.mem_cons, List.not_mem_nil, or_false] at hm
              rcases hm with e | e <;> (injection e with e; omega))
            obtain ⟨o, ho⟩ : ∃ o, o = riceO (leftB l p2) x := ⟨_, rfl⟩
            rw [← ho] at hm
            rcases o with _ | ⟨q, r⟩
            · obtain ⟨rfl, h4⟩ := hm
              have d1 := hB3.cell 1
              have f1 := hB3.frozen 1
              simp at d1
              have hs := frst_set hB3 h4 hI3 HS.out.ne true
              have hz : riceZ x (leftB l p2) = none := by unfold riceZ; rw [← ho]; rfl
              clear hB3 ho
              go_wp2
              go_ret
              refine ⟨_, rfl, [], p2, true, Enc.Own.nil _ _ _, by simp, (fun h => by cases h), by simp, HK3.out.trans hs.2, hs.1, ReadP.res HRd.out (xs := []) ?_⟩
              rw [← HB2.out]
              exact ReadP.far HMy.out hz hkn
            · obtain ⟨rfl, p3, h4, hr⟩ := hm
              have hq := rice_lt (by omega) ho.symm
              have hzb := zag_bd q hq
              have HMy2 := Lib.hid (HMy.out.snoc (x := zagM q) (p2 := p3) (bad2 := bad') ⟨fun h => ⟨h, by unfold riceZ; rw [← ho, hr]; rfl⟩, fun h => .inl h⟩)
              have HS3 := Lib.hid (show FrSt w3 F B v l p3 bad' from ⟨hB3, h4, hI3, HS.out.ne⟩)
              try simp only at hq
              clear hB3 ho hI3 h4 hr
              go_wp2_with fail
              refine (iceZag_any q _ (by omega)).mono ?_
              rintro e w4 ⟨rfl, rfl⟩
              have HX2 := Lib.hid (show ∀ y ∈ xs ++ [zagM q], -1099511627776 ≤ y ∧ y ≤ 1099511627776 from fun y hy => by
                rcases List.mem_append.1 hy with hy | hy
                · exact HX.out y hy
                · obtain rfl := List.mem_singleton.1 hy
                  exact hzb)
              generalize zagM (q : Int) = y at *
              go_wp2_with (at_builtin; refine Enc.Own.append1 (E := intE) rfl (.tmp 39) (.tmp 42) 24 rfl w.heap.size 3 (.int .i64 0) 1 8 Tryz.underlying24 infoIntF rfl rfl (by decide) (by decide) _ xs rfl HO3.out y _ rfl rfl rfl (by have := HL.out; omega) HK3.out.size ?_; intro u2 w5 ho hg)
              have hal := (Bl.refl w4).alloc (.cells #[.int .i64 y] 3)
              have hr := fun g e => (HO3.out.lt g e).1
              have hk2 := (HK3.out.trans (Kp.of_bl hal)).grown hg hr
              have HS5 := Lib.hid (FrSt.keep HF.out hk2 (HS3.out.bl hal) hg hr)
              have HK5 := Lib.hid hk2
              have HO5 := Lib.hid ho
              clear hal hr hk2 ho hg
              go_roundg (n - (k + 1))
              case measure => omega
              case rel => exact ⟨k + 1, xs ++ [y], p3, bad', by omega, rfl, by go_num, Lib.hid (by rw [List.length_append, HL.out]; rfl), HO5, HX2, HK5, HS5, HMy2⟩
        · obtain rfl : k = n := by omega
          go_wp2
          go_ret
          refine ⟨_, rfl, xs, p2, bad', HO.out, by rw [HL.out]; exact Nat.le_refl _, fun _ => HL.out, HX.out, HK.out, HS.out, ReadP.res HRd.out ?_⟩
          rw [← HB2.out]
          exact HMy.out
  · obtain rfl : bad2 = true := by rw [HB2.out]; rfl
    go_wp2
    try clear hx24
    try clear hxi24
    have HKa := Lib.hid HK2.out
    have HSa := Lib.hid HS2.out
    clear HK2 HS2 HS f1 d1
    generalize w1.setCell ⟨F, 1, none⟩ (.bool true) = w2 at *
    go_loopg [6, 23] n (fun gk u i wr => ∃ (k : Nat) (xs : List Int) (p' : Nat) (bad' : Bool), k ≤ n ∧ gk = n - k ∧ i = .int .i64 k ∧ Hid (xs.length = k) ∧ Hid (intE.Own 3 wr w.heap.size u xs) ∧ Hid (∀ x ∈ xs, -1099511627776 ≤ x ∧ x ≤ 1099511627776) ∧ Hid (Kp (nbs [some F, some B]) w wr) ∧ Hid (FrSt wr F B v l p' bad') ∧ Hid (ReadP l true bad' (manyO (riceZ x) k (leftB l p1)) xs p'))
    case atStart => exact ⟨0, [], p1, true, by omega, rfl, rfl, Lib.hid rfl, Lib.hid (Enc.Own.nil _ _ _), Lib.hid (by simp), HKa, HSa, Lib.hid ⟨fun h => ⟨h, rfl⟩, fun h => .inl h⟩⟩
    case round =>
      obtain ⟨k, xs, p2, bad', hk, hgk, rfl, HL, HO, HX, HK, HS, HMy⟩ := hrel
      by_cases hkn : k < n
      · have hki : (k : Int) < n := by omega
        have c0 := HS.out.blk.cell 0
        simp at c0
        obtain ⟨A, c, rfl⟩ := HO.out.slice
        by_cases hxr : 24 < x
        · go_wp2_with fail
          refine (iceGet_far B x _ hxr (by omega)).mono ?_
          rintro e w3 ⟨rfl, rfl⟩
          have d1 := HS.out.blk.cell 1
          have f1 := HS.out.blk.frozen 1
          simp at d1
          have hs := frst_set HS.out.blk HS.out.rd HS.out.is2 HS.out.ne true
          go_wp2
          go_ret
          refine ⟨_, rfl, [], p2, true, Enc.Own.nil _ _ _, by simp, (fun h => by cases h), by simp, HK.out.trans hs.2, hs.1, ReadP.res HRd.out (xs := []) ?_⟩
          rw [← HB2.out]
          exact ⟨(fun h => by cases h), fun _ => .inl (HB2.out.trans (by simp [hxr]))⟩
        · go_wp2_with fail
          refine (iceGet_any B v l p2 x _ HS.out.rd (by omega)).mono ?_
          rintro e w3 ⟨hk3, hm⟩
          have hB3 := hk3.blk HS.out.blk (nbs_iff.2 fun hm => by
            have := List.mem_singleton.1 hm
            injection this with this
            exact HS.out.ne this)
          have hK3 : Kp (nbs [some F, some B]) _ w3 := Kp.mono hk3 (fun i hi => nbs2 hi)
          have hI3 := hK3.sub.is HS.out.is2
          have HK3 := Lib.hid (HK.out.trans hK3)
          have HO3 := Lib.hid (hK3.own HO.out fun g hg => nbs_iff.2 fun hm => by
            have h1 := (HO.out.lt g hg).1
            have h2 := HFB.out
            simp only [List.mem_cons, List.not_mem_nil, or_false] at hm
            rcases hm with e | e <;> (injection e with e; omega))
          obtain ⟨o, ho⟩ : ∃ o, o = riceO (leftB l p2) x := ⟨_, rfl⟩
          rw [← ho] at hm
          rcases o with _ | ⟨q, r⟩
          · obtain ⟨rfl, h4⟩ := hm
            have d1 := hB3.cell 1
            have f1 := hB3.frozen 1
            simp at d1
            have hs := frst_set hB3 h4 hI3 HS.out.ne true
            have hz : riceZ x (leftB l p2) = none := by unfold riceZ; rw [← ho]; rfl
            clear hB3 ho
            go_wp2
            go_ret
            refine ⟨_, rfl, [], p2, true, Enc.Own.nil _ _ _, by simp, (fun h => by cases h), by simp, HK3.out.trans hs.2, hs.1, ReadP.res HRd.out (xs := []) ?_⟩
            rw [← HB2.out]
            exact ReadP.far HMy.out hz hkn
          · obtain ⟨rfl, p3, h4, hr⟩ := hm
            have hq := rice_lt (by omega) ho.symm
            have hzb := zag_bd q hq
            have HMy2 := Lib.hid (HMy.out.snoc (x := zagM q) (p2 := p3) (bad2 := bad') ⟨fun h => ⟨h, by unfold riceZ; rw [← ho, hr]; rfl⟩, fun h => .inl h⟩)
            have HS3 := Lib.hid (show FrSt w3 F B v l p3 bad' from ⟨hB3, h4, hI3, HS.out.ne⟩)
            try simp only at hq
            clear hB3 ho hI3 h4 hr
            go_wp2_with fail
            refine (iceZag_any q _ (by omega)).mono ?_
            rintro e w4 ⟨rfl, rfl⟩
            have HX2 := Lib.hid (show ∀ y ∈ xs ++ [zagM q], -1099511627776 ≤ y ∧ y ≤ 1099511627776 from fun y hy => by
              rcases List.mem_append.1 hy with hy | hy
              · exact HX.out y hy
              · obtain rfl := List.mem_singleton.1 hy
                exact hzb)
            generalize zagM (q : Int) = y at *
            go_wp2_with (at_builtin; refine Enc.Own.append1 (E := intE) rfl (.tmp 39) (.tmp 42) 24 rfl w.heap.size 3 (.int .i64 0) 1 8 Tryz.underlying24 infoIntF rfl rfl (by decide) (by decide) _ xs rfl HO3.out y _ rfl rfl rfl (by have := HL.out; omega) HK3.out.size ?_; intro u2 w5 ho hg)
            have hal := (Bl.refl w4).alloc (.cells #[.int .i64 y] 3)
            have hr := fun g e => (HO3.out.lt g e).1
            have hk2 := (HK3.out.trans (Kp.of_bl hal)).grown hg hr
            have HS5 := Lib.hid (FrSt.keep HF.out hk2 (HS3.out.bl hal) hg hr)
            have HK5 := Lib.hid hk2
            have HO5 := Lib.hid ho
            clear hal hr hk2 ho hg
            go_roundg (n - (k + 1))
            case measure => omega
            case rel => exact ⟨k + 1, xs ++ [y], p3, bad', by omega, rfl, by go_num, Lib.hid (by rw [List.length_append, HL.out]; rfl), HO5, HX2, HK5, HS5, HMy2⟩
      · obtain rfl : k = n := by omega
        go_wp2
        go_ret
        refine ⟨_, rfl, xs, p2, bad', HO.out, by rw [HL.out]; exact Nat.le_refl _, fun _ => HL.out, HX.out, HK.out, HS.out, ReadP.res HRd.out ?_⟩
        rw [← HB2.out]
        exact HMy.out
end Go.Proofs.YtoocebghlchcoaaGreat.ExtW

/- Frames' bodies as data: what is read behind the head; samples of residuals, as a call's answer. -/
namespace Go.Proofs.YtoocebghlchcoaaGreat.ExtW
open Go.RowKit Go.Ov Go.Proofs.YtoocebghlchcoaaGreat.Need
/-- the samples behind a frame's head -/
def bodyO (kind n : Nat) (l : List Bool) : Option (List Int × List Bool) :=
  if 18 < kind ∨ n < 1 ∨ 64 < n then none
  else if kind = 0 then (sampleO l).map fun s => (List.replicate n s.1, s.2)
  else if kind = 1 then manyO sampleO n l
  else if kind ≤ 6 then
    if n < kind - 2 then none
    else (manyO sampleO (kind - 2) l).bind fun s => (resO (n - (kind - 2)) s.2).bind fun r => (runO (gSum (fixC (kind - 2))) s.1 r.1).map fun x => (x, r.2)
  else if n ≤ kind - 6 then none
  else (manyO sampleO (kind - 6) l).bind fun s => (manyO coefO (kind - 6) s.2).bind fun c => (resO (n - (kind - 6)) c.2).bind fun r => (runO (gLpc c.1) s.1 r.1).map fun x => (x, r.2)
theorem dec_body (l : List Bool) : decM l = (takeN l 8).bind fun p => (takeN p.2 8).bind fun q => (bodyO p.1 q.1 q.2).bind fun x => if restO x.2 then some x.1 else none := by
  unfold decM
  congr 1; funext p
  congr 1; funext q
  unfold bodyO
  by_cases h1 : 18 < p.1 ∨ q.1 < 1 ∨ 64 < q.1
  · rw [if_pos h1, if_pos h1]; rfl
  · rw [if_neg h1, if_neg h1]
    by_cases h2 : p.1 = 0
    · rw [if_pos h2, if_pos h2]
      cases sampleO q.2 <;> rfl
    · rw [if_neg h2, if_neg h2]
      by_cases h3 : p.1 = 1
      · rw [if_pos h3, if_pos h3]
      · rw [if_neg h3, if_neg h3]
        by_cases h4 : p.1 ≤ 6
        · rw [if_pos h4, if_pos h4]
          by_cases h5 : q.1 < p.1 - 2
          · rw [if_pos h5, if_pos h5]; rfl
          · rw [if_neg h5, if_neg h5, Option.bind_assoc]
            congr 1; funext s
            rw [Option.bind_assoc]
            congr 1; funext r
            cases runO (gSum (fixC (p.1 - 2))) s.1 r.1 <;> rfl
        · rw [if_neg h4, if_neg h4]
          by_cases h5 : q.1 ≤ p.1 - 6
          · rw [if_pos h5, if_pos h5]; rfl
          · rw [if_neg h5, if_neg h5, Option.bind_assoc]
            congr 1; funext s
            rw [Option.bind_assoc]
            congr 1; funext c
            rw [Option.bind_assoc]
            congr 1; funext r
            cases runO (gLpc c.1) s.1 r.1 <;> rfl
theorem ReadP.bind {α β : Type} {l : List Int} {bad b1 b2 : Bool} {o : Option (α × List Bool)} {f : α × List Bool → Option (β × List Bool)} {x : α} {y : β} {p1 p2 : Nat} (h : ReadP l bad b1 o x p1) (h2 : ReadP l b1 b2 (f (x, leftB l p1)) y p2) : ReadP l bad b2 (o.bind f) y p2 := by
  refine ⟨fun hb => ?_, fun hb => ?_⟩
  · obtain ⟨a1, a2⟩ := h2.1 hb
    obtain ⟨c1, c2⟩ := h.1 a1
    exact ⟨c1, by rw [c2]; exact a2⟩
  · cases hb1 : b1 with
    | true =>
      rcases h.2 hb1 with e | e
      · exact .inl e
      · right; rw [e]; rfl
    | false =>
      rcases h2.2 hb with e | e
      · rw [hb1] at e; cases e
      · right; rw [(h.1 hb1).2]; exact e
/-- what is made of what was read: it may fail -/
theorem ReadP.end_ {α β : Type} {l : List Int} {bad b1 : Bool} {o : Option (α × List Bool)} {f : α → Option β} {x : α} {y : β} {p1 : Nat} (h : ReadP l bad b1 o x p1) (h2 : f x = some y) : ReadP l bad b1 (o.bind fun q => (f q.1).map fun z => (z, q.2)) y p1 := by
  refine ⟨fun hb => ?_, fun hb => ?_⟩
  · obtain ⟨c1, c2⟩ := h.1 hb
    exact ⟨c1, by rw [c2]; simp [h2]⟩
  · rcases h.2 hb with e | e
    · exact .inl e
    · right; rw [e]; rfl
theorem ReadP.fail {α β : Type} {l : List Int} {bad b1 : Bool} {o : Option (α × List Bool)} {f : α → Option β} {x : α} {y : β} {p1 p2 : Nat} (h : ReadP l bad b1 o x p1) (h2 : f x = none) : ReadP l bad true (o.bind fun q => (f q.1).map fun z => (z, q.2)) y p2 := by
  refine ⟨(fun hb => by cases hb), fun _ => ?_⟩
  cases hb1 : b1 with
  | true =>
    rcases h.2 hb1 with e | e
    · exact .inl e
    · right; rw [e]; rfl
  | false => right; rw [(h.1 hb1).2]; simp [h2]
/-- samples of residuals: a call's answer -/
def RunP (w w' : World) (o : Option (List Int)) (e : Ending) : Prop := match o with
  | some x => ∃ u, e = .returned (.tuple #[u, .int .i64 0]) ∧ intE.Own 3 w' w.heap.size u x
  | none => e = .returned (.tuple #[.slice none 0 0, .int .i64 8])
/-- one sample more -/
theorem runO_snoc (g : List Int → Int) : ∀ (l out : List Int) (r : Int), runO g out (l ++ [r]) = (runO g out l).bind fun x => if r < -1099511627776 ∨ 1099511627776 < r then none else if okS (wrap64 (g x + r)) then some (x ++ [wrap64 (g x + r)]) else none
  | [], out, r => by
    simp only [List.nil_append, runO, Option.bind_some]
  | a :: l, out, r => by
    rw [List.cons_append]
    simp only [runO]
    split
    · rfl
    · split
      · exact runO_snoc g l _ r
      · rfl
theorem runO_none (g : List Int → Int) : ∀ (l m out : List Int), runO g out l = none → runO g out (l ++ m) = none
  | [], m, out, h => by cases h
  | a :: l, m, out, h => by
    rw [List.cons_append]
    simp only [runO] at h ⊢
    split
    · rfl
    · rename_i h1
      rw [if_neg h1] at h
      split
      · rename_i h2
        rw [if_pos h2] at h
        exact runO_none g l m _ h
      · rfl
theorem runO_len (g : List Int → Int) : ∀ (l out x : List Int), runO g out l = some x → x.length = out.length + l.length
  | [], out, x, h => by injection h with h; subst h; rfl
  | a :: l, out, x, h => by
    simp only [runO] at h
    split at h
    · cases h
    · split at h
      · have := runO_len g l _ x h
        simp at this ⊢
        omega
      · cases h
end Go.Proofs.YtoocebghlchcoaaGreat.ExtW
