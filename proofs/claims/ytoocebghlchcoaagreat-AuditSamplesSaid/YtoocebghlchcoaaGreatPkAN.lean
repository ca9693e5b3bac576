/- Several texts joined (see each one's head). -/
import Derived.Test.YtoocebghlchcoaaGreatPkAM
import Derived.Test.YtoocebghlchcoaaGreatPkAH
import Derived.Test.YtoocebghlchcoaaGreatPkAF
/- Contract of frame.reader: body. -/
namespace Go.Proofs.YtoocebghlchcoaaGreat.ExtW
open Go.RowKit Go.Ov Go.Proofs.YtoocebghlchcoaaGreat.Need
theorem body_none {kind n : Nat} {L : List Bool} (h : (n < 1 ∨ 64 < n) ∨ 18 < kind ∨ (2 ≤ kind ∧ kind ≤ 6 ∧ n < kind - 2) ∨ (6 < kind ∧ n ≤ kind - 6)) : bodyO kind n L = none := by
  unfold bodyO
  by_cases h1 : 18 < kind ∨ n < 1 ∨ 64 < n
  · rw [if_pos h1]
  · rw [if_neg h1, if_neg (by omega), if_neg (by omega)]
    by_cases h2 : kind ≤ 6
    · rw [if_pos h2, if_pos (by omega)]
    · rw [if_neg h2, if_pos (by omega)]
theorem body_fix {kind n o : Nat} {L : List Bool} (h : kind = o + 2) (ho : o ≤ 4) (hn : 1 ≤ n ∧ n ≤ 64) (hon : o ≤ n) : bodyO kind n L = (manyO sampleO o L).bind fun s => (resO (n - o) s.2).bind fun r => (runO (gSum (fixC o)) s.1 r.1).map fun x => (x, r.2) := by
  subst h
  unfold bodyO
  rw [if_neg (by omega), if_neg (by omega), if_neg (by omega), if_pos (by omega), if_neg (by omega), show o + 2 - 2 = o by omega]
theorem body_lpc {kind n o : Nat} {L : List Bool} (h : kind = o + 6) (h1 : 1 ≤ o) (ho : o ≤ 12) (hn : 1 ≤ n ∧ n ≤ 64) (hon : o < n) : bodyO kind n L = (manyO sampleO o L).bind fun s => (manyO coefO o s.2).bind fun c => (resO (n - o) c.2).bind fun r => (runO (gLpc c.1) s.1 r.1).map fun x => (x, r.2) := by
  subst h
  unfold bodyO
  rw [if_neg (by omega), if_neg (by omega), if_neg (by omega), if_neg (by omega), if_neg (by omega), show o + 6 - 6 = o by omega]
theorem body_verb {n : Nat} {L : List Bool} (hn : 1 ≤ n ∧ n ≤ 64) : bodyO 1 n L = manyO sampleO n L := by
  unfold bodyO
  rw [if_neg (by omega), if_neg (by omega), if_pos rfl]
theorem body_const {n : Nat} {L : List Bool} (hn : 1 ≤ n ∧ n ≤ 64) : bodyO 0 n L = (manyO sampleO 1 L).bind fun s => (some (List.replicate n (s.1.headD 0))).map fun x => (x, s.2) := by
  unfold bodyO
  rw [if_neg (by omega), if_pos rfl]
  simp only [manyO]
  cases sampleO L <;> rfl
theorem ReadP.coef {l : List Int} {bad bad' : Bool} {L : List Bool} {x p : Nat} (h : ReadP l bad bad' (takeN L 16) x p) : ReadP l bad bad' (coefO L) ((x : Int) - 32768) p := by
  refine ⟨fun hb => ⟨(h.1 hb).1, by unfold coefO; rw [(h.1 hb).2]; rfl⟩, fun hb => ?_⟩
  rcases h.2 hb with e | e
  · exact .inl e
  · right; unfold coefO; rw [e]; rfl
/-- what the body gives: samples, or an error, or the flag is set -/
def FBodyP (w w' : World) (F B : Nat) (v : Value) (l : List Int) (p kind n : Nat) (bad : Bool) (e : Ending) : Prop :=
  ∃ (u : Value) (er : Int) (xs : List Int) (p' : Nat) (bad' bad2 : Bool), e = .returned (.tuple #[u, .int .i64 er]) ∧ intE.Own 3 w' w.heap.size u xs ∧ xs.length ≤ 64 ∧ Kp (nbs [some F, some B]) w w' ∧ FrSt w' F B v l p' bad' ∧ ((er = 0 ∧ bad2 = bad') ∨ (er ≠ 0 ∧ bad2 = true)) ∧ ReadP l bad bad2 (bodyO kind n (leftB l p)) xs p'
theorem FBodyP.no {w w' : World} {F B : Nat} {v : Value} {l : List Int} {p p' kind n : Nat} {bad bad' : Bool} {er : Int} (hk : Kp (nbs [some F, some B]) w w') (hs : FrSt w' F B v l p' bad') (he : er ≠ 0) (h : ReadP l bad true (bodyO kind n (leftB l p)) [] p') : FBodyP w w' F B v l p kind n bad (.returned (.tuple #[.slice none 0 0, .int .i64 er])) :=
  ⟨_, er, [], p', bad', true, rfl, Enc.Own.nil _ _ _, by simp, hk, hs, .inr ⟨he, rfl⟩, h⟩
set_option maxHeartbeats 4000000 in
theorem fmbody_any (F B : Nat) (v : Value) (l : List Int) (p kind n : Nat) (bad : Bool) (w : World) (h : FrSt w F B v l p bad) (hk : kind < 256) (hn : n < 256) :
    Calls Tryz.prog 104 #[.pointer (some ⟨F, 0, none⟩), .int .i64 kind, .int .i64 n] w fun e w' => FBodyP w w' F B v l p kind n bad e := by
  have HF := Lib.hid h
  have HFB := Lib.hid (show F < w.heap.size ∧ B < w.heap.size from ⟨h.blk.lt, h.rd.blk.lt⟩)
  clear h
  go_enter Tryz.func104, Tryz.ntmps104
  by_cases hn1 : n < 1
  · have hi : (n : Int) < 1 := by omega
    go_wp2
    go_ret2
    exact FBodyP.no (Kp.refl _ _) HF.out (by decide) ⟨(fun h => by cases h), fun _ => .inr (body_none (.inl (.inl hn1)))⟩
  have hi1 : ¬ (n : Int) < 1 := by omega
  by_cases hn64 : 64 < n
  · have hi : (64 : Int) < n := by omega
    go_wp2
    go_ret2
    exact FBodyP.no (Kp.refl _ _) HF.out (by decide) ⟨(fun h => by cases h), fun _ => .inr (body_none (.inl (.inr hn64)))⟩
  have hi64 : ¬ (64 : Int) < n := by omega
  have HN := Lib.hid (show 1 ≤ n ∧ n ≤ 64 by omega)
  by_cases hk0 : kind = 0
  · subst hk0
    clear hn1 hn64
    go_wp2_with fail
    refine (fmsamples_any F B v l p 1 bad _ HF.out (by decide)).mono ?_
    rintro e w1 ⟨u1, rfl, xs, p1, bad1, ho1, hl1, hx1, hk1, hs1, hrd1⟩
    obtain ⟨s, rfl⟩ : ∃ s, xs = [s] := by
      cases xs with
      | nil => cases hl1
      | cons s t => cases t with
        | nil => exact ⟨s, rfl⟩
        | cons _ _ => simp at hl1
    have HO1 := Lib.hid ho1
    have HK1 := Lib.hid hk1
    have HS1 := Lib.hid hs1
    have HR1 := Lib.hid hrd1
    clear ho1 hl1 hx1 hk1 hs1 hrd1
    go_wp2_with fail
    go_loopg [8] n (fun gk x wr => ∃ (k : Nat) (ys : List Int), 1 ≤ k ∧ k ≤ n ∧ gk = n + 1 - k ∧ Hid (ys.length = k) ∧ Hid (ys = List.replicate k s) ∧ Hid (intE.Own 3 wr w.heap.size x ys) ∧ Hid (Kp (nbs [some F, some B]) w wr) ∧ Hid (FrSt wr F B v l p1 bad1))
    case atStart => exact ⟨1, [s], by omega, by omega, by omega, Lib.hid rfl, Lib.hid rfl, HO1, HK1, HS1⟩
    case round =>
      obtain ⟨k, ys, hk1, hkn, hgk, HL, HY, HO, HK, HS⟩ := hrel
      obtain ⟨A, c, rfl, -, -, -, hat⟩ := HO.out.is
      by_cases hlt : k < n
      · have hlti : ((ys.length : Nat) : Int) < n := by have := HL.out; omega
        have hl0 : 0 < ys.length := by have := HL.out; omega
        have hl0i : (0 : Int) < ys.length := by omega
        obtain ⟨ad, rfl, c0⟩ := int_at hat 0 hl0
        have hy0 : ys[0] = s := by have := HY.out; subst this; simp
        rw [hy0, show ad.add 0 = ad by unfold Addr.add; exact if_pos rfl] at c0
        clear hat hy0
        go_wp2_with (at_builtin; refine Enc.Own.append1 (E := intE) rfl (.tmp 28) (.tmp 32) 24 rfl w.heap.size 3 (.int .i64 0) 1 8 Tryz.underlying24 infoIntF rfl rfl (by decide) (by decide) _ ys rfl HO.out s _ rfl rfl rfl (by have := HL.out; omega) HK.out.size ?_; intro u2 w2 ho hg)
        have hal := (Bl.refl wr).alloc (.cells #[.int .i64 s] 3)
        have hr := fun g e => (HO.out.lt g e).1
        have hk2 := (HK.out.trans (Kp.of_bl hal)).grown hg hr
        have HS2 := Lib.hid (FrSt.keep HF.out hk2 (HS.out.bl hal) hg hr)
        have HK2 := Lib.hid hk2
        have HO2 := Lib.hid ho
        clear hal hr hk2 ho hg
        go_roundg (n + 1 - (k + 1))
        case measure => omega
        case rel => exact ⟨k + 1, ys ++ [s], by omega, by omega, rfl, Lib.hid (by rw [List.length_append, HL.out]; rfl), Lib.hid (by rw [HY.out, List.replicate_succ']), HO2, HK2, HS2⟩
      · obtain rfl : k = n := by omega
        have hlti : ¬ ((ys.length : Nat) : Int) < k := by have := HL.out; omega
        clear hat
        go_wp2
        go_ret2
        refine ⟨_, 0, ys, p1, bad1, bad1, rfl, HO.out, by have := HL.out; omega, HK.out, HS.out, .inl ⟨rfl, rfl⟩, ?_⟩
        rw [body_const HN.out]
        exact ReadP.end_ (f := fun z : List Int => some (List.replicate k (z.headD 0))) HR1.out (by rw [HY.out]; rfl)
  have hk0i : ¬ (kind : Int) = 0 := by omega
  by_cases hk1 : kind = 1
  · subst hk1
    clear hn1 hn64 hk0
    go_wp2_with fail
    refine (fmsamples_any F B v l p n bad _ HF.out (by have := HN.out; omega)).mono ?_
    rintro e w1 ⟨u1, rfl, xs, p1, bad1, ho1, hl1, hx1, hk1, hs1, hrd1⟩
    have HO1 := Lib.hid ho1
    have HK1 := Lib.hid hk1
    have HS1 := Lib.hid hs1
    have HR1 := Lib.hid hrd1
    have HL1 := Lib.hid hl1
    clear ho1 hl1 hx1 hk1 hs1 hrd1
    go_wp2
    go_ret2
    refine ⟨_, 0, xs, p1, bad1, bad1, rfl, HO1.out, by have := HL1.out; omega, HK1.out, HS1.out, .inl ⟨rfl, rfl⟩, ?_⟩
    rw [body_verb HN.out]
    exact HR1.out
  have hk1i : ¬ (kind : Int) = 1 := by omega
  by_cases hk6 : kind ≤ 6
  · obtain ⟨o, ho⟩ : ∃ o, o + 2 = kind := ⟨kind - 2, by omega⟩
    have hi2 : (2 : Int) ≤ kind := by omega
    have hi6 : (kind : Int) ≤ 6 := by omega
    have hw : IntKind.i64.wrap ((kind : Int) - 2) = (o : Int) := by rw [IntWalk.i64_in _ (by omega)]; omega
    have ho4 : o ≤ 4 := by omega
    have HOk := Lib.hid ho
    clear ho
    by_cases hon : o ≤ n
    · have hoi : (o : Int) ≤ n := by omega
      go_wp2_with fail
      refine (fmsamples_any F B v l p o bad _ HF.out (by omega)).mono ?_
      rintro e w1 ⟨u1, rfl, xs, p1, bad1, ho1, hl1, hx1, hk1, hs1, hrd1⟩
      obtain ⟨A, c, rfl⟩ := ho1.slice
      have HO1 := Lib.hid ho1
      have HK1 := Lib.hid hk1
      have HS1 := Lib.hid hs1
      have HR1 := Lib.hid hrd1
      have HL1 := Lib.hid hl1
      have HX1 := Lib.hid hx1
      obtain ⟨m, hm⟩ : ∃ m, m = n - o := ⟨_, rfl⟩
      have hw2 : IntKind.i64.wrap ((n : Int) - (xs.length : Int)) = (m : Int) := by rw [IntWalk.i64_in _ (by omega)]; omega
      have HM := Lib.hid hm
      clear ho1 hl1 hx1 hk1 hs1 hrd1 hm
      go_wp2_with fail
      refine (fmresiduals_any F B v l p1 m bad1 _ HS1.out (by have := HM.out; omega)).mono ?_
      rintro e w2 ⟨u2, rfl, rs, p2, bad2, ho2, hl2, -, -, hk2, hs2, hrd2⟩
      have HO1' := Lib.hid (hk2.own HO1.out fun g hg => nbs_iff.2 fun hm => by
        have h1 := (HO1.out.lt g hg).1
        have h2 := HFB.out
        simp only [List.mem_cons, List.not_mem_nil, or_false] at hm
        rcases hm with e | e <;> (injection e with e; omega))
      have HO2 := Lib.hid ho2
      have HK2 := Lib.hid (HK1.out.trans hk2)
      have HS2 := Lib.hid hs2
      have HR2 := Lib.hid hrd2
      have HL2 := Lib.hid hl2
      clear ho2 hl2 hk2 hs2 hrd2
      go_wp2_with fail
      refine (fxRestore_any _ u2 xs rs _ HO1'.out.is HO2.out.is (by have := HL1.out; omega) (by have := HL1.out; have := HL2.out; have := HM.out; have := HN.out; omega) HX1.out).mono ?_
      rintro e w3 ⟨hp, hb⟩
      unfold RunP at hp
      rw [HL1.out] at hp
      have HR2m := Lib.hid (HM.out ▸ HR2.out : ReadP l bad1 bad2 (resO (n - o) (leftB l p1)) rs p2)
      cases hrun : runO (gSum (fixC o)) xs rs with
      | none =>
        rw [hrun] at hp
        obtain rfl := hp
        have HQ := Lib.hid (HR1.out.bind (f := fun s => (resO (n - o) s.2).bind fun r => (runO (gSum (fixC o)) s.1 r.1).map fun x => (x, r.2)) (ReadP.fail (β := List Int) (y := []) (p2 := p2) HR2m.out hrun))
        have HKr := Lib.hid (HK2.out.trans (Kp.of_bl hb))
        have HSr := Lib.hid (HS2.out.bl hb)
        clear hb
        go_wp2
        go_ret2
        refine FBodyP.no HKr.out HSr.out (by decide) ?_
        rw [body_fix HOk.out.symm ho4 HN.out hon]
        exact HQ.out
      | some x =>
        rw [hrun] at hp
        obtain ⟨ux, rfl, hx⟩ := hp
        have HQ := Lib.hid (HR1.out.bind (f := fun s => (resO (n - o) s.2).bind fun r => (runO (gSum (fixC o)) s.1 r.1).map fun x => (x, r.2)) (ReadP.end_ HR2m.out hrun))
        have hlen := runO_len _ _ _ _ hrun
        have HKr := Lib.hid (HK2.out.trans (Kp.of_bl hb))
        have HSr := Lib.hid (HS2.out.bl hb)
        have HXx := Lib.hid (hx.low HK2.out.size)
        clear hb hx
        go_wp2
        go_ret2
        refine ⟨ux, 0, x, p2, bad2, bad2, rfl, HXx.out, by have := HL1.out; have := HL2.out; have := HM.out; have := HN.out; omega, HKr.out, HSr.out, .inl ⟨rfl, rfl⟩, ?_⟩
        rw [body_fix HOk.out.symm ho4 HN.out hon]
        exact HQ.out
    · have hoi : ¬ (o : Int) ≤ n := by omega
      have hgt : ¬ (6 : Int) < kind := by omega
      go_wp2
      go_ret2
      exact FBodyP.no (Kp.refl _ _) HF.out (by decide) ⟨(fun h => by cases h), fun _ => .inr (body_none (by have := HOk.out; omega))⟩
  have hi2 : (2 : Int) ≤ kind := by omega
  have hi6 : ¬ (kind : Int) ≤ 6 := by omega
  have hg6 : (6 : Int) < kind := by omega
  by_cases hk18 : 18 < kind
  · have hi18 : ¬ (kind : Int) ≤ 18 := by omega
    go_wp2
    go_ret2
    exact FBodyP.no (Kp.refl _ _) HF.out (by decide) ⟨(fun h => by cases h), fun _ => .inr (body_none (.inr (.inl hk18)))⟩
  have hi18 : (kind : Int) ≤ 18 := by omega
  obtain ⟨o, ho⟩ : ∃ o, o + 6 = kind := ⟨kind - 6, by omega⟩
  have hw : IntKind.i64.wrap ((kind : Int) - 6) = (o : Int) := by rw [IntWalk.i64_in _ (by omega)]; omega
  have ho1 : 1 ≤ o := by omega
  have ho12 : o ≤ 12 := by omega
  have HOk := Lib.hid ho
  clear ho hk6 hk18 hk0 hk1
  by_cases hon : o < n
  · have hoi : (o : Int) < n := by omega
    go_wp2_with fail
    refine (fmsamples_any F B v l p o bad _ HF.out (by omega)).mono ?_
    rintro e w1 ⟨u1, rfl, xs, p1, bad1, ho1, hl1, hx1, hk1, hs1, hrd1⟩
    obtain ⟨A, c, rfl⟩ := ho1.slice
    have HO1 := Lib.hid ho1
    have HK1 := Lib.hid hk1
    have HS1 := Lib.hid hs1
    have HR1 := Lib.hid hrd1
    have HL1 := Lib.hid hl1
    have HX1 := Lib.hid hx1
    obtain ⟨m, hm⟩ : ∃ m, m = n - o := ⟨_, rfl⟩
    have hw2 : IntKind.i64.wrap ((n : Int) - (xs.length : Int)) = (m : Int) := by rw [IntWalk.i64_in _ (by omega)]; omega
    have HM := Lib.hid hm
    clear ho1 hl1 hx1 hk1 hs1 hrd1 hm
    go_wp2_with fail
    go_loopg [11, 87] xs.length (fun gk u i wr => ∃ (k : Nat) (cs : List Int) (p' : Nat) (bad' : Bool), k ≤ xs.length ∧ gk = xs.length - k ∧ i = .int .i64 k ∧ Hid (cs.length = k) ∧ Hid (intE.Own 3 wr w1.heap.size u cs) ∧ Hid (∀ x ∈ cs, okC x = true) ∧ Hid (Kp (nbs [some F, some B]) w1 wr) ∧ Hid (FrSt wr F B v l p' bad') ∧ Hid (intE.Own 3 wr w.heap.size (.slice A xs.length c) xs) ∧ Hid (ReadP l bad1 bad' (manyO coefO k (leftB l p1)) cs p'))
    case atStart => exact ⟨0, [], p1, bad1, by omega, rfl, rfl, Lib.hid rfl, Lib.hid (Enc.Own.nil _ _ _), Lib.hid (by simp), Lib.hid (Kp.refl _ _), HS1, HO1, Lib.hid ⟨fun h => ⟨h, rfl⟩, fun h => .inl h⟩⟩
    case round =>
      obtain ⟨k, cs, p2, bad2, hk, hgk, rfl, HL, HO, HX, HK, HS, HOx, HRd⟩ := hrel
      by_cases hkn : k < xs.length
      · have hki : (k : Int) < xs.length := by omega
        obtain ⟨A2, c2, rfl⟩ := HO.out.slice
        go_wp2_with fail
        refine (fmget_any F B v l p2 16 bad2 _ HS.out (by decide)).mono ?_
        rintro e w3 ⟨hk3, x, p3, bad3, rfl, hx, hs3, hrd⟩
        have hFB1 : F < w1.heap.size ∧ B < w1.heap.size := ⟨HS1.out.blk.lt, HS1.out.rd.blk.lt⟩
        have HO3 := Lib.hid (hk3.own HO.out fun g hg => nbs_iff.2 fun hm => by
          have h1 := (HO.out.lt g hg).1
          simp only [List.mem_cons, List.not_mem_nil, or_false] at hm
          rcases hm with e | e <;> (injection e with e; omega))
        have HOx3 := Lib.hid (hk3.own HOx.out fun g hg => nbs_iff.2 fun hm => by
          have h1 := (HOx.out.lt g hg).1
          have h2 := HFB.out
          simp only [List.mem_cons, List.not_mem_nil, or_false] at hm
          rcases hm with e | e <;> (injection e with e; omega))
        have HK3 := Lib.hid (HK.out.trans hk3)
        have HS3 := Lib.hid hs3
        have HRd3 := Lib.hid (HRd.out.snoc hrd.coef)
        have HX3 := Lib.hid (show ∀ y ∈ cs ++ [(x : Int) - 32768], okC y = true from fun y hy => by
          rcases List.mem_append.1 hy with hy | hy
          · exact HX.out y hy
          · obtain rfl := List.mem_singleton.1 hy
            unfold okC
            simp
            omega)
        clear hk3 hs3 hrd hFB1
        obtain ⟨y, hy⟩ : ∃ y : Int, y = (x : Int) - 32768 := ⟨_, rfl⟩
        rw [← hy] at HRd3 HX3
        have hw1 : IntKind.i64.wrap ((x : Int) - 32768) = y := by rw [IntWalk.i64_in _ (by omega)]; exact hy.symm
        clear hy
        go_wp2_with (at_builtin; refine Enc.Own.append1 (E := intE) rfl (.tmp 89) (.tmp 93) 24 rfl w1.heap.size 3 (.int .i64 0) 1 8 Tryz.underlying24 infoIntF rfl rfl (by decide) (by decide) _ cs rfl HO3.out y _ rfl rfl rfl (by have := HL.out; have := HL1.out; omega) HK3.out.size ?_; intro u2 w5 ho hg)
        have hal := (Bl.refl w3).alloc (.cells #[.int .i64 y] 3)
        have hr := fun g e => (HO3.out.lt g e).1
        have hk2 := (HK3.out.trans (Kp.of_bl hal)).grown hg hr
        have HS5 := Lib.hid (FrSt.keep HS1.out hk2 (HS3.out.bl hal) hg hr)
        have HK5 := Lib.hid hk2
        have HO5 := Lib.hid ho
        have HOx5 := Lib.hid ((HOx3.out.bl hal).grown hg (by
          cases hq : (Value.slice A xs.length c).ownBlock with
          | none => exact .inl rfl
          | some g =>
            refine .inr fun e => ?_
            have := hr g e.symm
            have := (HO1.out.lt g hq).2
            omega))
        clear hal hr hk2 ho hg
        have hk12 : k < 12 := by have := HL1.out; omega
        go_roundg (xs.length - (k + 1))
        case measure => omega
        case rel => exact ⟨k + 1, cs ++ [y], p3, bad3, by omega, rfl, by (rw [wrap_in (by omega)]; rfl), Lib.hid (by rw [List.length_append, HL.out]; rfl), HO5, HX3, HK5, HS5, HOx5, HRd3⟩
      · obtain rfl : k = xs.length := by omega
        obtain ⟨A2, c2, rfl⟩ := HO.out.slice
        have hmay : mayC cs = true := by
          unfold mayC
          rw [Bool.and_eq_true, List.all_eq_true]
          refine ⟨HX.out, ?_⟩
          have h1 := HL.out
          have h2 := HL1.out
          simp
          omega
        go_wp2_with fail
        refine (fmresiduals_any F B v l p2 m bad2 _ HS.out (by have := HM.out; omega)).mono ?_
        rintro e w2 ⟨u2, rfl, rs, p3, bad3, ho2, hl2, -, -, hk2, hs2, hrd2⟩
        have hFB1 : F < w1.heap.size ∧ B < w1.heap.size := ⟨HS1.out.blk.lt, HS1.out.rd.blk.lt⟩
        have HOx2 := Lib.hid (hk2.own HOx.out fun g hg => nbs_iff.2 fun hm => by
          have h1 := (HOx.out.lt g hg).1
          have h2 := HFB.out
          simp only [List.mem_cons, List.not_mem_nil, or_false] at hm
          rcases hm with e | e <;> (injection e with e; omega))
        have HOc2 := Lib.hid (hk2.own HO.out fun g hg => nbs_iff.2 fun hm => by
          have h1 := (HO.out.lt g hg).1
          simp only [List.mem_cons, List.not_mem_nil, or_false] at hm
          rcases hm with e | e <;> (injection e with e; omega))
        have HO2 := Lib.hid ho2
        have HK2 := Lib.hid (HK1.out.trans (HK.out.trans hk2))
        have HS2 := Lib.hid hs2
        have HR2 := Lib.hid (show ReadP l bad2 bad3 (resO (n - o) (leftB l p2)) rs p3 from HM.out ▸ hrd2)
        have HL2 := Lib.hid hl2
        clear ho2 hl2 hk2 hs2 hrd2 hFB1
        have HRd' := Lib.hid (show ReadP l bad1 bad2 (manyO coefO o (leftB l p1)) cs p2 from HL1.out ▸ HRd.out)
        go_wp2_with fail
        refine (lpRestore_any _ u2 _ xs rs cs _ HOx2.out.is HO2.out.is HOc2.out.is hmay HL.out.symm (by have := HL1.out; have := HL2.out; have := HM.out; have := HN.out; omega) HX1.out).mono ?_
        rintro e w3 ⟨hp, hb⟩
        unfold RunP at hp
        cases hrun : runO (gLpc cs) xs rs with
        | none =>
          rw [hrun] at hp
          obtain rfl := hp
          have HQ := Lib.hid (HR1.out.bind (f := fun s => (manyO coefO o s.2).bind fun c => (resO (n - o) c.2).bind fun r => (runO (gLpc c.1) s.1 r.1).map fun x => (x, r.2)) (HRd'.out.bind (f := fun c => (resO (n - o) c.2).bind fun r => (runO (gLpc c.1) xs r.1).map fun x => (x, r.2)) (ReadP.fail (β := List Int) (y := []) (p2 := p3) HR2.out hrun)))
          have HKr := Lib.hid (HK2.out.trans (Kp.of_bl hb))
          have HSr := Lib.hid (HS2.out.bl hb)
          clear hb
          go_wp2
          go_ret2
          refine FBodyP.no HKr.out HSr.out (by decide) ?_
          rw [body_lpc HOk.out.symm ho1 ho12 HN.out hon]
          exact HQ.out
        | some x =>
          rw [hrun] at hp
          obtain ⟨ux, rfl, hx⟩ := hp
          have HQ := Lib.hid (HR1.out.bind (f := fun s => (manyO coefO o s.2).bind fun c => (resO (n - o) c.2).bind fun r => (runO (gLpc c.1) s.1 r.1).map fun x => (x, r.2)) (HRd'.out.bind (f := fun c => (resO (n - o) c.2).bind fun r => (runO (gLpc c.1) xs r.1).map fun x => (x, r.2)) (ReadP.end_ HR2.out hrun)))
          have hlen := runO_len _ _ _ _ hrun
          have HKr := Lib.hid (HK2.out.trans (Kp.of_bl hb))
          have HSr := Lib.hid (HS2.out.bl hb)
          have HXx := Lib.hid (hx.low HK2.out.size)
          clear hb hx
          go_wp2
          go_ret2
          refine ⟨ux, 0, x, p3, bad3, bad3, rfl, HXx.out, by have := HL1.out; have := HL2.out; have := HM.out; have := HN.out; omega, HKr.out, HSr.out, .inl ⟨rfl, rfl⟩, ?_⟩
          rw [body_lpc HOk.out.symm ho1 ho12 HN.out hon]
          exact HQ.out
  · have hoi : ¬ (o : Int) < n := by omega
    go_wp2
    go_ret2
    exact FBodyP.no (Kp.refl _ _) HF.out (by decide) ⟨(fun h => by cases h), fun _ => .inr (body_none (by have := HOk.out; omega))⟩
end Go.Proofs.YtoocebghlchcoaaGreat.ExtW

/- Contract of frame.Decode. -/
namespace Go.Proofs.YtoocebghlchcoaaGreat.ExtW
open Go.RowKit Go.Ov Go.Proofs.YtoocebghlchcoaaGreat.Need
theorem dec_bind (l : List Int) : decM (unpackB l) = ((takeN (leftB l 0) 8).bind fun p => (takeN p.2 8).bind fun q => bodyO p.1 q.1 q.2).bind fun x => if restO x.2 then some x.1 else none := by
  rw [show unpackB l = leftB l 0 from rfl, dec_body, Option.bind_assoc]
  congr 1; funext p
  rw [Option.bind_assoc]
/-- samples, or corrupt -/
def DecP (w w' : World) (o : Option (List Int)) (e : Ending) : Prop := match o with
  | some x => ∃ u, e = .returned (.tuple #[u, .int .i64 0]) ∧ intE.Own 3 w' w.heap.size u x ∧ x.length ≤ 64
  | none => e = .returned (.tuple #[.slice none 0 0, .int .i64 2])
theorem decM_of {l : List Int} {o : Option (List Int × List Bool)} {x : List Int} {p : Nat} {bad : Bool}
    (ho : decM (unpackB l) = o.bind fun x => if restO x.2 then some x.1 else none) (h : ReadP l false bad o x p) : decM (unpackB l) = if bad = true then none else if restO (leftB l p) then some x else none := by
  rw [ho]
  cases bad with
  | true =>
    rcases h.2 rfl with e | e
    · cases e
    · rw [e]; rfl
  | false =>
    rw [(h.1 rfl).2]
    simp
set_option maxHeartbeats 1000000 in
theorem fmDecode_any (v : Value) (l : List Int) (w : World) (h : byteE.Is w v l) (hl : l.length ≤ 1000000) (ho : okB l) :
    Calls Tryz.prog 69 #[v] w fun e w' => DecP w w' (decM (unpackB l)) e ∧ Bl w w' := by
  have HI := Lib.hid h
  have HDB := Lib.hid (dec_bind l)
  obtain ⟨r, hr⟩ : ∃ r, r = decM (unpackB l) := ⟨_, rfl⟩
  rw [← hr]
  have HR := Lib.hid hr
  clear h hr
  go_enter Tryz.func69, Tryz.ntmps69
  go_wp2_with fail
  refine (rNew_any v l _ HI.out hl ho).mono ?_
  rintro e w1 ⟨B, u, rfl, hb1, hB, hrd⟩
  have HB := Lib.hid hB
  have HS := Lib.hid (show FrSt (w1.alloc (.cells #[.pointer (some ⟨B, 0, none⟩), .bool false] 206)) w1.heap.size B u l 0 false from by
    have hlt := hrd.blk.lt
    refine ⟨Blk.new _ _ _, hrd.bl ((Bl.refl _).alloc _), ?_, by omega⟩
    refine (show Sub (only w1 (nbs [some B])) (only (w1.alloc (.cells #[.pointer (some ⟨B, 0, none⟩), .bool false] 206)) (nbs [some w1.heap.size, some B])) from fun ad q hq => ?_).is hrd.is
    obtain ⟨h1, h2⟩ := only_cell hq
    have hb := World.block_lt_of_cell? w1 ad h2
    refine cell_only (nbs_iff.2 fun hm => ?_) (((Bl.refl w1).alloc _).cell h2)
    simp only [List.mem_cons, List.not_mem_nil, or_false] at hm
    rcases hm with e | e
    · injection e with e; omega
    · exact nbs_iff.1 h1 (by rw [e]; simp))
  have HB1 := Lib.hid (hb1.alloc (.cells #[.pointer (some ⟨B, 0, none⟩), .bool false] 206))
  have HSz := Lib.hid hb1.size
  clear hb1 hrd hB
  go_wp2_with fail
  generalize hF : w1.heap.size = F at *
  generalize w1.alloc (.cells #[.pointer (some ⟨B, 0, none⟩), .bool false] 206) = w2 at *
  clear hF
  refine (fmget_any F B u l 0 8 false _ HS.out (by decide)).mono ?_
  rintro e w3 ⟨hk3, kind, p3, bad3, rfl, hx3, hs3, hrd3⟩
  have HK3 := Lib.hid hk3
  have HS3 := Lib.hid hs3
  have HR3 := Lib.hid hrd3
  clear hk3 hs3 hrd3
  go_wp2_with fail
  refine (fmget_any F B u l p3 8 bad3 _ HS3.out (by decide)).mono ?_
  rintro e w4 ⟨hk4, n, p4, bad4, rfl, hx4, hs4, hrd4⟩
  have HK4 := Lib.hid (HK3.out.trans hk4)
  have HS4 := Lib.hid hs4
  have HR4 := Lib.hid hrd4
  clear hk4 hs4 hrd4
  go_wp2_with fail
  refine (fmbody_any F B u l p4 kind n bad4 _ HS4.out hx3 hx4).mono ?_
  rintro e w5 ⟨u5, er, xs, p5, bad5, bad6, rfl, ho5, hl5, hk5, hs5, her, hrd5⟩
  have HRd := Lib.hid (HR.out.trans (decM_of (l := l) (HDB.out) (HR3.out.bind (f := fun p => (takeN p.2 8).bind fun q => bodyO p.1 q.1 q.2) (HR4.out.bind (f := fun q => bodyO kind q.1 q.2) hrd5))))
  have HK5 := Lib.hid (HK4.out.trans hk5)
  have HBl := Lib.hid (Kp.bl HB1.out HK5.out fun i hi => nbs_iff.2 fun hm => by
    have h1 := HB.out
    have h2 := HSz.out
    simp only [List.mem_cons, List.not_mem_nil, or_false] at hm
    rcases hm with e | e <;> (injection e with e; omega))
  have HX5 := Lib.hid (ho5.low (Nat.le_trans HB1.out.size HK4.out.size))
  have HS5 := Lib.hid hs5
  have c1 := hs5.blk.cell 1
  have c0 := hs5.blk.cell 0
  simp at c0 c1
  clear ho5 hk5 hs5 hrd5 hx3 hx4 HK5
  rcases her with ⟨rfl, rfl⟩ | ⟨her, rfl⟩
  · cases bad6
    · go_wp2_with fail
      refine (rRest_any B u l p5 _ HS5.out.rd).mono ?_
      rintro e w6 ⟨rfl, hb6⟩
      have HB6 := Lib.hid hb6
      have HRd2 := Lib.hid (HRd.out.trans (if_neg (by decide)))
      clear hb6 HRd
      cases hrest : restO (leftB l p5)
      · obtain rfl : r = none := by rw [HRd2.out, hrest]; rfl
        go_wp2
        go_ret2
        exact ⟨rfl, HBl.out.trans HB6.out⟩
      · obtain rfl : r = some xs := by rw [HRd2.out, hrest]; rfl
        go_wp2
        go_ret2
        exact ⟨⟨_, rfl, HX5.out.bl HB6.out, hl5⟩, HBl.out.trans HB6.out⟩
    · obtain rfl : r = none := by rw [HRd.out]; rfl
      go_wp2
      go_ret2
      exact ⟨rfl, HBl.out⟩
  · obtain rfl : r = none := by rw [HRd.out]; rfl
    have her' : (er != 0) = true := by simpa using her
    cases bad5
    · go_wp2
      go_ret2
      exact ⟨rfl, HBl.out⟩
    · go_wp2
      go_ret2
      exact ⟨rfl, HBl.out⟩
end Go.Proofs.YtoocebghlchcoaaGreat.ExtW

/- Contracts of crc: New, step. -/
namespace Go.Ov
open Go.RowKit
theorem wrap_u32v (n : Int) : IntKind.u32.wrap n = n % 4294967296 := by simp [IntKind.wrap, IntKind.bits, IntKind.signed]
theorem xor_u32 (a b : BitVec 32) : bits .xor .u32 (a.toNat : Int) (b.toNat : Int) = ((a ^^^ b).toNat : Int) := by
  have h : ∀ a : BitVec 32, BitVec.ofInt 32 (a.toNat : Int) = a := fun a => by rw [BitVec.ofInt_natCast, BitVec.ofNat_toNat]; simp
  have hx : (a ^^^ b).toNat < 4294967296 := (a ^^^ b).isLt
  show IntKind.u32.wrap ((BitVec.ofInt 32 (a.toNat : Int) ^^^ BitVec.ofInt 32 (b.toNat : Int)).toNat : Int) = _
  rw [h, h, wrap_u32v]; omega
theorem shl1_u32 (a : BitVec 32) : (a.toNat : Int) * (2 : Int) % (4294967296 : Int) = ((a <<< 1).toNat : Int) := by
  rw [BitVec.toNat_shiftLeft, Nat.shiftLeft_eq]; omega
theorem msb_u32 (a : BitVec 32) : ((a.toNat : Int) / 2147483648 == 1) = a.msb := by
  rw [BitVec.msb_eq_decide]
  have := a.isLt
  by_cases h : 2 ^ (32 - 1) ≤ a.toNat
  · simp only [h, decide_true, beq_iff_eq]; omega
  · simp only [h, decide_false, beq_eq_false_iff_ne, ne_eq]; omega
theorem Blk.newC {cs' : Array Value} (w : World) {cs : Array Value} (T : TypeId) (h : cs = cs') : Blk (w.alloc (.cells cs T)) w.heap.size cs' T := by rw [← h]; exact Blk.new _ _ _
theorem gb_drew {a b : World} {row : Option Nat} (h : a.grownBy b row) : a.grownBy b.drew row := ⟨h.os, h.tape, h.output, h.size, h.block⟩
end Go.Ov
namespace Go.Proofs.YtoocebghlchcoaaGreat.ExtW
open Go.RowKit Go.Ov Go.Proofs.YtoocebghlchcoaaGreat.Need

def tabL (d s : Int) (m : Bool) (f : Nat → Int) : List Value := .int .u32 d :: .int .i32 s :: .int .u32 0 :: .bool m :: (List.range 256).map fun i => .int .u32 (f i)
def tabC (d s : Int) (m : Bool) (f : Nat → Int) : Array Value := (tabL d s m f).toArray
theorem cnew_any (w : World) : Calls Tryz.prog 67 #[] w fun e w' => e = .returned (.pointer (some ⟨w.heap.size, 0, none⟩)) ∧ Bl w w' ∧ Blk w' w.heap.size (tabC 0 0 false fun _ => 0) 201 := by
  go_enter Tryz.func67, Tryz.ntmps67
  go_wp2
  go_ret
  exact ⟨rfl, (Bl.refl _).alloc _, Blk.newC _ _ (by kernel_rfl)⟩
theorem cstep_any (s : BitVec 32) (w : World) : Calls Tryz.prog 190 #[.int .u32 s.toNat] w fun e w' => e = .returned (.int .u32 (stepC 8 s).toNat) ∧ w' = w := by
  go_enter Tryz.func190, Tryz.ntmps190
  go_wp2_with fail
  go_loopg [0, 4] 8 (fun gk v i wr => ∃ (k : Nat) (t : BitVec 32), k ≤ 8 ∧ gk = 8 - k ∧ i = .int .i64 k ∧ v = .int .u32 t.toNat ∧ Hid (stepC (8 - k) t = stepC 8 s) ∧ wr = w)
  case atStart => exact ⟨0, s, by omega, rfl, rfl, rfl, Lib.hid rfl, rfl⟩
  case round =>
    obtain ⟨k, t, hk, hgk, rfl, rfl, HE, hw⟩ := hrel
    obtain rfl : w = wr := hw.symm
    by_cases hlt : k < 8
    · have hlti : (k : Int) < 8 := by omega
      have hm := msb_u32 t
      have HS := Lib.hid (show stepC (8 - k) t = stepC (8 - (k + 1)) (step1 t) by rw [show 8 - k = (8 - (k + 1)) + 1 by omega]; rfl)
      have HL := Lib.hid (shl1_u32 t)
      have HX := Lib.hid (xor_u32 (t <<< 1) polyC)
      cases hb : t.msb
      · rw [hb] at hm
        have H1 := Lib.hid (show step1 t = t <<< 1 by unfold step1; rw [hb]; rfl)
        go_wp2
        go_roundg (8 - (k + 1))
        case measure => omega
        case rel => exact ⟨k + 1, step1 t, by omega, rfl, by go_num, by rw [H1.out, ← HL.out], Lib.hid (by rw [← HS.out, HE.out]), rfl⟩
      · rw [hb] at hm
        have H1 := Lib.hid (show step1 t = (t <<< 1) ^^^ polyC by unfold step1; rw [hb]; rfl)
        go_wp2
        go_roundg (8 - (k + 1))
        case measure => omega
        case rel => exact ⟨k + 1, step1 t, by omega, rfl, by go_num, by rw [H1.out, ← HX.out, ← HL.out]; rfl, Lib.hid (by rw [← HS.out, HE.out]), rfl⟩
    · obtain rfl : k = 8 := by omega
      have HE2 := Lib.hid (show t = stepC 8 s from HE.out)
      go_wp2
      go_ret
      exact ⟨by rw [HE2.out]; rfl, rfl⟩
theorem cstep_at (x : Int) (s : BitVec 32) (h : x = s.toNat) (w : World) : Calls Tryz.prog 190 #[.int .u32 x] w fun e w' => e = .returned (.int .u32 (stepC 8 s).toNat) ∧ w' = w := by rw [h]; exact cstep_any s w
end Go.Proofs.YtoocebghlchcoaaGreat.ExtW
