/- Several texts joined (see each one's head). -/
import Derived.Test.YtoocebghlchcoaaGreatPkAI
/- Contracts of rice.Get, Zag. -/
namespace Go.Proofs.YtoocebghlchcoaaGreat.ExtW
open Go.RowKit Go.Ov Go.Proofs.YtoocebghlchcoaaGreat.Need
theorem leftB_drop (l : List Int) (p n : Nat) : (leftB l p).drop n = leftB l (p + n) := by unfold leftB; rw [List.drop_drop]
def IceP (w w' : World) (B : Nat) (v : Value) (l : List Int) (p k : Nat) (e : Ending) : Prop := Kp (nbs [some B]) w w' ∧
  match riceO (leftB l p) k with
  | some q => e = .returned (.tuple #[.int .i64 q.1, .bool true]) ∧ ∃ p', RdSt w' B v l p' ∧ leftB l p' = q.2
  | none => e = .returned (.tuple #[.int .i64 0, .bool false]) ∧ RdSt w' B v l p
theorem or_rice (q k z : Nat) (hq : q < 24) (hk : k ≤ 24) (hz : z < 2 ^ k) : bits .or .i64 ((q : Int) * 2 ^ k) (z : Int) = ((q * 2 ^ k + z : Nat) : Int) := by
  have hp : 2 ^ k ≤ 2 ^ 24 := Nat.pow_le_pow_right (by decide) hk
  have hm : q * 2 ^ k ≤ 24 * 2 ^ 24 := Nat.mul_le_mul (by omega) hp
  have e : ((q : Int) * 2 ^ k) = ((q * 2 ^ k : Nat) : Int) := by simp
  have hz' : (z : Int) < 2 ^ k := by
    have : (2 : Int) ^ k = ((2 ^ k : Nat) : Int) := by simp
    rw [this]; omega
  have := bits_join .i64 62 (by decide) (fun n h0 h1 => IntWalk.i64_in _ (by omega)) k ((q : Int) * 2 ^ k) z (by rw [e]; omega) (Int.mul_emod_left _ _) (by rw [e]; omega) (by omega) hz' (by omega)
  rw [this, Int.natCast_add, ← e]
theorem wrap_rice (q k : Nat) (hq : q < 24) (hk : k ≤ 24) : wrap64 ((q : Int) * 2 ^ k) = (q : Int) * 2 ^ k := by
  have hp : 2 ^ k ≤ 2 ^ 24 := Nat.pow_le_pow_right (by decide) hk
  have hm : q * 2 ^ k ≤ 24 * 2 ^ 24 := Nat.mul_le_mul (by omega) hp
  have e : ((q : Int) * 2 ^ k) = ((q * 2 ^ k : Nat) : Int) := by simp
  rw [e]
  unfold wrap64
  omega
set_option maxHeartbeats 2000000 in
theorem iceGet_any (B : Nat) (v : Value) (l : List Int) (p k : Nat) (w : World) (h : RdSt w B v l p) (hk : k ≤ 24) :
    Calls Tryz.prog 142 #[.pointer (some ⟨B, 0, none⟩), .int .i64 k] w fun e w' => IceP w w' B v l p k e := by
  have HR := Lib.hid h
  have hl := h.len
  have g1 : ¬ (k : Int) < 0 := by omega
  have g2 : ¬ (24 : Int) < k := by omega
  clear h
  go_enter Tryz.func142, Tryz.ntmps142
  go_wp2_with fail
  refine (rBack_any B v l p _ HR.out).mono ?_
  rintro e w1 ⟨B2, rfl, hb1, hB2, h2⟩
  have HB1 := Lib.hid hb1
  have H2 := Lib.hid h2
  have HG := Lib.hid (show ∀ i, i < w.heap.size → nbs [some B2] i = true from fun i hi => nbs_iff.2 fun hm => by
    have := List.mem_singleton.1 hm
    injection this with this
    omega)
  have HN := Lib.hid (show B ≠ B2 by have := HR.out.blk.lt; omega)
  clear hb1 h2
  go_wp2_with fail
  refine (rOnes_any B2 v l p 24 _ H2.out (by decide)).mono ?_
  rintro e w2 ⟨hk2, hm⟩
  have HB2 := Lib.hid (hk2.bl HB1.out HG.out)
  clear hk2
  obtain ⟨o, ho⟩ : ∃ o, o = onesM (leftB l p) 24 := ⟨_, rfl⟩
  rw [← ho] at hm
  have HO := Lib.hid ho.symm
  clear ho
  rcases o with _ | ⟨q, r⟩
  · obtain ⟨rfl, h3⟩ := hm
    go_wp2
    go_ret2
    refine ⟨Kp.of_bl HB2.out, ?_⟩
    have e : riceO (leftB l p) k = none := by unfold riceO; rw [HO.out]; rfl
    rw [e]
    exact ⟨rfl, HR.out.bl HB2.out⟩
  · obtain ⟨rfl, hq24, p2, h3, hr⟩ := hm
    have H3 := Lib.hid h3
    have HRr := Lib.hid hr
    clear h3 hr
    simp only at hq24
    by_cases hq : q = 24
    · subst hq
      go_wp2_with fail
      refine (rGet_any B2 v l p2 32 _ H3.out (by decide)).mono ?_
      rintro e w3 ⟨hk3, hm⟩
      have HB3 := Lib.hid (hk3.bl HB2.out HG.out)
      clear hk3
      rcases hm with ⟨hle, rfl, h4⟩ | ⟨hle, rfl, h4⟩
      · have e : riceO (leftB l p) k = if valB ((leftB l p2).take 32) / 2 ^ k < 24 then none else some (valB ((leftB l p2).take 32), leftB l (p2 + 32)) := by
          unfold riceO
          rw [HO.out]
          simp only [Option.bind_some, if_true]
          rw [← HRr.out]
          unfold takeN
          rw [if_pos (by rw [leftB_len]; exact hle)]
          simp only [Option.bind_some]
          rw [if_neg (by omega), leftB_drop]
        generalize valB ((leftB l p2).take 32) = z at *
        have H4 := Lib.hid h4
        have HE := Lib.hid e
        have hdv : (z : Int) / 2 ^ k = ((z / 2 ^ k : Nat) : Int) := by simp
        obtain ⟨y, hy⟩ : ∃ y, y = z / 2 ^ k := ⟨_, rfl⟩
        rw [← hy] at hdv
        have HY := Lib.hid hy
        clear h4 e hy
        by_cases hy24 : y < 24
        · have hyi : (y : Int) < 24 := by omega
          go_wp2
          go_ret2
          refine ⟨Kp.of_bl HB3.out, ?_⟩
          rw [HE.out, if_pos (by rw [← HY.out]; exact hy24)]
          exact ⟨rfl, HR.out.bl HB3.out⟩
        · have hyi : ¬ (y : Int) < 24 := by omega
          go_wp2_with fail
          refine (rTo_any B B2 v l p (p2 + 32) _ (HR.out.bl HB3.out) H4.out HN.out).mono ?_
          rintro e w4 ⟨rfl, hk4, h5⟩
          go_wp2
          go_ret2
          refine ⟨(Kp.of_bl HB3.out).trans hk4, ?_⟩
          rw [HE.out, if_neg (by rw [← HY.out]; exact hy24)]
          exact ⟨rfl, _, h5, rfl⟩
      · go_wp2
        go_ret2
        refine ⟨Kp.of_bl HB3.out, ?_⟩
        have e : riceO (leftB l p) k = none := by
          unfold riceO
          rw [HO.out]
          simp only [Option.bind_some, if_true]
          rw [← HRr.out]
          unfold takeN
          rw [if_neg (by rw [leftB_len]; omega)]
          rfl
        rw [e]
        exact ⟨rfl, HR.out.bl HB3.out⟩
    · have hqi : ¬ (q : Int) = 24 := by omega
      have hql : (q : Int) < 24 := by omega
      go_wp2_with fail
      refine (rGet_any B2 v l p2 k _ H3.out (by omega)).mono ?_
      rintro e w3 ⟨hk3, hm⟩
      have HB3 := Lib.hid (hk3.bl HB2.out HG.out)
      clear hk3
      rcases hm with ⟨hle, rfl, h4⟩ | ⟨hle, rfl, h4⟩
      · have hz := valB_lt ((leftB l p2).take k)
        rw [List.length_take, leftB_len, Nat.min_eq_left hle] at hz
        have hor := or_rice q k _ (by omega) hk hz
        have hwq := wrap_rice q k (by omega) hk
        have e : riceO (leftB l p) k = some (q * 2 ^ k + valB ((leftB l p2).take k), leftB l (p2 + k)) := by
          unfold riceO
          rw [HO.out]
          simp only [Option.bind_some]
          rw [if_neg hq, ← HRr.out]
          unfold takeN
          rw [if_pos (by rw [leftB_len]; exact hle)]
          simp only [Option.bind_some]
          rw [if_pos (by omega), leftB_drop]
        generalize valB ((leftB l p2).take k) = z at *
        have H4 := Lib.hid h4
        have HE := Lib.hid e
        clear h4 e
        go_wp2_with fail
        refine (rTo_any B B2 v l p (p2 + k) _ (HR.out.bl HB3.out) H4.out HN.out).mono ?_
        rintro e w4 ⟨rfl, hk4, h5⟩
        go_wp2
        go_ret2
        refine ⟨(Kp.of_bl HB3.out).trans hk4, ?_⟩
        rw [HE.out]
        exact ⟨rfl, _, h5, rfl⟩
      · go_wp2
        go_ret2
        refine ⟨Kp.of_bl HB3.out, ?_⟩
        have e : riceO (leftB l p) k = none := by
          unfold riceO
          rw [HO.out]
          simp only [Option.bind_some]
          rw [if_neg hq, ← HRr.out]
          unfold takeN
          rw [if_neg (by rw [leftB_len]; omega)]
          rfl
        rw [e]
        exact ⟨rfl, HR.out.bl HB3.out⟩
end Go.Proofs.YtoocebghlchcoaaGreat.ExtW

/- Contracts of rice.Zag, frame.reader: get. -/
namespace Go.Proofs.YtoocebghlchcoaaGreat.ExtW
open Go.RowKit Go.Ov Go.Proofs.YtoocebghlchcoaaGreat.Need
theorem iceZag_any (z : Int) (w : World) (hz : -9223372036854775808 ≤ z ∧ z ≤ 9223372036854775807) :
    Calls Tryz.prog 143 #[.int .i64 z] w fun e w' => e = .returned (.int .i64 (zagM z)) ∧ w' = w := by
  obtain ⟨r, hr⟩ : ∃ r, r = zagM z := ⟨_, rfl⟩
  rw [← hr]
  have HR := Lib.hid hr
  clear hr
  have hw1 : IntKind.i64.wrap (z + 1) = z + 1 ∨ 2199023255552 ≤ z := by
    by_cases h : 2199023255552 ≤ z
    · exact .inr h
    · exact .inl (IntWalk.i64_in _ (by omega))
  go_enter Tryz.func143, Tryz.ntmps143
  rcases (show z < 0 ∨ (¬ z < 0 ∧ 2199023255552 ≤ z) ∨ (¬ z < 0 ∧ ¬ 2199023255552 ≤ z) by omega) with h | ⟨h, h2⟩ | ⟨h, h2⟩
  · go_wp2
    go_ret
    exact ⟨by rw [HR.out]; unfold zagM; rw [if_pos (.inl h)]; rfl, rfl⟩
  · go_wp2
    go_ret
    exact ⟨by rw [HR.out]; unfold zagM; rw [if_pos (.inr h2)]; rfl, rfl⟩
  · have e1 : z.tmod 2 = z % 2 := Int.tmod_eq_emod_of_nonneg (by omega)
    have e2 : z.tdiv 2 = z / 2 := Int.tdiv_eq_ediv_of_nonneg (by omega)
    have hw : IntKind.i64.wrap (z + 1) = z + 1 := IntWalk.i64_in _ (by omega)
    have hw3 : IntKind.i64.wrap (-(z + 1)) = -(z + 1) := IntWalk.i64_in _ (by omega)
    have hd : (-(z + 1)).tdiv 2 = -((z + 1) / 2) := by rw [Int.neg_tdiv, Int.tdiv_eq_ediv_of_nonneg (by omega)]
    have hw4 : IntKind.i64.wrap (-((z + 1) / 2)) = -((z + 1) / 2) := IntWalk.i64_in _ (by omega)
    have hw5 : IntKind.i64.wrap (z / 2) = z / 2 := IntWalk.i64_in _ (by omega)
    clear hw1
    by_cases ho : z % 2 = 1
    · go_wp2
      go_ret
      exact ⟨by rw [HR.out]; unfold zagM; rw [if_neg (by omega), if_pos ho]; rfl, rfl⟩
    · go_wp2
      go_ret
      exact ⟨by rw [HR.out]; unfold zagM; rw [if_neg (by omega), if_neg ho]; rfl, rfl⟩
/-- a frame's reader in block F over a reader in block B -/
structure FrSt (w : World) (F B : Nat) (v : Value) (l : List Int) (p : Nat) (bad : Bool) : Prop where
  blk : Blk w F #[.pointer (some ⟨B, 0, none⟩), .bool bad] 206
  rd : RdSt w B v l p
  is2 : byteE.Is (only w (nbs [some F, some B])) v l
  ne : F ≠ B
/-- what was read is what stands there, or all is bad -/
def ReadP {α : Type} (l : List Int) (bad bad' : Bool) (o : Option (α × List Bool)) (x : α) (p' : Nat) : Prop := (bad' = false → bad = false ∧ o = some (x, leftB l p')) ∧ (bad' = true → bad = true ∨ o = none)
theorem FrSt.bl {w w' : World} {F B : Nat} {v : Value} {l : List Int} {p : Nat} {bad : Bool} (h : FrSt w F B v l p bad) (hb : Bl w w') : FrSt w' F B v l p bad := ⟨h.blk.bl hb, h.rd.bl hb, (Sub.bl (hb.only _)).is h.is2, h.ne⟩
theorem nbs2 {F B i : Nat} (h : nbs [some F, some B] i = true) : nbs [some B] i = true := nbs_iff.2 fun hm => nbs_iff.1 h (by
  have := List.mem_singleton.1 hm
  rw [this]; simp)
/-- the flag is set -/
theorem frst_set {w : World} {F B : Nat} {v : Value} {l : List Int} {p : Nat} {bad : Bool} (hb : Blk w F #[.pointer (some ⟨B, 0, none⟩), .bool bad] 206) (hr : RdSt w B v l p) (hi : byteE.Is (only w (nbs [some F, some B])) v l) (hne : F ≠ B) (bad' : Bool) :
    FrSt (w.setCell ⟨F, 1, none⟩ (.bool bad')) F B v l p bad' ∧ Kp (nbs [some F, some B]) w (w.setCell ⟨F, 1, none⟩ (.bool bad')) := by
  have hk : Kp (nbs [some F, some B]) w (w.setCell ⟨F, 1, none⟩ (.bool bad')) := Kp.of_gb (setCell_grown w F 1 (.bool bad')) fun k hk => nbs_not (by rw [← hk]; simp)
  have hi2 := hk.sub.is hi
  exact ⟨⟨hb.set 1 (.bool bad'), ⟨hr.blk.set_else F 1 (.bool bad') hne, (Sub.mono fun _ h => nbs2 h).is hi2, hr.len, hr.ok, hr.at_⟩, hi2, hne⟩, hk⟩
def FGetP (w w' : World) (F B : Nat) (v : Value) (l : List Int) (p n : Nat) (bad : Bool) (e : Ending) : Prop := Kp (nbs [some F, some B]) w w' ∧ ∃ (x p' : Nat) (bad' : Bool), e = .returned (.int .i64 x) ∧ x < 2 ^ n ∧ FrSt w' F B v l p' bad' ∧ ReadP l bad bad' (takeN (leftB l p) n) x p'
set_option maxHeartbeats 1000000 in
theorem fmget_any (F B : Nat) (v : Value) (l : List Int) (p n : Nat) (bad : Bool) (w : World) (h : FrSt w F B v l p bad) (hn : n ≤ 62) :
    Calls Tryz.prog 103 #[.pointer (some ⟨F, 0, none⟩), .int .i64 n] w fun e w' => FGetP w w' F B v l p n bad e := by
  have HF := Lib.hid h
  have c0 := h.blk.cell 0
  simp at c0
  clear h
  go_enter Tryz.func103, Tryz.ntmps103
  go_wp2_with fail
  refine (rGet_any B v l p n _ HF.out.rd hn).mono ?_
  rintro e w1 ⟨hk1, hm⟩
  have HK1 := Lib.hid (Kp.mono hk1 (fun i hi => nbs2 hi) : Kp (nbs [some F, some B]) w w1)
  have HB1 := Lib.hid (hk1.blk HF.out.blk (nbs_iff.2 fun hm => by
    have := List.mem_singleton.1 hm
    injection this with this
    exact HF.out.ne this))
  clear hk1
  have d1 := HB1.out.cell 1
  have f1 := HB1.out.frozen 1
  simp at d1
  rcases hm with ⟨hle, rfl, h4⟩ | ⟨hle, rfl, h4⟩
  · have HT := Lib.hid (show takeN (leftB l p) n = some (valB ((leftB l p).take n), leftB l (p + n)) by unfold takeN; rw [if_pos (by rw [leftB_len]; exact hle), leftB_drop])
    have hz := valB_lt ((leftB l p).take n)
    rw [List.length_take, leftB_len, Nat.min_eq_left hle] at hz
    generalize valB ((leftB l p).take n) = x at *
    have H4 := Lib.hid h4
    clear h4
    cases bad
    all_goals
      go_wp2
      go_ret
      have hs := frst_set HB1.out H4.out (HK1.out.sub.is HF.out.is2) HF.out.ne
      exact ⟨HK1.out.trans (hs _).2, x, p + n, _, rfl, hz, (hs _).1, by rw [HT.out]; exact ⟨fun h => ⟨h, rfl⟩, fun h => .inl h⟩⟩
  · have HT := Lib.hid (show takeN (leftB l p) n = none by unfold takeN; rw [if_neg (by rw [leftB_len]; omega)])
    have H4 := Lib.hid h4
    clear h4
    cases bad
    all_goals
      go_wp2
      go_ret
      have hs := frst_set HB1.out H4.out (HK1.out.sub.is HF.out.is2) HF.out.ne
      exact ⟨HK1.out.trans (hs _).2, 0, p, true, rfl, Nat.two_pow_pos n, (hs _).1, by rw [HT.out]; exact ⟨(fun h => by cases h), fun _ => .inr rfl⟩⟩
end Go.Proofs.YtoocebghlchcoaaGreat.ExtW

/- Contract of frame.reader: samples. -/
namespace Go.Proofs.YtoocebghlchcoaaGreat.ExtW
open Go.RowKit Go.Ov Go.Proofs.YtoocebghlchcoaaGreat.Need
theorem many_snoc {α : Type} (f : List Bool → Option (α × List Bool)) : ∀ (k : Nat) (l : List Bool), manyO f (k + 1) l = (manyO f k l).bind fun q => (f q.2).map fun r => (q.1 ++ [r.1], r.2)
  | 0, l => by
    simp only [manyO, Option.bind_some]
    cases f l <;> simp
  | k + 1, l => by
    rw [manyO]
    conv => rhs; rw [manyO]
    cases h : f l with
    | none => rfl
    | some p =>
      simp only [Option.bind_some]
      rw [many_snoc f k p.2]
      cases manyO f k p.2 with
      | none => rfl
      | some q =>
        simp only [Option.bind_some, Option.map_some]
        cases f q.2 <;> simp
theorem ReadP.snoc {α : Type} {l : List Int} {bad bad1 bad2 : Bool} {f : List Bool → Option (α × List Bool)} {k : Nat} {L : List Bool} {xs : List α} {x : α} {p1 p2 : Nat} (h : ReadP l bad bad1 (manyO f k L) xs p1) (h2 : ReadP l bad1 bad2 (f (leftB l p1)) x p2) :
    ReadP l bad bad2 (manyO f (k + 1) L) (xs ++ [x]) p2 := by
  rw [many_snoc]
  refine ⟨fun hb => ?_, fun hb => ?_⟩
  · obtain ⟨a1, a2⟩ := h2.1 hb
    obtain ⟨c1, c2⟩ := h.1 a1
    exact ⟨c1, by rw [c2]; simp [a2]⟩
  · cases hb1 : bad1 with
    | true =>
      rcases h.2 hb1 with e | e
      · exact .inl e
      · right; rw [e]; rfl
    | false =>
      rcases h2.2 hb with e | e
      · rw [hb1] at e; cases e
      · right; rw [(h.1 hb1).2]; simp [e]
theorem ReadP.sample {l : List Int} {bad bad' : Bool} {L : List Bool} {x p : Nat} (h : ReadP l bad bad' (takeN L 24) x p) : ReadP l bad bad' (sampleO L) ((x : Int) - 8388608) p := by
  refine ⟨fun hb => ⟨(h.1 hb).1, by unfold sampleO; rw [(h.1 hb).2]; rfl⟩, fun hb => ?_⟩
  rcases h.2 hb with e | e
  · exact .inl e
  · right; unfold sampleO; rw [e]; rfl
theorem FrSt.keep {w w1 w2 : World} {F B : Nat} {v : Value} {l : List Int} {p0 p : Nat} {b0 b : Bool} {row : Option Nat} (h0 : FrSt w F B v l p0 b0) (hk : Kp (nbs [some F, some B]) w w2) (hs : FrSt w1 F B v l p b) (hg : w1.grownBy w2 row) (hr : ∀ k, row = some k → w.heap.size ≤ k) : FrSt w2 F B v l p b := by
  have i2 := hk.sub.is h0.is2
  exact ⟨hs.blk.grown hg (fun e => by have := hr _ e; have := h0.blk.lt; omega), ⟨hs.rd.blk.grown hg (fun e => by have := hr _ e; have := h0.rd.blk.lt; omega), (Sub.mono fun _ h => nbs2 h).is i2, hs.rd.len, hs.rd.ok, hs.rd.at_⟩, i2, hs.ne⟩
def FSamP (w w' : World) (F B : Nat) (v : Value) (l : List Int) (p n : Nat) (bad : Bool) (u : Value) : Prop := ∃ (xs : List Int) (p' : Nat) (bad' : Bool), intE.Own 3 w' w.heap.size u xs ∧ xs.length = n ∧ (∀ x ∈ xs, okS x = true) ∧ Kp (nbs [some F, some B]) w w' ∧ FrSt w' F B v l p' bad' ∧ ReadP l bad bad' (manyO sampleO n (leftB l p)) xs p'
set_option maxHeartbeats 1000000 in
theorem fmsamples_any (F B : Nat) (v : Value) (l : List Int) (p n : Nat) (bad : Bool) (w : World) (h : FrSt w F B v l p bad) (hn : n ≤ 64) :
    Calls Tryz.prog 121 #[.pointer (some ⟨F, 0, none⟩), .int .i64 n] w fun e w' => ∃ u, e = .returned u ∧ FSamP w w' F B v l p n bad u := by
  have HF := Lib.hid h
  have HFB := Lib.hid (show F < w.heap.size ∧ B < w.heap.size from ⟨h.blk.lt, h.rd.blk.lt⟩)
  clear h
  go_enter Tryz.func121, Tryz.ntmps121
  go_wp2_with fail
  go_loopg [5, 7] n (fun gk u i wr => ∃ (k : Nat) (xs : List Int) (p' : Nat) (bad' : Bool), k ≤ n ∧ gk = n - k ∧ i = .int .i64 k ∧ Hid (xs.length = k) ∧ Hid (intE.Own 3 wr w.heap.size u xs) ∧ Hid (∀ x ∈ xs, okS x = true) ∧ Hid (Kp (nbs [some F, some B]) w wr) ∧ Hid (FrSt wr F B v l p' bad') ∧ Hid (ReadP l bad bad' (manyO sampleO k (leftB l p)) xs p'))
  case atStart => exact ⟨0, [], p, bad, by omega, rfl, rfl, Lib.hid rfl, Lib.hid (Enc.Own.nil _ _ _), Lib.hid (by simp), Lib.hid (Kp.refl _ _), HF, Lib.hid ⟨fun h => ⟨h, rfl⟩, fun h => .inl h⟩⟩
  case round =>
    obtain ⟨k, xs, p1, bad1, hk, hgk, rfl, HL, HO, HX, HK, HS, HRd⟩ := hrel
    by_cases hkn : k < n
    · have hki : (k : Int) < n := by omega
      obtain ⟨A, c, rfl⟩ := HO.out.slice
      go_wp2_with fail
      refine (fmget_any F B v l p1 24 bad1 _ HS.out (by decide)).mono ?_
      rintro e w1 ⟨hk1, x, p2, bad2, rfl, hx, hs2, hrd⟩
      have hw1 : IntKind.i64.wrap ((x : Int) + -8388608) = (x : Int) - 8388608 := by rw [IntWalk.i64_in _ (by omega)]; omega
      have HO1 := Lib.hid (hk1.own HO.out fun g hg => nbs_iff.2 fun hm => by
        have h1 := (HO.out.lt g hg).1
        have h2 := HFB.out
        simp only [List.mem_cons, List.not_mem_nil, or_false] at hm
        rcases hm with e | e <;> (injection e with e; omega))
      have HK1 := Lib.hid (HK.out.trans hk1)
      have HS1 := Lib.hid hs2
      have HRd1 := Lib.hid (HRd.out.snoc hrd.sample)
      have HX1 := Lib.hid (show ∀ y ∈ xs ++ [(x : Int) - 8388608], okS y = true from fun y hy => by
        rcases List.mem_append.1 hy with hy | hy
        · exact HX.out y hy
        · obtain rfl := List.mem_singleton.1 hy
          unfold okS
          simp
          omega)
      clear hk1 hs2 hrd
      obtain ⟨y, hy⟩ : ∃ y : Int, y = (x : Int) - 8388608 := ⟨_, rfl⟩
      rw [← hy] at hw1 HRd1 HX1
      clear hy
      go_wp2_with (at_builtin; refine Enc.Own.append1 (E := intE) rfl (.tmp 9) (.tmp 13) 24 rfl w.heap.size 3 (.int .i64 0) 1 8 Tryz.underlying24 infoIntF rfl rfl (by decide) (by decide) _ xs rfl HO1.out y _ rfl rfl rfl (by have := HL.out; omega) HK1.out.size ?_; intro u2 w2 ho hg)
      have hal := (Bl.refl w1).alloc (.cells #[.int .i64 y] 3)
      have hr := fun g e => (HO1.out.lt g e).1
      have hk2 := (HK1.out.trans (Kp.of_bl hal)).grown hg hr
      have HS2 := Lib.hid (FrSt.keep HF.out hk2 (HS1.out.bl hal) hg hr)
      have HK2 := Lib.hid hk2
      have HO2 := Lib.hid ho
      clear hal hr hk2 ho hg
      go_roundg (n - (k + 1))
      case measure => omega
      case rel => exact ⟨k + 1, xs ++ [y], p2, bad2, by omega, rfl, by go_num, Lib.hid (by rw [List.length_append, HL.out]; rfl), HO2, HX1, HK2, HS2, HRd1⟩
    · obtain rfl : k = n := by omega
      go_wp2
      go_ret
      exact ⟨_, rfl, xs, p1, bad1, HO.out, HL.out, HX.out, HK.out, HS.out, HRd.out⟩
end Go.Proofs.YtoocebghlchcoaaGreat.ExtW
