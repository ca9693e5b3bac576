/- Contracts of bits.Writer: NewWriter, put, Put, Ones, Len, Bytes. -/
import Derived.Test.YtoocebghlchcoaaNeed
import Derived.Test.YtoocebghlchcoaaWrP
import Derived.Test.YtoocebghlchcoaaCanon
namespace Go.Proofs.Ytoocebghlchcoaa.ExtW
open Go.RowKit Go.Ov Go.Proofs.Ytoocebghlchcoaa.Need

theorem infoByte : (Try.prog.info? 5).map (fun i => (i.zero, i.size, i.bytes)) = some (some (.int .u8 0), 1, 1) := by kernel_rfl
theorem or_new (x i : Nat) (hx : x % 2 ^ (i + 1) = 0) (hx1 : x < 256) (hi : i < 8) : bits .or .u8 (x : Int) ((2 ^ i : Nat) : Int) = ((x + 2 ^ i : Nat) : Int) := by
  have hp : 2 ^ i < 256 := by
    have : ∀ j : Fin 8, 2 ^ j.1 < 256 := by decide
    exact this ⟨i, hi⟩
  have hlt : 2 ^ i < 2 ^ (i + 1) := Nat.pow_lt_pow_right (by decide) (by omega)
  have hx' : (x : Int) % 2 ^ (i + 1) = 0 := by
    have e : ((2 : Int) ^ (i + 1)) = ((2 ^ (i + 1) : Nat) : Int) := by simp
    rw [e, ← Int.natCast_emod, hx]; rfl
  rw [bits_join .u8 8 (by decide) wraps_u8 (i + 1) x _ (by omega) hx' (by omega) (by omega) (by
    have e : ((2 : Int) ^ (i + 1)) = ((2 ^ (i + 1) : Nat) : Int) := by simp
    rw [e]; omega) (by omega)]
  omega
theorem add_zero_block (g q : Nat) : (⟨g, 0, none⟩ : Addr).add q = ⟨g, q, none⟩ := by unfold Addr.add; split <;> simp_all
theorem lies_ne {w : World} {row row' : Option Nat} {B : Nat} (h : Lies w row row') (hr : row ≠ some B) (hB : B < w.heap.size) : row' ≠ some B := by
  rcases h with e | ⟨g, e, hg⟩
  · rw [e]; exact hr
  · rw [e]; intro h; injection h with h; omega
/-- where a digit goes: the row, the byte -/
def SlotOk (bs : List Bool) (q r : Nat) (P : List Int) : Prop := P.length = q + 1 ∧ (∃ o : Nat, P.getD q 0 = (o : Int) ∧ o < 256 ∧ o % 2 ^ (8 - r) = 0) ∧ ∀ b, packB (bs ++ [b]) = P.set q (P.getD q 0 + ((bv b * 2 ^ (7 - r) : Nat) : Int))
theorem slot_new (bs : List Bool) (q : Nat) (h : bs.length = 8 * q) : SlotOk bs q 0 (packB bs ++ [0]) := by
  have hl := packB_len bs
  have hq : (packB bs).length = q := by omega
  have hg : (packB bs ++ [0]).getD q 0 = 0 := by rw [List.getD_eq_getElem?_getD, List.getElem?_append_right (by omega)]; simp [hq]
  refine ⟨by simp [hq], ⟨0, by rw [hg]; rfl, by decide, by simp⟩, fun b => ?_⟩
  rw [packB_snoc_new bs b (by omega), hg, List.set_append_right _ _ (by omega), hq, Nat.sub_self]
  simp
theorem slot_old (bs : List Bool) (q r : Nat) (hr : r < 7) (h : bs.length = 8 * q + (r + 1)) : SlotOk bs q (r + 1) (packB bs) := by
  have hl := packB_len bs
  have hq : bs.length / 8 = q := by omega
  have hm : bs.length % 8 = r + 1 := by omega
  have hlt : q < (packB bs).length := by omega
  have hg : (packB bs).getD q 0 = (byteAt bs q : Int) := by rw [List.getD_eq_getElem?_getD, List.getElem?_eq_getElem hlt, Option.getD_some, packB_at]
  refine ⟨by omega, ⟨byteAt bs q, hg, byteAt_lt bs q, by have := byteAt_low bs; rw [hq, hm] at this; exact this⟩, fun b => ?_⟩
  have := packB_snoc_old bs b (by omega) (by omega)
  simp only [hq, hm] at this
  rw [this, hg, packB_at]

set_option maxRecDepth 100000 in
set_option maxHeartbeats 1000000 in
theorem wput_any (base B : Nat) (v : Value) (bs : List Bool) (b : Bool) (w : World) (h : WrSt 80 5 w base B v bs) (hl : bs.length ≤ 1000000) :
    Calls Try.prog 31 #[.pointer (some ⟨B, 0, none⟩), .bool b] w fun e w' => ∃ v', e = .returned (.tuple #[]) ∧ WrSt 80 5 w' base B v' (bs ++ [b]) ∧ WStep base w w' B v v' := by
  have HW := Lib.hid h
  obtain ⟨q, r, hr8, hn⟩ : ∃ q r, r < 8 ∧ bs.length = 8 * q + r := ⟨bs.length / 8, bs.length % 8, by omega, by omega⟩
  have hblk := h.blk
  rw [hn] at hblk hl
  have HN := Lib.hid hn
  have ho := h.own
  obtain ⟨P, hP⟩ : ∃ P, P = packB bs := ⟨_, rfl⟩
  rw [← hP] at ho
  have HP := Lib.hid hP
  have HO := Lib.hid ho
  obtain ⟨A, c, rfl⟩ := ho.slice
  have HPL := Lib.hid (show P.length = (bs.length + 7) / 8 by rw [hP]; exact packB_len bs)
  have hpl : P.length ≤ 200000 := by have := HPL.out; omega
  have HNE := Lib.hid (h.ne (by decide))
  have c0 := hblk.cell 0
  have c1 := hblk.cell 1
  have f0 := hblk.frozen 0
  have f1 := hblk.frozen 1
  have hB := hblk.lt
  have hbase := Lib.hid h.low
  simp at c0 c1
  have hu := Try.underlying80
  clear hn h hP ho
  go_enter Try.func31, Try.ntmps31
  go_upto_if 9 with (fail)
  go_cut [] (fun wc => ∃ (g c2 : Nat) (P2 : List Int), Hid (byteE.Own 5 wc base (.slice (some ⟨g, 0, none⟩) P2.length c2) P2) ∧ Hid (Blk wc B #[.slice (some ⟨g, 0, none⟩) P2.length c2, .int .i64 (8 * q + r : Nat)] 80) ∧ Hid (WStep base w wc B (.slice A P.length c) (.slice (some ⟨g, 0, none⟩) P2.length c2)) ∧ Hid (SlotOk bs q r P2))
  case first =>
    cases r with
    | zero =>
      go_wp2_with (at_builtin; refine Enc.Own.append1L (E := byteE) rfl (.tmp 14) (.tmp 15) 44 rfl base 5 (.int .u8 0) 1 1 Try.underlying44 infoByte rfl rfl (by decide) (by decide) _ P rfl HO.out 0 _ rfl rfl rfl (by omega) (by have := hbase.out; omega) ?_; intro v1 w6 ho hg hli; obtain ⟨A1, c1', rfl⟩ := id ho.slice; have hb6 := Blk.grown (hblk.bl ((Bl.refl w).alloc _)) hg HNE.out; have g0 := hb6.cell 0; have k0 := hb6.frozen 0; simp at g0)
      go_meet
      have ho' := ho
      rcases ho'.parts with ⟨_, e2⟩ | ⟨g, c2, e, _⟩
      · simp at e2
      · simp only [Value.slice.injEq] at e
        obtain ⟨rfl, _, rfl⟩ := e
        have hne := lies_ne hli HNE.out (by rw [show (w.alloc (.cells #[.int .u8 0] 5)).heap.size = w.heap.size + 1 by simp]; omega)
        refine ⟨g, c1', P ++ [0], Lib.hid (ho.grown (setCell_grown _ _ _ _) (.inr hne)), Lib.hid (by have := hb6.set 0 (.slice (some ⟨g, 0, none⟩) (P ++ [(0 : Int)]).length c1'); simpa using this), Lib.hid ?_, Lib.hid (by rw [HP.out]; exact slot_new bs q HN.out)⟩
        have h1 := (WStep.of_bl (base := base) (B := B) (v := .slice A P.length c) ((Bl.refl w).alloc (.cells #[.int .u8 0] 5))).trans (WStep.grow hg hli (fun k hk => (HO.out.lt k hk).1))
        have h2 := h1.trans (WStep.setB hbase.out 0 (.slice (some ⟨g, 0, none⟩) (P ++ [(0 : Int)]).length c1'))
        simpa using h2
    | succ r =>
      have hs := slot_old bs q r (by omega) HN.out
      rw [← HP.out] at hs
      rcases HO.out.parts with ⟨e, e2⟩ | ⟨g, c2, e, _⟩
      · rw [hs.1] at e2; omega
      · simp only [Value.slice.injEq] at e
        obtain ⟨rfl, _, rfl⟩ := e
        have HSl := Lib.hid hs
        clear hs
        go_wp2_with fail
        go_meet
        exact ⟨g, c, P, HO, Lib.hid hblk, Lib.hid (WStep.refl _ _ _ _), HSl⟩
  case rest =>
  clear f0 f1 c0 c1 hpl hblk HO HPL HNE
  obtain ⟨g, c2, P2, HO2, HK2, HST, HSL⟩ := hcut
  obtain ⟨hl2, ⟨o, ho1, ho2, ho3⟩, hpk⟩ := HSL.out
  have HPK := Lib.hid hpk
  have HNE := Lib.hid (own_ne_blk HO2.out HK2.out (by decide))
  have c0 := HK2.out.cell 0
  have c1 := HK2.out.cell 1
  have f1 := HK2.out.frozen 1
  have hB2 := HK2.out.lt
  simp at c0 c1
  have hw1 : IntKind.i64.wrap (8 * (q : Int) + r + 1) = 8 * (q : Int) + r + 1 := IntWalk.i64_in _ (by omega)
  cases b
  · have hP : packB (bs ++ [false]) = P2 := by
      rw [hpk, ho1]
      apply List.ext_getElem (by simp)
      intro i h1 h2
      rw [List.getElem_set]
      split
      · rename_i e
        subst e
        rw [List.getD_eq_getElem?_getD, List.getElem?_eq_getElem h2, Option.getD_some] at ho1
        simp [bv, ho1]
      · rfl
    have HPf := Lib.hid hP
    clear hP hpk ho1
    go_wp2_with fail
    go_end0
    refine ⟨_, rfl, ⟨?_, by rw [HPf.out]; exact HO2.out.grown (setCell_grown _ _ _ _) (.inr HNE.out), hbase.out⟩, HST.out.trans (WStep.setB hbase.out _ _)⟩
    have h1 := HK2.out.set 1 (.int .i64 (8 * (q : Int) + r + 1))
    have e : (((bs ++ [false]).length : Nat) : Int) = 8 * (q : Int) + r + 1 := by rw [List.length_append, HN.out]; simp
    rw [e]
    simpa using h1
  · have HO1 := Lib.hid ho1
    obtain ⟨_, _, e3, _, _, _, hat⟩ := HO2.out.is
    simp only [Value.slice.injEq] at e3
    obtain ⟨rfl, e5, e6⟩ := e3
    obtain ⟨ad, e4, d0⟩ := byte_at hat q (by omega)
    injection e4 with e4
    subst e4
    have hq0 : P2[q]'(by omega) = (o : Int) := by rw [List.getD_eq_getElem?_getD, List.getElem?_eq_getElem (by omega), Option.getD_some] at ho1; exact ho1
    rw [hq0] at d0
    have HL2 := Lib.hid hl2
    have i1 : (q : Int) < P2.length := by omega
    have i2 : q < P2.length := by omega
    have hquo' : (8 * (q : Int) + r).tdiv 8 = q := by rw [Int.tdiv_eq_ediv_of_nonneg (by omega)]; omega
    have hrem' : (8 * (q : Int) + r).tmod 8 = r := by rw [Int.tmod_eq_emod_of_nonneg (by omega)]; omega
    have hwq : IntKind.i64.wrap (q : Int) = q := IntWalk.i64_in _ (by omega)
    clear hpk ho1 hq0 hat e5 e6 hl2
    go_wp2_with fail
    refine wp_region_ways (S := (fun w' => w'.cell? ⟨B, 0, none⟩ = some (.slice (some ⟨g, 0, none⟩) P2.length c2) ∧ w'.cell? ⟨B, 1, none⟩ = some (.int .i64 (8 * (q : Int) + r)))) [0, 1, 2, 3, 4, 5, 6, 7, 8, 9, 11, 12, 13, 14, 15, 16, 17, 18] (y := .take 0 (.take 1 (.take 2 (.take 3 (.take 4 (.take 5 (.take 6 (.take 7 (.take 8 (.take 9 (.take 11 (.take 12 (.take 13 (.take 14 (.take 15 (.take 16 (.ev 10 (.take 17 (.take 18 (.ev 19 (.done) (.stop)))) (.stop)))))))))))))))))) (by kernel_rfl) (by kernel_rfl) (by kernel_rfl) ?_ (fun hHeld => ?_)
    · exact ⟨(Bl.refl _).drew.cell c0, (Bl.refl _).drew.cell c1⟩
    have HHe := Lib.hid hHeld
    have HOd := Lib.hid (show byteE.Own 5 wc.drew base (.slice (some ⟨g, 0, none⟩) P2.length c2) P2 from HO2.out.bl (Bl.refl _).drew)
    have HKd := Lib.hid (HK2.out.bl (Bl.refl _).drew)
    have hsh : (128 : Int) / 2 ^ r = ((2 ^ (7 - r) : Nat) : Int) := by
      have : ∀ j : Fin 8, (128 : Int) / 2 ^ j.1 = ((2 ^ (7 - j.1) : Nat) : Int) := by decide
      exact this ⟨r, hr8⟩
    have hor : bits .or .u8 (o : Int) ((2 ^ (7 - r) : Nat) : Int) = (o : Int) + ((2 ^ (7 - r) : Nat) : Int) := by rw [← Int.natCast_add]; exact or_new o (7 - r) (by rw [show 7 - r + 1 = 8 - r by omega]; exact ho3) ho2 (by omega)
    have hob := (OwnBlk.of HOd.out).cell q (by show q < P2.length * 1; omega)
    have fr0 := hob.2
    have d1 : wc.drew.cell? ⟨g, q, none⟩ = some (.int .u8 o) := (Bl.refl wc).drew.cell (by rw [← add_zero_block]; exact d0)
    generalize hpw : 2 ^ (7 - r) = pw at *
    clear hob
    have HPW := Lib.hid hpw
    clear hHeld d0 hpw
    repeat (first | (refine wpWay_take rfl (by rfl) (by intro w hSw; (try dsimp only at hSw); first | (go_simp; done) | (go_simp; with_reducible rfl)) ?_; try simp only [Act.put, List.setIfInBounds_toArray, List.set_cons_zero, List.set_cons_succ]) | (refine wpWay_skip rfl (by rfl) ?_; try simp only [Act.put, List.setIfInBounds_toArray, List.set_cons_zero, List.set_cons_succ]))
    refine wpWay_ev rfl (fun K hK => ?_) wpWay_stop
    go_wp2_with fail
    refine ⟨HHe.out, ?_⟩
    repeat (first | (refine wpWay_take rfl (by rfl) (by intro w hSw; (try dsimp only at hSw); first | (go_simp; done) | (go_simp; with_reducible rfl)) ?_; try simp only [Act.put, List.setIfInBounds_toArray, List.set_cons_zero, List.set_cons_succ]) | (refine wpWay_skip rfl (by rfl) ?_; try simp only [Act.put, List.setIfInBounds_toArray, List.set_cons_zero, List.set_cons_succ]))
    refine wpWay_ev rfl (fun K hK => ?_) wpWay_stop
    go_wp2_with fail
    have hgB : g ≠ B := fun e => HNE.out (by rw [e]; rfl)
    have HKs := Lib.hid (show Blk (wc.setCell ⟨g, q, none⟩ (.int .u8 ((o : Int) + pw))).drew B _ _ from (HK2.out.set_else g q (.int .u8 ((o : Int) + pw)) hgB).bl (Bl.refl _).drew)
    have c0 := HKs.out.cell 0
    have c1 := HKs.out.cell 1
    have f1 := HKs.out.frozen 1
    simp at c0 c1
    refine ⟨⟨c0, c1⟩, ?_⟩
    repeat (first | (refine wpWay_take rfl (by rfl) (by intro w hSw; (try dsimp only at hSw); first | (go_simp; done) | (go_simp; with_reducible rfl)) ?_; try simp only [Act.put, List.setIfInBounds_toArray, List.set_cons_zero, List.set_cons_succ]) | (refine wpWay_skip rfl (by rfl) ?_; try simp only [Act.put, List.setIfInBounds_toArray, List.set_cons_zero, List.set_cons_succ]))
    refine wpWay_done ?_
    clear d1 hor hsh fr0
    go_wp2_with fail
    go_end0
    have hown := (byte_put HO2.out q ((o : Int) + pw)).resolve_right (by have := HL2.out; omega)
    refine ⟨_, rfl, ⟨?_, ?_, hbase.out⟩, ((HST.out.trans (WStep.setV rfl (HO2.out.lt g rfl).1 _ _)).trans (WStep.setB hbase.out _ _)).trans (WStep.of_bl (Bl.refl _).drew)⟩
    · have h1 := ((HK2.out.set_else g q (.int .u8 ((o : Int) + pw)) hgB).set 1 (.int .i64 (8 * (q : Int) + r + 1))).bl (Bl.refl _).drew
      have e : (((bs ++ [true]).length : Nat) : Int) = 8 * (q : Int) + r + 1 := by rw [List.length_append, HN.out]; simp
      rw [e]
      simpa using h1
    · rw [HPK.out, HO1.out]
      rw [show ((bv true * pw : Nat) : Int) = pw by simp [bv]]
      have h2 := (hown.grown (setCell_grown _ B 1 (.int .i64 (8 * (q : Int) + r + 1))) (.inr HNE.out)).bl (Bl.refl _).drew
      simpa using h2

theorem wNew_any (w : World) : Calls Try.prog 23 #[] w fun e w' => e = .returned (.pointer (some ⟨w.heap.size, 0, none⟩)) ∧ WrSt 80 5 w' w.heap.size w.heap.size (.slice none 0 0) [] ∧ Bl w w' := by
  go_enter Try.func23, Try.ntmps23
  go_wp2
  go_ret
  exact ⟨rfl, ⟨Blk.new _ _ _, Enc.Own.nil _ _ _, Nat.le_refl _⟩, (Bl.refl _).alloc _⟩

set_option maxRecDepth 100000 in
set_option maxHeartbeats 1000000 in
theorem wPut_any (base B : Nat) (v : Value) (bs : List Bool) (x : Int) (n : Nat) (w : World) (h : WrSt 80 5 w base B v bs) (hl : bs.length ≤ 900000) (hn : n ≤ 62) (hx : 0 ≤ x) (hx' : x ≤ 4611686018427387903) :
    Calls Try.prog 24 #[.pointer (some ⟨B, 0, none⟩), .int .i64 x, .int .i64 n] w fun e w' => ∃ v', e = .returned (.bool true) ∧ WrSt 80 5 w' base B v' (bs ++ numB x n) ∧ WStep base w w' B v v' := by
  have HW := Lib.hid h
  clear h
  go_enter Try.func24, Try.ntmps24
  have hn2 : ¬ (n : Int) < 0 := by omega
  have hn3 : ¬ (62 : Int) < n := by omega
  go_wp2_with fail
  go_loopg [7] n (fun gk i wr => ∃ (k : Nat) (done : List Bool) (v' : Value), k ≤ n ∧ gk = k ∧ i = .int .i64 ((k : Int) - 1) ∧ Hid (numB x n = done ++ numB x k) ∧ Hid (WrSt 80 5 wr base B v' (bs ++ done)) ∧ Hid (WStep base w wr B v v'))
  case atStart => exact ⟨n, [], v, Nat.le_refl _, rfl, rfl, Lib.hid rfl, Lib.hid (by simpa using HW.out), Lib.hid (WStep.refl _ _ _ _)⟩
  case round =>
    obtain ⟨k, done, v', hk, hgk, rfl, HD, HS, HT⟩ := hrel
    cases k with
    | zero =>
      go_wp2_with fail
      go_ret
      have e : numB x n = done := by have := HD.out; simpa [numB] using this
      exact ⟨v', rfl, by rw [e]; exact HS.out, HT.out⟩
    | succ k =>
      have hk1 : ((k + 1 : Nat) : Int) - 1 = k := by omega
      rw [hk1]
      have hx2 : 0 ≤ x / 2 ^ k ∧ x / 2 ^ k ≤ x := by
        have hp : (0 : Int) < 2 ^ k := Int.pow_pos (by decide)
        exact ⟨Int.ediv_nonneg hx (by omega), Int.ediv_le_self _ hx⟩
      have hand : bits .and .i64 (x / 2 ^ k) 1 = x / 2 ^ k % 2 := by
        have := bits_mask .i64 62 (by decide) (fun n h0 h1 => IntWalk.i64_in _ (by omega)) 1 (by decide) (x / 2 ^ k) hx2.1 (by omega)
        simpa using this
      have HDl := Lib.hid (show done.length ≤ 62 by have := congrArg List.length HD.out; rw [List.length_append, numB_len] at this; omega)
      go_wp2_with fail
      refine (wput_any base B v' (bs ++ done) (x / 2 ^ k % 2 == 1) wr HS.out (by rw [List.length_append]; have := HDl.out; omega)).mono ?_
      rintro e w' ⟨v'', rfl, hs, ht⟩
      have HS2 := Lib.hid hs
      have HT2 := Lib.hid (HT.out.trans ht)
      clear hs ht
      go_wp2_with fail
      go_roundg k
      case measure => omega
      case rel =>
        refine ⟨k, done ++ [x / 2 ^ k % 2 == 1], v'', by omega, rfl, by go_num, Lib.hid ?_, Lib.hid (by rw [← List.append_assoc]; exact HS2.out), HT2⟩
        rw [HD.out, numB, List.append_assoc, List.singleton_append]
        rfl
theorem wOnes_any (base B : Nat) (v : Value) (bs : List Bool) (n : Nat) (w : World) (h : WrSt 80 5 w base B v bs) (hl : bs.length ≤ 900000) (hn : n ≤ 1024) :
    Calls Try.prog 42 #[.pointer (some ⟨B, 0, none⟩), .int .i64 n] w fun e w' => ∃ v', e = .returned (.bool true) ∧ WrSt 80 5 w' base B v' (bs ++ List.replicate n true ++ [false]) ∧ WStep base w w' B v v' := by
  have HW := Lib.hid h
  clear h
  go_enter Try.func42, Try.ntmps42
  have hn2 : ¬ (n : Int) < 0 := by omega
  have hn3 : ¬ (1024 : Int) < n := by omega
  go_wp2_with fail
  go_loopg [12] n (fun gk i wr => ∃ (k : Nat) (v' : Value), k ≤ n ∧ gk = n - k ∧ i = .int .i64 k ∧ Hid (WrSt 80 5 wr base B v' (bs ++ List.replicate k true)) ∧ Hid (WStep base w wr B v v'))
  case atStart => exact ⟨0, v, Nat.zero_le _, rfl, rfl, Lib.hid (by simpa using HW.out), Lib.hid (WStep.refl _ _ _ _)⟩
  case round =>
    obtain ⟨k, v', hk, hgk, rfl, HS, HT⟩ := hrel
    by_cases hlt : k < n
    · have hlti : (k : Int) < n := by omega
      go_wp2_with fail
      refine (wput_any base B v' (bs ++ List.replicate k true) true wr HS.out (by rw [List.length_append, List.length_replicate]; omega)).mono ?_
      rintro e w' ⟨v'', rfl, hs, ht⟩
      have HS2 := Lib.hid hs
      have HT2 := Lib.hid (HT.out.trans ht)
      clear hs ht
      go_wp2_with fail
      go_roundg (n - (k + 1))
      case measure => omega
      case rel => exact ⟨k + 1, v'', by omega, rfl, by go_num, Lib.hid (by rw [List.replicate_succ', ← List.append_assoc]; exact HS2.out), HT2⟩
    · obtain rfl : k = n := by omega
      go_wp2_with fail
      refine (wput_any base B v' (bs ++ List.replicate k true) false wr HS.out (by rw [List.length_append, List.length_replicate]; omega)).mono ?_
      rintro e w' ⟨v'', rfl, hs, ht⟩
      have HS2 := Lib.hid hs
      have HT2 := Lib.hid (HT.out.trans ht)
      clear hs ht
      go_wp2_with fail
      go_ret
      exact ⟨v'', rfl, HS2.out, HT2.out⟩

theorem wLen_any (base B : Nat) (v : Value) (bs : List Bool) (w : World) (h : WrSt 80 5 w base B v bs) : Calls Try.prog 19 #[.pointer (some ⟨B, 0, none⟩)] w fun e w' => e = .returned (.int .i64 bs.length) ∧ w' = w := by
  have c1 := h.blk.cell 1
  simp at c1
  go_enter Try.func19, Try.ntmps19
  go_wp2
  go_ret
  exact ⟨rfl, rfl⟩

theorem wBytes_any (base B : Nat) (v : Value) (bs : List Bool) (w : World) (h : WrSt 80 5 w base B v bs) (hl : bs.length ≤ 1000000) : Calls Try.prog 20 #[.pointer (some ⟨B, 0, none⟩)] w fun e w' => ∃ u, e = .returned u ∧ byteE.Own 5 w' w.heap.size u (packB bs) ∧ Bl w w' := by
  have c0 := h.blk.cell 0
  simp at c0
  have HO := Lib.hid h.own
  have HL := Lib.hid (packB_len bs)
  go_enter Try.func20, Try.ntmps20
  go_wp2_with (at_builtin; refine Enc.Own.append (E := byteE) rfl _ _ 44 rfl w.heap.size 5 (.int .u8 0) 1 1 Try.underlying44 infoByte rfl rfl (by decide) (by decide) (.slice none 0 0) [] rfl (Enc.Own.nil _ _ _) v _ rfl HO.out.is ?hlen (Nat.le_refl _) ?_; (case hlen => have := HL.out; rw [this]; simp; omega); intro u w1 ho hg)
  go_ret
  exact ⟨u, rfl, by simpa using ho, (Bl.refl w).grown hg (by simp [Value.ownBlock])⟩
end Go.Proofs.Ytoocebghlchcoaa.ExtW
