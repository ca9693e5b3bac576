/- Several texts joined (see each one's head). -/
import Derived.Test.YtoocebghlchcoaaGreatPkBB
import Derived.Test.YtoocebghlchcoaaGreatPkAZ
import Derived.Test.YtoocebghlchcoaaGreatPkAU
/- Contracts, weak ones, of the document's own blocks (overdubref05): Encode, Seal, Pack. -/
namespace Go.Proofs.YtoocebghlchcoaaGreat.ExtW
open Go.RowKit Go.Ov Go.Proofs.YtoocebghlchcoaaGreat.Need
set_option maxHeartbeats 2000000 in
theorem q5Encode_any (v : Value) (l : List Int) (w : World) (h : intE.Is w v l) (h1 : 1 ≤ l.length) (hx : chkM l = 0) :
    Calls Tryz.prog 19 #[v] w fun e w' => ∃ u, e = .returned (.tuple #[u, .int .i64 0]) ∧ QB w' u 1001 ∧ Bl w w' := by
  have HI := Lib.hid h
  obtain ⟨A, c, rfl⟩ : ∃ A c, v = .slice A l.length c := by obtain ⟨A, c, e, _⟩ := h; exact ⟨A, c, e⟩
  have hl64 := (chk_ok hx).2
  have HX := Lib.hid hx
  have hl1 : ¬ (l.length : Int) < 1 := by omega
  have hl64i : ¬ (64 : Int) < l.length := by omega
  clear h hx
  go_enter Tryz.func19, Tryz.ntmps19
  go_wp2_with fail
  refine (q5May_any _ l _ HI.out (by omega)).mono ?_
  rintro e w ⟨rfl, rfl⟩
  rw [HX.out]
  go_wp2_with fail
  go_loopg [4, 5] 19 (fun gk b i wr => ∃ (k : Nat), k ≤ 19 ∧ gk = 19 - k ∧ i = .int .i64 k ∧ Hid (QB wr b 8000) ∧ Hid (Bl w wr))
  case atStart => exact ⟨0, by omega, rfl, rfl, Lib.hid (QB.nil _ _), Lib.hid (Bl.refl _)⟩
  case round =>
    obtain ⟨k, hk, hgk, rfl, HQ, HB⟩ := hrel
    obtain ⟨xs, hxs, hxo, hxl⟩ := HQ.out
    obtain ⟨Ab, cb, rfl⟩ : ∃ A c, u4 = .slice A xs.length c := by obtain ⟨A, c, e, _⟩ := hxs; exact ⟨A, c, e⟩
    clear hxs hxo hxl
    by_cases hk19 : k < 19
    · have hki : (k : Int) ≤ 18 := by omega
      go_wp2_with fail
      refine (q5digits_any _ l k _ (HI.out.bl HB.out) (by omega) h1 HX.out).mono ?_
      rintro e w2 ⟨hb2, u2, ok, rfl, hu2⟩
      obtain ⟨ys, hys, hyo, hyl⟩ := id hu2
      obtain ⟨A2, c2, rfl⟩ : ∃ A c, u2 = .slice A ys.length c := by obtain ⟨A, c, e, _⟩ := hys; exact ⟨A, c, e⟩
      have HU2 := Lib.hid hu2
      have HB2 := Lib.hid (HB.out.trans hb2)
      have HQ2 := Lib.hid (HQ.out.bl hb2)
      clear hys hyo hyl hu2 hb2
      cases ok
      · go_wp2_with fail
        go_roundg (19 - (k + 1))
        case measure => omega
        case rel => exact ⟨k + 1, by omega, rfl, by go_num, HQ2, HB2⟩
      · rcases (show xs.length = 0 ∨ (¬ xs.length = 0 ∧ ys.length < xs.length) ∨ (¬ xs.length = 0 ∧ ¬ ys.length < xs.length) by omega) with h | ⟨h, h2⟩ | ⟨h, h2⟩
        · have hi : (xs.length : Int) = 0 := by omega
          generalize xs.length = n at *
          subst h
          go_wp2_with fail
          go_roundg (19 - (k + 1))
          case measure => omega
          case rel => exact ⟨k + 1, by omega, rfl, by go_num, HU2, HB2⟩
        · have hi : ¬ (xs.length : Int) = 0 := by omega
          have hi2 : (ys.length : Int) < xs.length := by omega
          generalize xs.length = n at *
          go_wp2_with fail
          go_roundg (19 - (k + 1))
          case measure => omega
          case rel => exact ⟨k + 1, by omega, rfl, by go_num, HU2, HB2⟩
        · have hi : ¬ (xs.length : Int) = 0 := by omega
          have hi2 : ¬ (ys.length : Int) < xs.length := by omega
          generalize xs.length = n at *
          go_wp2_with fail
          go_roundg (19 - (k + 1))
          case measure => omega
          case rel => exact ⟨k + 1, by omega, rfl, by go_num, HQ2, HB2⟩
    · have hki : ¬ (k : Int) ≤ 18 := by omega
      go_wp2_with fail
      refine (q1Bytes_any _ 8000 _ HQ.out (by omega)).mono ?_
      rintro e w2 ⟨u2, rfl, hu2, hb2⟩
      have HU2 := Lib.hid hu2
      have HB2 := Lib.hid (HB.out.trans hb2)
      clear hu2 hb2
      go_wp2
      go_ret2
      exact ⟨_, rfl, HU2.out, HB2.out⟩
/-- a sector, or an error -/
def SecP (w w' : World) (e : Ending) : Prop := Bl w w' ∧ ∃ u c, e = .returned (.tuple #[u, .int .i64 c]) ∧ (c = 0 → ∃ s, byteE.Is w' u s ∧ s.length = 128 ∧ okB s)
theorem q5Seal_any (v : Value) (w : World) (h : QB w v 1001) :
    Calls Tryz.prog 20 #[v] w fun e w' => SecP w w' e := by
  obtain ⟨xs, hi, ho, hl⟩ := h
  have HI := Lib.hid hi
  have HO := Lib.hid ho
  obtain ⟨A, c, rfl⟩ : ∃ A c, v = .slice A xs.length c := by obtain ⟨A, c, e, _⟩ := hi; exact ⟨A, c, e⟩
  clear hi ho
  go_enter Tryz.func20, Tryz.ntmps20
  by_cases h124 : 124 < xs.length
  · have hi : (124 : Int) < xs.length := by omega
    go_wp2
    go_ret2
    exact ⟨Bl.refl _, _, 4, rfl, fun h => by cases h⟩
  · have hi : ¬ (124 : Int) < xs.length := by omega
    go_wp2_with fail
    refine (q1Summed_any _ xs 124 _ HI.out (by omega) (by decide) HO.out).mono ?_
    rintro e w1 ⟨u1, rfl, hu1, hb1⟩
    have HU1 := Lib.hid hu1.is
    have HB1 := Lib.hid hb1
    clear hu1 hb1
    go_wp2
    go_ret2
    refine ⟨HB1.out, _, 0, rfl, fun _ => ⟨_, HU1.out, ?_, ?_⟩⟩
    · unfold padN sum4; simp; omega
    · intro b hb
      rcases List.mem_append.1 hb with hb | hb
      · exact padN_ok HO.out 124 b hb
      · exact sum4_ok _ b hb
/-- as many samples as there is room for, or an error -/
def PackP (w w' : World) (L : Nat) (e : Ending) : Prop := Bl w w' ∧ ∃ u m c, e = .returned (.tuple #[u, .int .i64 (m : Nat), .int .i64 c]) ∧ (c = 0 → 1 ≤ m ∧ m ≤ L ∧ ∃ s, byteE.Is w' u s ∧ s.length = 128 ∧ okB s)
theorem chk_take {l : List Int} (h : chkM l = 0) (m : Nat) : chkM (l.take m) = 0 := by
  obtain ⟨h1, h2⟩ := chk_ok h
  unfold chkM
  rw [if_pos (by rw [List.all_eq_true] at *; exact fun x hx => h1 x (List.mem_of_mem_take hx)), if_neg (by simp; omega)]
set_option maxRecDepth 100000 in
set_option maxHeartbeats 2000000 in
theorem q5Pack_any (v : Value) (l : List Int) (w : World) (h : intE.Is w v l) (hx : chkM l = 0) :
    Calls Tryz.prog 6 #[v] w fun e w' => PackP w w' l.length e := by
  have HI := Lib.hid h
  obtain ⟨A, c, rfl, g1, g2, g3, h4⟩ := h
  have HA := Lib.hid h4
  have HC := Lib.hid g1
  have hl64 := (chk_ok hx).2
  have HS := Lib.hid (List.all_eq_true.1 (chk_ok hx).1)
  have HX := Lib.hid hx
  clear g1 g2 g3 h4 hx
  go_enter Tryz.func6, Tryz.ntmps6
  by_cases hl0 : l.length = 0
  · have hi : (l.length : Int) = 0 := by omega
    generalize l.length = n at *
    subst hl0
    go_wp2
    go_ret3
    exact ⟨Bl.refl _, _, 0, 4, rfl, fun h => by cases h⟩
  · have hli : ¬ (l.length : Int) = 0 := by omega
    have hli0 : ((l.length : Int) == 0) = false := by simpa using hl0
    have hmin : min (l.length : Int) 64 = l.length := by omega
    go_wp2_with fail
    go_loopg [16] l.length (fun gk i wr => ∃ k : Nat, k ≤ l.length ∧ gk = l.length - k ∧ i = .int .i64 k ∧ wr = w)
    case atStart => exact ⟨0, by omega, rfl, rfl, rfl⟩
    case round =>
      obtain ⟨k, hk, hgk, rfl, hw⟩ := hrel
      obtain rfl : w = wr := hw.symm
      by_cases hlt : k < l.length
      · have hlti : (k : Int) < l.length := by omega
        obtain ⟨ad, rfl, c0⟩ := int_at HA.out k hlt
        have hs := HS.out _ (List.getElem_mem hlt)
        generalize l[k] = x at *
        unfold okS at hs
        simp only [Bool.and_eq_true, decide_eq_true_eq] at hs
        have hx1 : ¬ x < -8388608 := by omega
        have hx2 : ¬ 8388607 < x := by omega
        clear hs
        go_wp2_with fail
        go_roundg (l.length - (k + 1))
        case measure => omega
        case rel => exact ⟨k + 1, by omega, rfl, by go_num, rfl⟩
      · obtain rfl : k = l.length := by omega
        go_wp2_with fail
        go_loopg [6] l.length (fun gk i wr => ∃ m : Nat, m ≤ l.length ∧ gk = m ∧ i = .int .i64 m ∧ Hid (Bl w wr))
        case atStart => exact ⟨l.length, by omega, rfl, rfl, Lib.hid (Bl.refl _)⟩
        case round =>
          obtain ⟨m, hm, hgm, rfl, HB⟩ := hrel
          by_cases hm0 : 0 < m
          · have hmi : (0 : Int) < m := by omega
            obtain ⟨V, hV, hVI⟩ := slice_h (E := intE) (P := Tryz.prog) (t := 24) (by kernel_rfl) (fun w => by kernel_rfl) A c l (m : Int) (by omega) (by omega) HC.out
            have HV := Lib.hid (show intE.Is w V (l.take m) by have := hVI w HI.out; rwa [Int.toNat_natCast] at this)
            clear hVI
            go_wp2_with fail
            refine (q5Encode_any V (l.take m) _ (HV.out.bl HB.out) (by rw [List.length_take]; omega) (chk_take HX.out m)).mono ?_
            rintro e w2 ⟨u2, rfl, hu2, hb2⟩
            have HU2 := Lib.hid hu2
            have HB2 := Lib.hid (HB.out.trans hb2)
            clear hu2 hb2
            go_wp2_with fail
            refine (q5Seal_any u2 _ HU2.out).mono ?_
            rintro e w3 ⟨hb3, u3, c3, rfl, hs3⟩
            have HB3 := Lib.hid (HB2.out.trans hb3)
            have HS3 := Lib.hid hs3
            clear hb3 hs3
            by_cases hc0 : c3 = 0
            · subst hc0
              go_wp2
              go_ret3
              exact ⟨HB3.out, _, m, 0, rfl, fun _ => ⟨hm0, hm, by first | exact HS3.out rfl | exact HS3.out trivial⟩⟩
            · have hwm : IntKind.i64.wrap ((m : Int) - 1) = ((m - 1 : Nat) : Int) := by rw [IntWalk.i64_in _ (by omega)]; omega
              go_wp2_with fail
              go_roundg (m - 1)
              case measure => omega
              case rel => exact ⟨m - 1, by omega, rfl, rfl, HB3⟩
          · have hmi : ¬ (0 : Int) < m := by omega
            go_wp2
            go_ret3
            exact ⟨HB.out, _, 0, 4, rfl, fun h => by cases h⟩
end Go.Proofs.YtoocebghlchcoaaGreat.ExtW

/- Contract of overdublaw16.Row. -/
namespace Go.Proofs.YtoocebghlchcoaaGreat.ExtW
open Go.RowKit Go.Ov Go.Proofs.YtoocebghlchcoaaGreat.Need

end Go.Proofs.YtoocebghlchcoaaGreat.ExtW

/- Contracts of overdubkeep's generic helps at extents and at pairs. -/
namespace Go.Proofs.YtoocebghlchcoaaGreat.ExtW
open Go.RowKit Go.Ov Go.Proofs.YtoocebghlchcoaaGreat.Need

def eqE (x y : Ext) : Bool := decide (x = y)
def eqP (x y : Int × Int) : Bool := decide (x = y)
theorem eq_ext (x0 x1 x2 x3 x4 y0 y1 y2 y3 y4 : Int) (w : World) :
    (Op.equalIn 10000 34 (.agg #[.int .i64 x0, .int .i64 x1, .int .i64 x2, .int .i64 x3, .int .i64 x4]) (.agg #[.int .i64 y0, .int .i64 y1, .int .i64 y2, .int .i64 y3, .int .i64 y4])).run Tryz.prog w = .ok (eqE ⟨x0, x1, x2, x3, x4⟩ ⟨y0, y1, y2, y3, y4⟩) w := by
  have hu := Tryz.underlying34
  have hi := Tryz.underlying3
  unfold eqE
  go_simp
  by_cases h0 : x0 = y0 <;> by_cases h1 : x1 = y1 <;> by_cases h2 : x2 = y2 <;> by_cases h3 : x3 = y3 <;> by_cases h4 : x4 = y4 <;> simp [h0, h1, h2, h3, h4]
def pairE : Enc (Int × Int) := ⟨2, fun x => [.int .i64 x.1, .int .i64 x.2], fun _ => rfl, fun x u h => by simp at h; rcases h with rfl | rfl <;> rfl⟩
theorem pair_at {w : World} {A : Option Addr} {xs : List (Int × Int)} (h : pairE.At w A xs) (k : Nat) (hk : k < xs.length) :
    ∃ ad, A = some ad ∧ w.cell? (ad.add (k * 2)) = some (.int .i64 xs[k].1) ∧ w.cell? ⟨(ad.add (k * 2)).block, (ad.add (k * 2)).off + 1, none⟩ = some (.int .i64 xs[k].2) := by
  obtain ⟨ad, e, hc⟩ := h k _ (List.getElem?_eq_getElem hk)
  refine ⟨ad, e, ?_, ?_⟩
  · exact hc 0 _ rfl
  · rw [← add_at _ _ 1 (by decide)]; exact hc 1 _ rfl
set_option maxHeartbeats 1000000 in
theorem copyExt_any (v : Value) (l : List Ext) (w : World) (h : extE.Is w v l) (hn : l.length * 40 ≤ 140737488355328) :
    Calls Tryz.prog 8 #[v] w fun e w' => ∃ u, e = .returned u ∧ extE.Own 34 w' w.heap.size u l ∧ Bl w w' := by
  have HH := Lib.hid h
  clear h
  go_enter Tryz.func8, Tryz.ntmps8
  go_wp2_with (at_builtin; refine Enc.Own.append (E := extE) rfl (.const (.slice none 0 0)) (.tmp 3) 23 rfl w.heap.size 34 (.agg #[.int .i64 0, .int .i64 0, .int .i64 0, .int .i64 0, .int .i64 0]) 5 40 Tryz.underlying23 infoExt rfl rfl (by decide) (by decide) (.slice none 0 0) [] rfl (Enc.Own.nil _ _ _) v l rfl HH.out ?hlen (Nat.le_refl _) ?_; (case hlen => simpa using hn); intro v1 w1 ho hg)
  go_ret
  exact ⟨_, rfl, ho, (Bl.refl _).grown hg (fun k hk => by simp [Value.ownBlock] at hk)⟩
/-- the first m of a slice -/
theorem Enc.Is.take {α : Type} {E : Enc α} {w : World} {A : Option Addr} {c : Nat} {l : List α} (h : E.Is w (.slice A l.length c) l) (m : Nat) : E.Is w (.slice A (min l.length m) c) (l.take m) := by
  obtain ⟨A', c', e, h1, h2, h3, h4⟩ := h
  simp at e
  obtain ⟨rfl, rfl⟩ := e
  refine ⟨A, c, by rw [List.length_take, Nat.min_comm], by rw [List.length_take]; omega, h2, h3, fun i x hx => h4 i x ?_⟩
  rw [List.getElem?_take] at hx
  split at hx
  · exact hx
  · cases hx
set_option maxHeartbeats 1000000 in
theorem kcutExt_any (v : Value) (l : List Ext) (m : Nat) (w : World) (h : extE.Is w v l) (hm : m ≤ 1000) :
    Calls Tryz.prog 9 #[v, .int .i64 m] w fun e w' => ∃ u, e = .returned u ∧ extE.Is w' u (l.take m) ∧ w = w' := by
  obtain ⟨A, c, rfl, h1, h2, h3, h4⟩ := h
  have HH := Lib.hid (show extE.Is w (.slice A l.length c) l from ⟨A, c, rfl, h1, h2, h3, h4⟩)
  clear h4
  unfold maxLen at h2
  cases A with
  | none =>
    have hc : c = 0 := h3 rfl
    have hl : l = [] := List.eq_nil_of_length_eq_zero (by omega)
    subst hc; subst hl
    go_enter Tryz.func9, Tryz.ntmps9
    go_wp2
    go_ret
    refine ⟨_, rfl, ?_, rfl⟩
    have := Enc.Is.take HH.out m
    rwa [show min ([] : List Ext).length m = (min (0 : Int) m).toNat by simp; omega] at this
  | some ad =>
    go_enter Tryz.func9, Tryz.ntmps9
    go_wp2
    go_ret
    refine ⟨_, rfl, ?_, rfl⟩
    have := Enc.Is.take HH.out m
    rwa [show min l.length m = (min (l.length : Int) m).toNat by omega] at this

end Go.Proofs.YtoocebghlchcoaaGreat.ExtW
