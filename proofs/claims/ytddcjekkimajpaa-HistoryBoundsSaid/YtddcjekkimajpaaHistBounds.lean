/- The walk of overdublaw22.HistoryBounds. -/
import Derived.Test.YtddcjekkimajpaaHistWakes
import Derived.Test.YtddcjekkimajpaaFlagRow
import Derived.Deep.CutBlock
import Derived.Outline
namespace Go.Proofs.Ytddcjekkimajpaa.ExtW
open Go.RowKit Go.Ov Go.Proofs.Ytddcjekkimajpaa.Need
def stB (on : Bool) : StM := if on then oneS 7 else []
def mkH (on : Bool) (bs rs : List Bool) : HistM := ⟨stB on, bs.map stB, rs.map stB⟩
def lastL (l : List Bool) : List Bool := l.drop (l.length - 4)
theorem lastL_short {l : List Bool} (h : l.length ≤ 4) : lastL l = l := by unfold lastL; rw [show l.length - 4 = 0 by omega]; rfl
theorem lastL_len (l : List Bool) : (lastL l).length ≤ 4 := by unfold lastL; rw [List.length_drop]; omega
theorem ptrIs_kb {w w' : World} {v : Value} {xs : List Nat} (h : ptrE.Is w v xs) (hb : KeepB w w') : ptrE.Is w' v xs := h.kb (fun x u hu => by simp [ptrE] at hu; subst hu; rfl) hb
theorem histIs_kb {T : TypeId} {w w' : World} {B : Nat} {m : HistM} {row : Option Nat} (h : HistIs T w B m) (hb : KeepB w w') (hg : w.grownBy w' row) (hr : ∀ g, row = some g → B < g) : HistIs T w' B m := by
  obtain ⟨n, u, r, us, rs, h0, h1, h2, h3, h4, h5⟩ := h
  exact ⟨n, u, r, us, rs, h0.grown hg (fun e => by have := hr B e; omega), h1.kb hb, ⟨ptrIs_kb h2.1 hb, h2.2⟩, ⟨ptrIs_kb h3.1 hb, h3.2⟩, ⟨h4.1, fun i s b hs hb' => (h4.2 i s b hs hb').kb hb⟩, ⟨h5.1, fun i s b hs hb' => (h5.2 i s b hs hb').kb hb⟩⟩
/-- two rows of flags and a history, in blocks of their own -/
structure Rows2 (T TH : TypeId) (w wr : World) (B : Nat) (v7 v8 : Value) (on : Bool) (bs rs : List Bool) : Prop where
  ex : ∃ r1 r2 : Option Nat, BWin T wr r1 v7 bs ∧ BWin T wr r2 v8 rs ∧ (∀ g, r1 = some g → B < g) ∧ (∀ g, r2 = some g → B < g) ∧ (r1 = none ∨ r1 ≠ r2) ∧ HistIs TH wr B (mkH on (lastL bs) (lastL rs)) ∧ Bl w wr ∧ w.heap.size ≤ B
theorem Rows2.bl {T TH : TypeId} {w wr wr' : World} {B : Nat} {v7 v8 : Value} {on : Bool} {bs rs : List Bool} (h : Rows2 T TH w wr B v7 v8 on bs rs) (hb : Bl wr wr') : Rows2 T TH w wr' B v7 v8 on bs rs := by
  obtain ⟨r1, r2, a, b, c, d, e, f, g, i⟩ := h
  exact ⟨r1, r2, a.bl hb, b.bl hb, c, d, e, f.bl hb, g.bl hb, i⟩

theorem infoBool : (Try.prog.info? 4).map (fun i => (i.zero, i.size, i.bytes)) = some (some (.bool false), 1, 1) := by kernel_rfl
theorem szBool (w : World) : (sizeOf (Try.prog.elem 53)).run Try.prog w = .ok 1 w := by kernel_rfl

theorem bwin_l {w : World} {row : Option Nat} {A : Option Addr} {c : Nat} {bs : List Bool} (lo : Int) (h0 : 0 ≤ lo) (h1 : lo ≤ bs.length) :
    ∃ V, (∀ w, (Instr.slice 53 (.slice A bs.length c) (some (.int .i64 lo)) none none).run Try.prog w = .ok V w) ∧ (BWin 4 w row (.slice A bs.length c) bs → BWin 4 w row V (bs.drop lo.toNat)) :=
  ⟨sliced A lo.toNat bs.length c 1, fun w => by rw [run_slice_l w 53 A bs.length c (by kernel_rfl) .i64 lo h0 h1, szBool, Result.andThen_ok], fun h => by have := h.sub lo.toNat bs.length (by omega) (Nat.le_refl _); rwa [List.take_length] at this⟩
theorem bwin_h {A : Option Addr} {c : Nat} {bs : List Bool} (hi : Int) (h0 : 0 ≤ hi) (h1 : hi ≤ bs.length) (hc : bs.length ≤ c) :
    ∃ V, (∀ w, (Instr.slice 53 (.slice A bs.length c) none (some (.int .i64 hi)) none).run Try.prog w = .ok V w) ∧ ∀ w row, BWin 4 w row (.slice A bs.length c) bs → BWin 4 w row V (bs.take hi.toNat) :=
  ⟨sliced A 0 hi.toNat c 1, fun w => by rw [run_slice_h w 53 A bs.length c (by kernel_rfl) .i64 hi h0 (by omega), szBool, Result.andThen_ok], fun _ _ h => by have := h.sub 0 hi.toNat (Nat.zero_le _) (by omega); rwa [List.drop_zero] at this⟩

theorem last22_any (v : Value) (row : Option Nat) (bs : List Bool) (w : World) (h : BWin 4 w row v bs) (hn : bs.length ≤ 1000) :
    Calls Try.prog 24 #[v] w fun e w' => ∃ u, e = .returned u ∧ BWin 4 w row u (lastL bs) ∧ w = w' := by
  obtain ⟨A, c, rfl, hc⟩ := h.slice
  obtain ⟨V, hV, hI⟩ := bwin_l (w := w) (row := row) (A := A) (c := c) (bs := bs) (max 0 ((bs.length : Int) - 4)) (by omega) (by omega)
  have HI := Lib.hid (hI h)
  clear hI h
  go_enter Try.func24, Try.ntmps24
  go_wp2_with fail
  go_ret
  exact ⟨_, rfl, by unfold lastL; have := HI.out; rwa [show (max 0 ((bs.length : Int) - 4)).toNat = bs.length - 4 by omega] at this, rfl⟩

theorem drop3 {α β : Type} (f : α → β) (l : List α) (x : α) : (l.map f ++ [f x]).drop ((l.map f).length + 1 - 4) = ((l ++ [x]).drop ((l ++ [x]).length - 4)).map f := by
  rw [List.map_drop, List.map_append]; simp
theorem b_undo (on : Bool) (bs rs : List Bool) (h : 0 < bs.length) (hn : bs.length ≤ 4) (hr : rs.length ≤ 4) : applyH (mkH on (lastL bs) (lastL rs)) ⟨4, 0, 0, 0, []⟩ = (mkH (bs[bs.length - 1]'(by omega)) (lastL (bs.take (bs.length - 1))) (lastL (rs ++ [on])), 0) := by
  rw [lastL_short hr, lastL_short hn, lastL_short (l := bs.take (bs.length - 1)) (by simp; omega)]
  unfold applyH
  rw [if_neg (by decide), if_pos rfl, dif_pos (by simpa [mkH] using h)]
  unfold undoM mkH
  simp only [List.getElem_map, List.length_map, List.map_take]
  have := drop3 stB rs on
  simp only [List.length_map] at this
  rw [this]; rfl
theorem b_undo0 (on : Bool) (bs rs : List Bool) (h : bs.length = 0) : applyH (mkH on (lastL bs) (lastL rs)) ⟨4, 0, 0, 0, []⟩ = (mkH on (lastL bs) (lastL rs), 5) := by
  have : bs = [] := List.eq_nil_of_length_eq_zero h
  subst this; rfl
theorem b_redo (on : Bool) (bs rs : List Bool) (h : 0 < rs.length) (hn : rs.length ≤ 4) (hb : bs.length ≤ 4) : applyH (mkH on (lastL bs) (lastL rs)) ⟨5, 0, 0, 0, []⟩ = (mkH (rs[rs.length - 1]'(by omega)) (lastL (bs ++ [on])) (lastL (rs.take (rs.length - 1))), 0) := by
  rw [lastL_short hb, lastL_short hn, lastL_short (l := rs.take (rs.length - 1)) (by simp; omega)]
  unfold applyH
  rw [if_neg (by decide), if_neg (by decide), if_pos rfl, dif_pos (by simpa [mkH] using h)]
  unfold redoM mkH
  simp only [List.getElem_map, List.length_map, List.map_take]
  have := drop3 stB bs on
  simp only [List.length_map] at this
  rw [this]; rfl
theorem b_redo0 (on : Bool) (bs rs : List Bool) (h : rs.length = 0) : applyH (mkH on (lastL bs) (lastL rs)) ⟨5, 0, 0, 0, []⟩ = (mkH on (lastL bs) (lastL rs), 5) := by
  have : rs = [] := List.eq_nil_of_length_eq_zero h
  subst this; rfl
theorem b_change (on : Bool) (bs rs : List Bool) (hb : bs.length ≤ 4) : applyH (mkH on (lastL bs) (lastL rs)) ⟨if on then 2 else 1, 7, 0, 0, []⟩ = (mkH (!on) (lastL (bs ++ [on])) (lastL []), 0) := by
  rw [lastL_short hb]
  have d := drop3 stB bs on
  cases on with
  | false =>
    have e := (apply_C [] 7 (by decide) (by decide)).2.2 rfl (by decide)
    unfold applyH
    rw [if_neg (by rw [show (⟨if false = true then 2 else 1, 7, 0, 0, []⟩ : Rec) = recC 7 from rfl, valid_recC 7 (by decide) (by decide)]; decide), if_neg (by decide), if_neg (by decide)]
    show (if (applyR [] (recC 7)).2 = 0 then _ else _) = _
    rw [e, if_pos rfl, show applyR (mkH false bs (lastL rs)).now ⟨if false = true then 2 else 1, 7, 0, 0, []⟩ = (putL [] 7 (treeM []), 0) from e]
    unfold stepH mkH
    dsimp only
    rw [d]; rfl
  | true =>
    have e := (apply_D (oneS 7) 7 (by decide) (by decide)).2 (by rw [one_get]; simp)
    unfold applyH
    rw [if_neg (by rw [show (⟨if true = true then 2 else 1, 7, 0, 0, []⟩ : Rec) = recD 7 from rfl, valid_recD 7 (by decide) (by decide)]; decide), if_neg (by decide), if_neg (by decide)]
    show (if (applyR (oneS 7) (recD 7)).2 = 0 then _ else _) = _
    rw [e, if_pos rfl, show applyR (mkH true bs (lastL rs)).now ⟨if true = true then 2 else 1, 7, 0, 0, []⟩ = (withoutS (oneS 7) 7, 0) from e]
    unfold stepH mkH
    dsimp only
    rw [d]; rfl
theorem stB_ok (on : Bool) : StOK (stB on) := by
  cases on with
  | false => exact SOK.nil.1
  | true =>
    have e := (apply_C [] 7 (by decide) (by decide)).2.2 rfl (by decide)
    have := SOK.nil.apply (r := recC 7) (by rw [e])
    rw [e] at this
    exact this.1
theorem stB_len (on : Bool) : ((stB on).map (·.1)).length = if on then 1 else 0 := by cases on <;> rfl
/-- what stays where a row grows -/
theorem rows_append1 {w wr w' : World} {B : Nat} {v8 : Value} {b : Bool} {rs : List Bool} {r1 r1' r2 : Option Nat} {m : HistM}
    (h2 : BWin 4 wr r2 v8 rs) (hr1 : ∀ g, r1 = some g → B < g) (hr2 : ∀ g, r2 = some g → B < g) (hs : r1 = none ∨ r1 ≠ r2) (hh : HistIs 95 wr B m) (hb : Bl w wr) (hw : w.heap.size ≤ B) (hB : B < wr.heap.size)
    (g2 : (wr.alloc (.cells #[.bool b] 4)).grownBy w' r1) (g3 : Lies (wr.alloc (.cells #[.bool b] 4)) r1 r1') (g4 : KeepB (wr.alloc (.cells #[.bool b] 4)) w') :
    BWin 4 w' r2 v8 rs ∧ (∀ g, r1' = some g → B < g) ∧ (r1' = none ∨ r1' ≠ r2) ∧ HistIs 95 w' B m ∧ Bl w w' := by
  have ha := (Bl.refl wr).alloc (.cells #[.bool b] 4)
  have hsz := ha.size
  refine ⟨(h2.bl ha).grown g2 ?_, ?_, ?_, histIs_kb (hh.bl ha) g4 g2 hr1, (hb.bl ha).grown g2 (fun k hk => by have := hr1 k hk; omega)⟩
  · cases r2 with
    | none => exact .inl rfl
    | some g => refine .inr fun e => ?_
                rcases hs with hs | hs
                · rw [hs] at e; cases e
                · exact hs e.symm
  · intro g hg
    rcases g3 with rfl | ⟨g', rfl, h3⟩
    · exact hr1 g hg
    · cases hg; omega
  · rcases g3 with rfl | ⟨g', rfl, h3⟩
    · exact hs
    · refine .inr fun e => ?_
      have := h2.lt g' e.symm
      omega

theorem bwin_B {w w' : World} {row : Option Nat} {v : Value} {bs : List Bool} {B : Nat} (h : BWin 4 w row v bs) (hr : ∀ g, row = some g → B < g) (hg : w.grownBy w' (some B)) : BWin 4 w' row v bs :=
  h.grown hg (by
    cases row with
    | none => exact .inl rfl
    | some g => refine .inr fun e => ?_
                injection e with e
                have := hr g rfl
                omega)
theorem sep_symm {r1 r2 : Option Nat} (h : r1 = none ∨ r1 ≠ r2) : r2 = none ∨ r2 ≠ r1 := by
  rcases h with rfl | h
  · cases r2 with
    | none => exact .inl rfl
    | some g => exact .inr (fun e => by cases e)
  · exact .inr fun e => h e.symm
def JoinR (w wc : World) (B : Nat) (v6 v7 v8 : Value) : Prop := ∃ (on : Bool) (bs rs : List Bool), v6 = .bool on ∧ bs.length ≤ 5 ∧ rs.length ≤ 5 ∧ Rows2 4 95 w wc B v7 v8 on bs rs

set_option maxRecDepth 100000 in
set_option maxHeartbeats 4000000 in
theorem bounds_walk (v : Value) (l : List Int) (w : World) (h : ArgInts w v l) :
    Calls Try.prog 7 #[v] w fun e w' => e = .returned (.bool true) ∧ Bl w w' := by
  obtain ⟨⟨A, c, rfl, _, q1, _, hA⟩, _, _⟩ := h
  have HA := Lib.hid hA
  unfold maxLen at q1
  have hl : l.length ≤ 9223372036854775807 := by omega
  clear hA q1
  go_enter Try.func7, Try.ntmps7
  go_wp2_with fail
  refine (hnew_any _).mono ?_
  rintro e w1 ⟨B, rfl, hBw, hh, hb⟩
  have HR := Lib.hid (show Rows2 4 95 w w1 B (.slice none 0 0) (.slice none 0 0) false [] [] from ⟨none, none, .inl ⟨rfl, rfl, rfl⟩, .inl ⟨rfl, rfl, rfl⟩, (fun g hg => by cases hg), (fun g hg => by cases hg), .inl rfl, hh, hb, hBw⟩)
  clear hBw hh hb
  go_wp2_with fail
  go_loopg [4, 5, 6, 7, 8, 9] l.length (fun g v4 v5 v6 v7 v8 i wr => ∃ (k : Nat) (on : Bool) (bs rs : List Bool), k ≤ l.length ∧ k ≤ 30 ∧ g = l.length - k ∧ i = .int .i64 k ∧ v4 = .int .i64 bs.length ∧ v5 = .int .i64 rs.length ∧ v6 = .bool on ∧ bs.length ≤ 4 ∧ rs.length ≤ 4 ∧ Hid (Rows2 4 95 w wr B v7 v8 on bs rs))
  case atStart => exact ⟨0, false, [], [], by omega, by omega, rfl, rfl, rfl, rfl, rfl, by simp, by simp, HR⟩
  case round =>
    clear HR
    obtain ⟨k, on, bs, rs, hk, hk30, rfl, rfl, rfl, rfl, rfl, hb4, hr4, HR⟩ := hrel
    by_cases hlt : k < l.length ∧ k < 30
    · obtain ⟨hlt, hlt12⟩ := hlt
      obtain ⟨r1, r2, w1', w2', s1, s2, s3, hh, hbw, hwB⟩ := HR.out.ex
      obtain ⟨ad, rfl, d0⟩ := int_at (HA.out.bl hbw) k hlt
      have hBlt : B < wr.heap.size := by obtain ⟨_, _, _, _, _, h0, _⟩ := id hh; exact h0.lt
      obtain ⟨A7, c7, rfl, hc7⟩ := w1'.slice
      obtain ⟨A8, c8, rfl, hc8⟩ := w2'.slice
      generalize l[k] = x at d0
      have hx := within_bd x 4 (by decide)
      have hkl : (k : Int) < l.length := by omega
      obtain ⟨dd, hid⟩ : ∃ dd, dd = within x 4 := ⟨_, rfl⟩
      rw [← hid] at hx
      have HID := Lib.hid hid
      obtain ⟨hx0, hx1⟩ := hx
      have HW1 := Lib.hid w1'
      have HW2 := Lib.hid w2'
      have HS1 := Lib.hid s1
      have HS2 := Lib.hid s2
      have HS3 := Lib.hid s3
      have HH := Lib.hid hh
      have HBW := Lib.hid hbw
      clear hid w1' w2' s1 s2 s3 hh hbw HR
      go_wp2_with fail
      refine (within_any _ _ _ (by decide)).mono ?_
      rintro e w2 ⟨rfl, rfl⟩
      rw [← HID.out]
      go_upto_block 2 with fail
      go_cut [6, 7, 8] (fun v6 v7 v8 wc => JoinR w wc B v6 v7 v8)
      case first =>
        by_cases h0 : dd = 0
        · obtain rfl : dd = 0 := h0
          by_cases hbs : 0 < bs.length
          · have E := Lib.hid (b_undo on bs rs hbs hb4 hr4)
            have hz1 : (0 : Int) ≤ (bs.length : Int) - 1 := by omega
            have hz2 : (bs.length : Int) - 1 < bs.length := by omega
            have hz3 : (1 : Int) ≤ bs.length := by omega
            have hz4 : (0 : Int) < bs.length := by omega
            go_wp2_with fail
            refine (happly_any B _ _ ⟨4, 0, 0, 0, []⟩ _ HH.out (rec_is _ 4 0 0 0) (stB_ok on) (by simp [mkH]; exact Nat.le_trans (lastL_len _) (by decide)) (by simp [mkH]; exact Nat.le_trans (lastL_len _) (by decide))).mono ?_
            rintro e w2 ⟨rfl, hh, hg⟩
            rw [E.out] at hh ⊢
            have HW1' := Lib.hid (bwin_B HW1.out HS1.out hg)
            have HW2' := Lib.hid (bwin_B HW2.out HS2.out hg)
            have HBW' := Lib.hid (HBW.out.grown hg (fun k hk => by simp at hk; omega))
            have hB2 : B < w2.heap.size := Nat.lt_of_lt_of_le hBlt hg.size
            have HH' := Lib.hid hh
            obtain ⟨V, hV, hI⟩ := bwin_h (A := A7) (c := c7) (bs := bs) ((bs.length : Int) - 1) hz1 (by omega) hc7
            have HI := Lib.hid hI
            have HS3' := Lib.hid (sep_symm HS3.out)
            clear hh hg hI
            go_wp2_with (at_builtin; refine BWin.append Try.underlying53 infoBool rfl (.tmp 56) (.tmp 58) rfl HW2'.out rfl (by omega) on rfl rfl ?_; intro v1 w4 r' g1 g2 g3 g4; obtain ⟨A5, c5, rfl, _⟩ := id g1.slice; have GA := Lib.hid (rows_append1 HW1'.out HS2.out HS1.out HS3'.out HH'.out HBW'.out hwB hB2 g2 g3 g4); have GB := Lib.hid g1; clear g1 g2 g3 g4; obtain ⟨ad7, c7', e7, d7⟩ := GA.out.1.at (bs.length - 1) (by omega))
            go_meet
            have hv := HI.out _ _ GA.out.1
            rw [show ((bs.length : Int) - 1).toNat = bs.length - 1 by omega] at hv
            have gb := GB.out
            rw [List.length_append, List.length_singleton] at gb
            exact ⟨_, _, _, rfl, by simp; omega, by simp; omega, ⟨r1, r', hv, gb, HS1.out, GA.out.2.1, sep_symm GA.out.2.2.1, GA.out.2.2.2.1, GA.out.2.2.2.2, hwB⟩⟩
          · obtain rfl : bs = [] := List.eq_nil_of_length_eq_zero (by omega)
            have E := Lib.hid (b_undo0 on [] rs rfl)
            go_wp2_with fail
            refine (happly_any B _ _ ⟨4, 0, 0, 0, []⟩ _ HH.out (rec_is _ 4 0 0 0) (stB_ok on) (by simp [mkH]; try exact Nat.le_trans (lastL_len _) (by decide)) (by simp [mkH]; try exact Nat.le_trans (lastL_len _) (by decide))).mono ?_
            rintro e w2 ⟨rfl, hh, hg⟩
            rw [E.out] at hh ⊢
            have HW1' := Lib.hid (bwin_B HW1.out HS1.out hg)
            have HW2' := Lib.hid (bwin_B HW2.out HS2.out hg)
            have HBW' := Lib.hid (HBW.out.grown hg (fun k hk => by simp at hk; omega))
            have HH' := Lib.hid hh
            clear hh hg
            go_wp2_with fail
            go_meet
            exact ⟨on, _, _, rfl, (by first | omega | simp), (by first | omega | simp), ⟨r1, r2, HW1'.out, HW2'.out, HS1.out, HS2.out, HS3.out, HH'.out, HBW'.out, hwB⟩⟩
        · by_cases h1 : dd = 1
          · obtain rfl : dd = 1 := h1
            by_cases hbs : 0 < rs.length
            · have E := Lib.hid (b_redo on bs rs hbs hr4 hb4)
              have hz1 : (0 : Int) ≤ (rs.length : Int) - 1 := by omega
              have hz2 : (rs.length : Int) - 1 < rs.length := by omega
              have hz3 : (1 : Int) ≤ rs.length := by omega
              have hz4 : (0 : Int) < rs.length := by omega
              go_wp2_with fail
              refine (happly_any B _ _ ⟨5, 0, 0, 0, []⟩ _ HH.out (rec_is _ 5 0 0 0) (stB_ok on) (by simp [mkH]; exact Nat.le_trans (lastL_len _) (by decide)) (by simp [mkH]; exact Nat.le_trans (lastL_len _) (by decide))).mono ?_
              rintro e w2 ⟨rfl, hh, hg⟩
              rw [E.out] at hh ⊢
              have HW1' := Lib.hid (bwin_B HW1.out HS1.out hg)
              have HW2' := Lib.hid (bwin_B HW2.out HS2.out hg)
              have HBW' := Lib.hid (HBW.out.grown hg (fun k hk => by simp at hk; omega))
              have hB2 : B < w2.heap.size := Nat.lt_of_lt_of_le hBlt hg.size
              have HH' := Lib.hid hh
              obtain ⟨V, hV, hI⟩ := bwin_h (A := A8) (c := c8) (bs := rs) ((rs.length : Int) - 1) hz1 (by omega) hc8
              have HI := Lib.hid hI
              have HS3' := Lib.hid (sep_symm HS3.out)
              clear hh hg hI
              go_wp2_with (at_builtin; refine BWin.append Try.underlying53 infoBool rfl (.tmp 81) (.tmp 83) rfl HW1'.out rfl (by omega) on rfl rfl ?_; intro v1 w4 r' g1 g2 g3 g4; obtain ⟨A5, c5, rfl, _⟩ := id g1.slice; have GA := Lib.hid (rows_append1 HW2'.out HS1.out HS2.out HS3.out HH'.out HBW'.out hwB hB2 g2 g3 g4); have GB := Lib.hid g1; clear g1 g2 g3 g4; obtain ⟨ad7, c7', e7, d7⟩ := GA.out.1.at (rs.length - 1) (by omega))
              go_meet
              have hv := HI.out _ _ GA.out.1
              rw [show ((rs.length : Int) - 1).toNat = rs.length - 1 by omega] at hv
              have gb := GB.out
              rw [List.length_append, List.length_singleton] at gb
              exact ⟨_, _, _, rfl, by simp; omega, by simp; omega, ⟨r', r2, gb, hv, GA.out.2.1, HS2.out, GA.out.2.2.1, GA.out.2.2.2.1, GA.out.2.2.2.2, hwB⟩⟩
            · obtain rfl : rs = [] := List.eq_nil_of_length_eq_zero (by omega)
              have E := Lib.hid (b_redo0 on bs [] rfl)
              go_wp2_with fail
              refine (happly_any B _ _ ⟨5, 0, 0, 0, []⟩ _ HH.out (rec_is _ 5 0 0 0) (stB_ok on) (by simp [mkH]; try exact Nat.le_trans (lastL_len _) (by decide)) (by simp [mkH]; try exact Nat.le_trans (lastL_len _) (by decide))).mono ?_
              rintro e w2 ⟨rfl, hh, hg⟩
              rw [E.out] at hh ⊢
              have HW1' := Lib.hid (bwin_B HW1.out HS1.out hg)
              have HW2' := Lib.hid (bwin_B HW2.out HS2.out hg)
              have HBW' := Lib.hid (HBW.out.grown hg (fun k hk => by simp at hk; omega))
              have HH' := Lib.hid hh
              clear hh hg
              go_wp2_with fail
              go_meet
              exact ⟨on, _, _, rfl, (by first | omega | simp), (by first | omega | simp), ⟨r1, r2, HW1'.out, HW2'.out, HS1.out, HS2.out, HS3.out, HH'.out, HBW'.out, hwB⟩⟩
          · have hn0 : (dd == 0) = false := by rw [beq_eq_false_iff_ne]; exact h0
            have hn1 : (dd == 1) = false := by rw [beq_eq_false_iff_ne]; exact h1
            have E := b_change on bs rs hb4
            cases on with
            | false =>
              have EE := Lib.hid E
              clear E
              go_wp2_with fail
              refine (happly_any B _ _ ⟨1, 7, 0, 0, []⟩ _ HH.out (rec_is _ 1 7 0 0) (stB_ok false) (by simp [mkH]; exact Nat.le_trans (lastL_len _) (by decide)) (by simp [mkH]; exact Nat.le_trans (lastL_len _) (by decide))).mono ?_
              rintro e w2 ⟨rfl, hh, hg⟩
              rw [show applyH _ ⟨1, 7, 0, 0, []⟩ = _ from EE.out] at hh ⊢
              have HW1' := Lib.hid (bwin_B HW1.out HS1.out hg)
              have HW2' := Lib.hid (bwin_B HW2.out HS2.out hg)
              have HBW' := Lib.hid (HBW.out.grown hg (fun k hk => by simp at hk; omega))
              have hB2 : B < w2.heap.size := Nat.lt_of_lt_of_le hBlt hg.size
              have HH' := Lib.hid hh
              have HS3' := Lib.hid (show (none : Option Nat) = none ∨ (none : Option Nat) ≠ r1 from .inl rfl)
              have HS4 := Lib.hid (sep_symm HS3'.out)
              clear hh hg
              go_wp2_with (at_builtin; refine BWin.append Try.underlying53 infoBool rfl (.tmp 38) (.tmp 40) rfl HW1'.out rfl (by omega) false rfl rfl ?_; intro v1 w4 r' g1 g2 g3 g4; obtain ⟨A5, c5, rfl, _⟩ := id g1.slice; have GA := Lib.hid (rows_append1 (BWin.nil _ w2) HS1.out (fun g hg => by cases hg) HS4.out HH'.out HBW'.out hwB hB2 g2 g3 g4); have GB := Lib.hid g1; clear g1 g2 g3 g4)
              go_meet
              have gb := GB.out
              rw [List.length_append, List.length_singleton] at gb
              exact ⟨_, _, _, rfl, by simp; omega, by simp, ⟨r', none, gb, GA.out.1, GA.out.2.1, (fun g hg => by cases hg), GA.out.2.2.1, GA.out.2.2.2.1, GA.out.2.2.2.2, hwB⟩⟩
            | true =>
              have EE := Lib.hid E
              clear E
              go_wp2_with fail
              refine (happly_any B _ _ ⟨2, 7, 0, 0, []⟩ _ HH.out (rec_is _ 2 7 0 0) (stB_ok true) (by simp [mkH]; exact Nat.le_trans (lastL_len _) (by decide)) (by simp [mkH]; exact Nat.le_trans (lastL_len _) (by decide))).mono ?_
              rintro e w2 ⟨rfl, hh, hg⟩
              rw [show applyH _ ⟨2, 7, 0, 0, []⟩ = _ from EE.out] at hh ⊢
              have HW1' := Lib.hid (bwin_B HW1.out HS1.out hg)
              have HW2' := Lib.hid (bwin_B HW2.out HS2.out hg)
              have HBW' := Lib.hid (HBW.out.grown hg (fun k hk => by simp at hk; omega))
              have hB2 : B < w2.heap.size := Nat.lt_of_lt_of_le hBlt hg.size
              have HH' := Lib.hid hh
              have HS3' := Lib.hid (show (none : Option Nat) = none ∨ (none : Option Nat) ≠ r1 from .inl rfl)
              have HS4 := Lib.hid (sep_symm HS3'.out)
              clear hh hg
              go_wp2_with (at_builtin; refine BWin.append Try.underlying53 infoBool rfl (.tmp 38) (.tmp 40) rfl HW1'.out rfl (by omega) true rfl rfl ?_; intro v1 w4 r' g1 g2 g3 g4; obtain ⟨A5, c5, rfl, _⟩ := id g1.slice; have GA := Lib.hid (rows_append1 (BWin.nil _ w2) HS1.out (fun g hg => by cases hg) HS4.out HH'.out HBW'.out hwB hB2 g2 g3 g4); have GB := Lib.hid g1; clear g1 g2 g3 g4)
              go_meet
              have gb := GB.out
              rw [List.length_append, List.length_singleton] at gb
              exact ⟨_, _, _, rfl, by simp; omega, by simp, ⟨r', none, gb, GA.out.1, GA.out.2.1, (fun g hg => by cases hg), GA.out.2.2.1, GA.out.2.2.2.1, GA.out.2.2.2.2, hwB⟩⟩
      case rest =>
      obtain ⟨on', bs', rs', rfl, hb5, hr5, HR⟩ := hcut
      clear HW1 HW2 HS1 HS2 HS3 HH HBW
      obtain ⟨r1', r2', w1', w2', s1, s2, s3, hh, hbw, hwB'⟩ := HR
      obtain ⟨A7', c7', rfl, hc7'⟩ := w1'.slice
      obtain ⟨A8', c8', rfl, hc8'⟩ := w2'.slice
      have HW1 := Lib.hid w1'
      have HW2 := Lib.hid w2'
      have HS1 := Lib.hid s1
      have HS2 := Lib.hid s2
      have HS3 := Lib.hid s3
      have HH := Lib.hid hh
      have HBW := Lib.hid hbw
      clear w1' w2' s1 s2 s3 hh hbw
      go_wp2_with fail
      refine (last22_any _ _ _ _ HW1.out (by omega)).mono ?_
      rintro e w2 ⟨u7, rfl, hu7, rfl⟩
      obtain ⟨A7'', c7'', rfl, _⟩ := id hu7.slice
      have HU7 := Lib.hid hu7
      clear hu7
      go_wp2_with fail
      refine (last22_any _ _ _ _ HW2.out (by omega)).mono ?_
      rintro e w2 ⟨u8, rfl, hu8, rfl⟩
      obtain ⟨A8'', c8'', rfl, _⟩ := id hu8.slice
      have HU8 := Lib.hid hu8
      clear hu8
      have HL7 := lastL_len bs'
      have HL8 := lastL_len rs'
      generalize hB1 : lastL bs' = b1 at *
      generalize hB2 : lastL rs' = b2 at *
      have HB1 := Lib.hid hB1
      have HB2 := Lib.hid hB2
      clear hB1 hB2
      go_wp2_with fail
      refine (hnow_any B _ _ HH.out).mono ?_
      rintro e w2 ⟨u, rfl, hs, rfl⟩
      have HST := Lib.hid hs
      obtain ⟨bN, _, _, rfl, _⟩ := hs
      go_wp2_with fail
      refine (hundo_any B _ _ HH.out (by simp [mkH]; omega)).mono ?_
      rintro e x2 ⟨y1, us, rfl, ho, hs, hb⟩
      have hl1 : us.length = b1.length := by have := hs.1; simpa [mkH] using this
      obtain ⟨A1, c1, rfl⟩ := ho.slice
      rw [hl1]
      have HB3 := Lib.hid hb
      clear hl1 ho hs hb
      go_wp2_with fail
      refine (hredo_any B _ _ (HH.out.bl HB3.out) (by simp [mkH]; omega)).mono ?_
      rintro e x3 ⟨y2, rs2, rfl, ho, hs, hb⟩
      have hl1 : rs2.length = b2.length := by have := hs.1; simpa [mkH] using this
      obtain ⟨A2, c2, rfl⟩ := ho.slice
      rw [hl1]
      have HB4 := Lib.hid (HB3.out.bl hb)
      clear hl1 ho hs hb
      go_wp2_with fail
      refine (sids_any _ _ _ (HST.out.bl HB4.out) (by have := stB_len on'; simp at this; show (stB on').length ≤ 1000; split at this <;> omega)).mono ?_
      rintro e x4 ⟨y3, rfl, ho, hb⟩
      obtain ⟨A3, c3, rfl⟩ := ho.slice
      have HB5 := Lib.hid (HB4.out.bl hb)
      rw [show ((mkH on' b1 b2).now.map (·.1)).length = _ from stB_len on']
      have HRR := Lib.hid (show Rows2 4 95 w x4 B _ _ on' b1 b2 from ⟨r1', r2', HU7.out.bl HB5.out, HU8.out.bl HB5.out, HS1.out, HS2.out, HS3.out, by rw [lastL_short HL7, lastL_short HL8]; exact HH.out.bl HB5.out, HBW.out.bl HB5.out, hwB'⟩)
      clear ho hb
      cases on' with
      | false =>
        go_wp2_with fail
        go_roundg (l.length - (k + 1))
        case measure => omega
        case rel => exact ⟨k + 1, _, _, _, by omega, by omega, rfl, by go_num, rfl, rfl, rfl, HL7, HL8, HRR⟩
      | true =>
        go_wp2_with fail
        go_roundg (l.length - (k + 1))
        case measure => omega
        case rel => exact ⟨k + 1, _, _, _, by omega, by omega, rfl, by go_num, rfl, rfl, rfl, HL7, HL8, HRR⟩
    · have HBW := Lib.hid (by obtain ⟨_, _, _, _, _, _, _, _, hbw, _⟩ := HR.out; exact hbw : Bl w wr)
      rcases (show (k < l.length ∧ ¬ k < 30) ∨ ¬ k < l.length from by by_cases q : k < l.length; exact .inl ⟨q, fun p => hlt ⟨q, p⟩⟩; exact .inr q) with ⟨hkl2, hk7⟩ | hkl2
      all_goals
        clear hlt
        go_wp2_with fail
        refine (wakes22_any _).mono ?_
        rintro e w3 ⟨rfl, hb⟩
        go_wp2_with fail
        go_ret
        exact ⟨rfl, HBW.out.bl hb⟩
end Go.Proofs.Ytddcjekkimajpaa.ExtW
