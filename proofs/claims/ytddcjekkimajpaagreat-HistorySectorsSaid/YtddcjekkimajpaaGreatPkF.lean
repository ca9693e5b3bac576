/- Several texts joined (see each one's head). -/
import Derived.Test.YtddcjekkimajpaaGreatPkE
import Derived.Test.YtddcjekkimajpaaGreatPkD
import Derived.Deep.CutBlock
import Derived.Outline
import Derived.Test.YtddcjekkimajpaaGreatPkC
import Derived.Test.YtddcjekkimajpaaGreatPkA
import Derived.Test.YtddcjekkimajpaaGreatPkB
import Derived.Test.YtddcjekkimajpaaGreatProg
/- Contract of overdublaw21.Same: a state and its rows. -/
namespace Go.Proofs.YtddcjekkimajpaaGreat.ExtW
open Go.RowKit Go.Ov Go.Proofs.YtddcjekkimajpaaGreat.Need

/-- states as they come about: their trees are made, their names are none below 0 -/
def SOT (s : StM) : Prop := SOK s ∧ ∀ t ∈ s, t.2 = treeM t.2.row ∧ 0 ≤ t.1
theorem get_at {s : StM} (hr : Rising s) (i : Nat) (h : i < s.length) : getS s s[i].1 = some s[i].2 := by
  induction s generalizing i with
  | nil => simp at h
  | cons t s ih =>
    obtain ⟨h1, h2⟩ := List.pairwise_cons.1 hr
    cases i with
    | zero => simp [getS]
    | succ i =>
      simp only [List.getElem_cons_succ]
      have hi : i < s.length := by simpa using h
      have := h1 s[i] (List.getElem_mem hi)
      unfold getS
      rw [if_neg (by omega)]
      exact ih h2 i hi
theorem allOf_len {s : StM} (h : SOK s) : (allOf s).length ≤ 6000 := by
  have hl := h.1.1
  have hv := h.1.2
  have gen : ∀ s : StM, (∀ t ∈ s, validFrom 0 t.2.row = true) → (allOf s).length ≤ s.length * 1000 := by
    intro s
    induction s with
    | nil => intro _; simp [allOf]
    | cons t s ih =>
      intro hv
      have h1 := valid_len _ (hv t (by simp))
      have h2 := ih (fun x hx => hv x (by simp [hx]))
      unfold allOf at h2 ⊢
      rw [List.flatMap_cons, List.length_append, List.length_cons]
      omega
  have := gen s hv
  omega
theorem rowsOf_at (s : StM) (i : Nat) (h : i < s.length) : (rowsOf s)[i]'(by rw [rowsOf_len]; exact h) = (s[i].1, s[i].2.row) := by simp [rowsOf]

set_option maxRecDepth 100000 in
set_option maxHeartbeats 4000000 in
theorem same21_any (v v' : Value) (s : StM) (w : World) (h : StateIs w v s) (h' : LnIs w v' (rowsOf s)) (hs : SOT s) :
    Calls Tryz.prog 14 #[v, v'] w fun e w' => e = .returned (.bool true) ∧ Bl w w' := by
  have hlen := hs.1.1.1
  have hal := allOf_len hs.1
  have hsec : (secO (rowsOf s)).length ≤ 6000 := by rw [← allOf_sec, List.length_map]; exact hal
  have HS := Lib.hid h
  have HLn := Lib.hid h'
  have HOK := Lib.hid hs
  obtain ⟨b, _, _, rfl, _⟩ := h
  obtain ⟨hs1, ⟨A, c, rfl, _, q1, _, hA⟩, hr⟩ := h'
  have HA := Lib.hid hA
  have HR := Lib.hid hr
  have HL := Lib.hid (show hs1.length = s.length by rw [hr.1, rowsOf_len])
  have hl6 : hs1.length ≤ 6 := by rw [hr.1, rowsOf_len]; exact hlen
  have HSec := Lib.hid hsec
  have HAl := Lib.hid hal
  clear hA hr q1 hs hsec hal
  obtain ⟨I, hIe⟩ : ∃ I, I = s.map (·.1) := ⟨_, rfl⟩
  have HIl := Lib.hid (show I.length = s.length by rw [hIe, List.length_map])
  have HIe := Lib.hid hIe
  clear hIe
  go_enter Tryz.func14, Tryz.ntmps14
  go_upto_block 0 with fail
  go_cut [5] (fun v5 wc => Hid (intE.Is wc v5 I) ∧ Hid (Bl w wc))
  case first =>
    go_wp2_with fail
    go_loopg [19, 5, 6] hs1.length (fun g i v5 v6 wr => ∃ k : Nat, k ≤ hs1.length ∧ g = hs1.length - k ∧ i = .int .i64 k ∧ Hid (intE.Own 3 wr w.heap.size v5 (I.take k)) ∧ Hid (Bl w wr))
    case atStart => exact ⟨0, by omega, rfl, rfl, Lib.hid (Enc.Own.nil _ _ _), Lib.hid (Bl.refl _)⟩
    case round =>
      obtain ⟨k, hk, rfl, rfl, HO, HB⟩ := hrel
      by_cases hlt : k < hs1.length
      · have hks : k < s.length := by have := HL.out; omega
        obtain ⟨ad, rfl, c0, _⟩ := row_at (HA.out.bl HB.out) k hlt
        obtain ⟨_, hR⟩ := HR.out.at k (by rw [rowsOf_len]; exact hks)
        rw [hR.1, rowsOf_at s k hks] at c0
        have HT := Lib.hid (show I.take (k + 1) = I.take k ++ [s[k].1] by rw [HIe.out, List.take_succ_eq_append_getElem (by simpa using hks)]; simp)
        have hol : (I.take k).length ≤ 6 := by rw [List.length_take]; omega
        generalize s[k].1 = x at *
        obtain ⟨o, hoe⟩ : ∃ o, o = I.take k := ⟨_, rfl⟩
        rw [← hoe] at HO hol HT
        clear hoe hR
        obtain ⟨A5, c5, rfl⟩ := HO.out.slice
        go_wp2_with (at_builtin; refine Enc.Own.append1 (E := intE) rfl (.tmp 22) (.tmp 28) 23 rfl w.heap.size 3 (.int .i64 0) 1 8 Tryz.underlying23 infoIntT rfl rfl (by decide) (by decide) _ _ rfl HO.out x _ rfl rfl rfl ?hlen ?hbase ?_; (case hlen => omega); (case hbase => exact HB.out.size); intro v1 w4 ho hg)
        have HB4 := Lib.hid ((HB.out.alloc _).grown hg (fun k hk => (Enc.Own.lt HO.out k hk).1))
        have HO4 := Lib.hid (show intE.Own 3 w4 w.heap.size v1 (I.take (k + 1)) by rw [HT.out]; exact ho)
        clear ho hg
        go_wp2_with fail
        go_roundg (hs1.length - (k + 1))
        case measure => omega
        case rel => exact ⟨k + 1, by omega, rfl, by go_num, HO4, HB4⟩
      · have HF := Lib.hid (show intE.Is wr _ I by
          have := HO.out.is
          rw [List.take_of_length_le (by have := HL.out; have := HIl.out; omega)] at this
          exact this)
        go_wp2_with fail
        go_meet
        exact ⟨HF, HB⟩
  case rest =>
  obtain ⟨HI, HB⟩ := hcut
  obtain ⟨A5, c5, rfl, _⟩ := id HI.out
  go_wp2_with fail
  refine (sids_any _ s _ (HS.out.bl HB.out) (by omega)).mono ?_
  rintro e w1 ⟨u1, rfl, ho, hb⟩
  rw [← HIe.out] at ho
  have HU1 := Lib.hid ho.is
  have HB1 := Lib.hid (HB.out.bl hb)
  have HI1 := Lib.hid (HI.out.bl hb)
  obtain ⟨A6, c6, rfl⟩ := ho.slice
  clear ho hb
  go_wp2_with fail
  refine (sameInt_any _ _ _ _ _ HU1.out HI1.out).mono ?_
  rintro e w2 ⟨rfl, hb⟩
  rw [show decide (I = I) = true from by simp]
  have HB2 := Lib.hid (HB1.out.bl hb)
  clear hb
  go_wp2_with fail
  refine (ssectors_any _ s _ (HS.out.bl HB2.out) (by omega) (by have := HAl.out; omega)).mono ?_
  rintro e w3 ⟨u3, rfl, h3, hb⟩
  obtain ⟨S, hSe⟩ : ∃ S, S = sortedM (secO (rowsOf s)) := ⟨_, rfl⟩
  rw [← hSe] at h3
  have HSe := Lib.hid hSe
  clear hSe
  obtain ⟨A7, c7, rfl, _⟩ := id h3
  have HU3 := Lib.hid h3
  have HB3 := Lib.hid (HB2.out.bl hb)
  clear h3 hb
  go_wp2_with fail
  refine (lsectors_any _ (rowsOf s) _ (HLn.out.bl HB3.out) (by rw [rowsOf_len]; omega) (by have := HSec.out; omega)).mono ?_
  rintro e w4 ⟨u4, rfl, h4, hb⟩
  rw [← HSe.out] at h4
  obtain ⟨A8, c8, rfl, _⟩ := id h4
  have HU4 := Lib.hid h4
  have HU3' := Lib.hid (HU3.out.bl hb)
  have HB4 := Lib.hid (HB3.out.bl hb)
  clear h4 hb
  go_wp2_with fail
  refine (sameInt_any _ _ _ _ _ HU3'.out HU4.out).mono ?_
  rintro e w5 ⟨rfl, hb⟩
  rw [show decide (S = S) = true from by simp]
  have HB5 := Lib.hid (HB4.out.bl hb)
  clear hb HB HB1 HB2 HB3 HB4 HI HI1 HU1 HU3 HU3' HU4
  go_upto_block 2 with fail
  go_cut [] (fun wc => Hid (Bl w wc))
  case first =>
    go_wp2_with fail
    go_loopg [46, 7, 8, 9, 10, 11] hs1.length (fun g i v7 v8 v9 v10 v11 wr => ∃ k : Nat, k ≤ hs1.length ∧ g = hs1.length - k ∧ i = .int .i64 k ∧ Hid (Bl w wr))
    case atStart => exact ⟨0, by omega, rfl, rfl, HB5⟩
    case round =>
      clear HB5
      obtain ⟨k, hk, rfl, rfl, HB⟩ := hrel
      by_cases hlt : k < hs1.length
      · have hks : k < s.length := by have := HL.out; omega
        obtain ⟨ad, rfl, c0, c1⟩ := row_at (HA.out.bl HB.out) k hlt
        obtain ⟨_, hR⟩ := HR.out.at k (by rw [rowsOf_len]; exact hks)
        rw [rowsOf_at s k hks] at hR
        rw [hR.1] at c0
        have HX := Lib.hid (hR.2.bl HB.out)
        have HG := Lib.hid (get_at HOK.out.1.2 k hks)
        have hv := HOK.out.1.1.2 s[k] (List.getElem_mem hks)
        have ht := (HOK.out.2 s[k] (List.getElem_mem hks)).1
        have hki : (k : Int) < hs1.length := by omega
        generalize s[k] = t at *
        generalize hs1[k].h = hh at *
        obtain ⟨ti, tt⟩ := t
        obtain ⟨b1, bn, bc⟩ := hh
        dsimp only at c0 c1 hv ht HG HX
        have HV := Lib.hid hv
        have HT := Lib.hid ht
        have hbd := valid_len _ hv
        have hle := validFrom_bd tt.row 0 (by decide) hv
        have D1 := Lib.hid c1
        clear hR hv ht
        go_wp2_with fail
        refine (stree_any _ s ti _ (HS.out.bl HB.out)).mono ?_
        rintro e w1 ⟨⟨_, h1⟩, hb⟩
        obtain ⟨ut, rfl, htr⟩ := h1 tt HG.out
        have HTr := Lib.hid htr
        obtain ⟨bt, _, _, rfl, _⟩ := htr
        have HB1 := Lib.hid (HB.out.bl hb)
        have HX1 := Lib.hid (HX.out.bl hb)
        have c2 := hb.cell D1.out
        replace c0 := hb.cell c0
        clear h1 hb c1
        go_wp2_with fail
        refine (slength_any _ s ti _ (HS.out.bl HB1.out) HOK.out.1.1.2).mono ?_
        rintro e w2 ⟨⟨_, h1⟩, hb⟩
        obtain rfl := h1 tt HG.out
        have HB2 := Lib.hid (HB1.out.bl hb)
        have HX2 := Lib.hid (HX1.out.bl hb)
        have HT2 := Lib.hid (HTr.out.bl hb)
        replace c2 := hb.cell c2
        clear h1 hb c0
        obtain ⟨_, _, ex, _⟩ := id HX2.out
        simp only [Head.v, Value.slice.injEq] at ex
        obtain ⟨rfl, rfl, rfl⟩ := ex
        go_wp2_with fail
        refine wp_region_ways (S := (fun w' => w'.cell? ⟨(ad.add (k * 2)).block, (ad.add (k * 2)).off + 1, none⟩ = some (.slice b1 tt.row.length bc))) [0, 1, 2, 3, 4, 5, 6, 7, 8, 9, 10, 11, 13, 14, 15, 16, 17, 19, 20, 21, 22, 24, 25, 26, 27, 28, 30, 31] (y := .take 0 (.take 1 (.take 2 (.take 3 (.take 4 (.take 5 (.take 6 (.take 7 (.take 8 (.take 9 (.take 10 (.take 11 (.take 13 (.take 14 (.take 15 (.take 16 (.take 17 (.ev 12 (.ev 18 (.take 19 (.take 20 (.take 21 (.take 22 (.ev 23 (.take 24 (.take 25 (.take 26 (.take 27 (.take 28 (.ev 29 (.take 30 (.take 31 (.done))) (.stop))))))) (.stop)))))) (.stop)) (.stop))))))))))))))))))) (by kernel_rfl) (by kernel_rfl) (by kernel_rfl) ?_ (fun hHeld => ?_)
        · exact ((Bl.refl _).drew).cell c2
        have HH := Lib.hid hHeld
        clear hHeld c2
        repeat (first | (refine wpWay_take rfl (by rfl) (by intro w hSw; (try dsimp only at hSw); first | (go_simp; done) | (go_simp; with_reducible rfl)) ?_; try simp only [Act.put, List.setIfInBounds_toArray, List.set_cons_zero, List.set_cons_succ]) | (refine wpWay_skip rfl (by rfl) ?_; try simp only [Act.put, List.setIfInBounds_toArray, List.set_cons_zero, List.set_cons_succ]))
        refine wpWay_ev rfl (fun K hK => ?_) wpWay_stop
        go_wp2_with fail
        refine (tall_any _ tt _ (HT2.out.bl (Bl.refl _).drew) (by omega)).mono ?_
        rintro e w3 ⟨u3, rfl, ho, hb⟩
        have HB3 := Lib.hid ((HB2.out.drew).bl hb)
        have HU3 := Lib.hid ho.is
        have HX3 := Lib.hid ((HX2.out.bl (Bl.refl _).drew).bl hb)
        have HT3 := Lib.hid ((HT2.out.bl (Bl.refl _).drew).bl hb)
        have HH3 := Lib.hid (hb.cell HH.out)
        obtain ⟨A9, c9, rfl⟩ := ho.slice
        clear ho hb
        go_wp2_with fail
        refine ⟨HH3.out, ?_⟩
        repeat (first | (refine wpWay_take rfl (by rfl) (by intro w hSw; (try dsimp only at hSw); first | (go_simp; done) | (go_simp; with_reducible rfl)) ?_; try simp only [Act.put, List.setIfInBounds_toArray, List.set_cons_zero, List.set_cons_succ]) | (refine wpWay_skip rfl (by rfl) ?_; try simp only [Act.put, List.setIfInBounds_toArray, List.set_cons_zero, List.set_cons_succ]))
        refine wpWay_ev rfl (fun K hK => ?_) wpWay_stop
        go_wp2_with fail
        refine (sameExt_any _ _ tt.row tt.row _ HU3.out HX3.out).mono ?_
        rintro e w4 ⟨rfl, hb⟩
        rw [show decide (tt.row = tt.row) = true from by simp]
        have HB4 := Lib.hid (HB3.out.bl hb)
        have HT4 := Lib.hid (HT3.out.bl hb)
        have HH4 := Lib.hid (hb.cell HH3.out)
        clear hb
        go_wp2_with fail
        refine ⟨HH4.out, ?_⟩
        repeat (first | (refine wpWay_take rfl (by rfl) (by intro w hSw; (try dsimp only at hSw); first | (go_simp; done) | (go_simp; with_reducible rfl)) ?_; try simp only [Act.put, List.setIfInBounds_toArray, List.set_cons_zero, List.set_cons_succ]) | (refine wpWay_skip rfl (by rfl) ?_; try simp only [Act.put, List.setIfInBounds_toArray, List.set_cons_zero, List.set_cons_succ]))
        refine wpWay_ev rfl (fun K hK => ?_) wpWay_stop
        go_wp2_with fail
        refine (tright_any _ tt.row _ (by have := HT4.out; rw [HT.out] at this; exact this) HV.out).mono ?_
        rintro e w5 ⟨rfl, hb⟩
        have HB5 := Lib.hid (HB4.out.bl hb)
        have HT5 := Lib.hid (HT4.out.bl hb)
        have HH5 := Lib.hid (hb.cell HH4.out)
        clear hb
        go_wp2_with fail
        refine ⟨HH5.out, ?_⟩
        repeat (first | (refine wpWay_take rfl (by rfl) (by intro w hSw; (try dsimp only at hSw); first | (go_simp; done) | (go_simp; with_reducible rfl)) ?_; try simp only [Act.put, List.setIfInBounds_toArray, List.set_cons_zero, List.set_cons_succ]) | (refine wpWay_skip rfl (by rfl) ?_; try simp only [Act.put, List.setIfInBounds_toArray, List.set_cons_zero, List.set_cons_succ]))
        refine wpWay_ev rfl (fun K hK => ?_) wpWay_stop
        go_wp2_with fail
        refine (tend_any _ tt _ HT5.out HV.out).mono ?_
        rintro e w6 ⟨rfl, hb⟩
        have HB6 := Lib.hid (HB5.out.bl hb)
        have HH6 := Lib.hid (hb.cell HH5.out)
        clear hb
        go_wp2_with fail
        refine ⟨HH6.out, ?_⟩
        repeat (first | (refine wpWay_take rfl (by rfl) (by intro w hSw; (try dsimp only at hSw); first | (go_simp; done) | (go_simp; with_reducible rfl)) ?_; try simp only [Act.put, List.setIfInBounds_toArray, List.set_cons_zero, List.set_cons_succ]) | (refine wpWay_skip rfl (by rfl) ?_; try simp only [Act.put, List.setIfInBounds_toArray, List.set_cons_zero, List.set_cons_succ]))
        refine wpWay_done ?_
        go_wp2_with fail
        go_roundg (hs1.length - (k + 1))
        case measure => omega
        case rel => exact ⟨k + 1, by omega, rfl, by go_num, HB6⟩
      · go_wp2_with fail
        go_meet
        exact HB
  case rest =>
  have HB6 := hcut
  clear hcut HB5
  go_wp2_with fail
  refine (stree_any _ s (-1) _ (HS.out.bl HB6.out)).mono ?_
  rintro e w1 ⟨⟨h1, _⟩, hb⟩
  obtain rfl := h1 (by rw [getS_none]; intro t ht; have := (HOK.out.2 t ht).2; omega)
  have HB7 := Lib.hid (HB6.out.bl hb)
  clear h1 hb
  cases hg : getS s 99 with
  | none =>
    have HG := Lib.hid hg
    clear hg
    go_wp2_with fail
    refine (slength_any _ s 99 _ (HS.out.bl HB7.out) HOK.out.1.1.2).mono ?_
    rintro e w2 ⟨⟨h1, _⟩, hb⟩
    obtain rfl := h1 HG.out
    have HB8 := Lib.hid (HB7.out.bl hb)
    clear h1 hb
    go_wp2_with fail
    go_loopg [114, 15, 16] hs1.length (fun g i v15 v16 wr => ∃ k : Nat, k ≤ hs1.length ∧ g = hs1.length - k ∧ i = .int .i64 k ∧ v15 = .bool false ∧ Hid (Bl w wr))
    case atStart => exact ⟨0, by omega, rfl, rfl, rfl, HB8⟩
    case round =>
      obtain ⟨k, hk, rfl, rfl, rfl, HB⟩ := hrel
      by_cases hlt : k < hs1.length
      · go_wp2_with fail
        go_roundg (hs1.length - (k + 1))
        case measure => omega
        case rel => exact ⟨k + 1, by omega, rfl, by go_num, rfl, HB⟩
      · go_wp2_with fail
        go_ret
        exact ⟨rfl, HB.out⟩
  | some t99 =>
    have HG := Lib.hid hg
    have hex : ∃ i, ∃ h : i < s.length, s[i].1 = 99 := by
      rcases findS_get s 99 with ⟨_, g2⟩ | ⟨i, hi, _, g2, _⟩
      · rw [hg] at g2; cases g2
      · exact ⟨i, hi, g2⟩
    obtain ⟨i0, hi0, he0⟩ := hex
    have hi1 : i0 < hs1.length := by have := HL.out; omega
    have HE0 := Lib.hid he0
    clear hg he0
    go_wp2_with fail
    refine (slength_any _ s 99 _ (HS.out.bl HB7.out) HOK.out.1.1.2).mono ?_
    rintro e w2 ⟨⟨_, h1⟩, hb⟩
    obtain rfl := h1 t99 HG.out
    have HB8 := Lib.hid (HB7.out.bl hb)
    clear h1 hb
    go_wp2_with fail
    go_loopg [114, 15, 16] hs1.length (fun g i v15 v16 wr => ∃ (k : Nat) (q : Bool), k ≤ hs1.length ∧ g = hs1.length - k ∧ i = .int .i64 k ∧ v15 = .bool q ∧ Hid (i0 < k → q = false) ∧ Hid (Bl w wr))
    case atStart => exact ⟨0, true, by omega, rfl, rfl, rfl, Lib.hid (fun h => by omega), HB8⟩
    case round =>
      obtain ⟨k, q, hk, rfl, rfl, rfl, HQ, HB⟩ := hrel
      by_cases hlt : k < hs1.length
      · have hks : k < s.length := by have := HL.out; omega
        obtain ⟨ad, rfl, c0, _⟩ := row_at (HA.out.bl HB.out) k hlt
        obtain ⟨_, hR⟩ := HR.out.at k (by rw [rowsOf_len]; exact hks)
        rw [hR.1, rowsOf_at s k hks] at c0
        have HC := Lib.hid (show k = i0 → s[k].1 = 99 from fun e => by subst e; exact HE0.out)
        clear hR
        generalize s[k].1 = x at *
        cases q with
        | false =>
          go_wp2_with fail
          go_roundg (hs1.length - (k + 1))
          case measure => omega
          case rel => exact ⟨k + 1, _, by omega, rfl, by go_num, rfl, Lib.hid (fun _ => rfl), HB⟩
        | true =>
          have hki : ¬ i0 < k := fun h => by have := HQ.out h; cases this
          by_cases hx : x = 99
          · subst hx
            go_wp2_with fail
            go_roundg (hs1.length - (k + 1))
            case measure => omega
            case rel => exact ⟨k + 1, _, by omega, rfl, by go_num, rfl, Lib.hid (fun _ => rfl), HB⟩
          · have hx1 : (x == 99) = false := by simpa using hx
            have hx2 : (x != 99) = true := by simpa using hx
            have HN := Lib.hid (show k ≠ i0 from fun e => hx (HC.out e))
            clear hx
            go_wp2_with fail
            go_roundg (hs1.length - (k + 1))
            case measure => omega
            case rel => exact ⟨k + 1, _, by omega, rfl, by go_num, rfl, Lib.hid (fun h => by have := HN.out; omega), HB⟩
      · have hq : q = false := HQ.out (by omega)
        subst hq
        go_wp2_with fail
        go_ret
        exact ⟨rfl, HB.out⟩
end Go.Proofs.YtddcjekkimajpaaGreat.ExtW

/- Contracts of package history: push, Now, Undo, Redo, New. -/
namespace Go.Ov
open Go.RowKit
/-- a row of pointers that lies behind a block -/
def FarIs (base : Nat) (w : World) (v : Value) (bs : List Nat) : Prop := ptrE.Is w v bs ∧ ∀ A n c, v = .slice A n c → ∀ ad, A = some ad → base ≤ ad.block
theorem FarIs.bl {base : Nat} {w w' : World} {v : Value} {bs : List Nat} (h : FarIs base w v bs) (hb : Bl w w') : FarIs base w' v bs := ⟨h.1.bl hb, h.2⟩
theorem FarIs.low {base base' : Nat} {w : World} {v : Value} {bs : List Nat} (h : FarIs base w v bs) (hb : base' ≤ base) : FarIs base' w v bs := ⟨h.1, fun A n c e ad q => Nat.le_trans hb (h.2 A n c e ad q)⟩
theorem FarIs.nil (base : Nat) (w : World) : FarIs base w (.slice none 0 0) [] := ⟨Enc.Is.nil _, fun A n c e ad q => by simp at e; rw [← e.1] at q; cases q⟩
theorem FarIs.own {E : TypeId} {base : Nat} {w : World} {v : Value} {bs : List Nat} (h : ptrE.Own E w base v bs) : FarIs base w v bs := by
  refine ⟨h.is, fun A n c e ad q => ?_⟩
  subst e; subst q
  rcases h.parts with ⟨e, _⟩ | ⟨g, c', e, _⟩
  · cases e
  · simp at e
    obtain ⟨rfl, _⟩ := e
    exact (h.lt g rfl).1
theorem FarIs.sub {base : Nat} {w : World} {A : Option Addr} {c : Nat} {bs : List Nat} (h : FarIs base w (.slice A bs.length c) bs) (lo hi : Nat) (h1 : lo ≤ hi) (h2 : hi ≤ bs.length) : FarIs base w (sliced A lo hi c 1) ((bs.take hi).drop lo) := by
  refine ⟨h.1.sub lo hi h1 h2, fun A' n' c' e ad q => ?_⟩
  unfold sliced at e
  cases A with
  | none =>
    obtain ⟨_, _, _, _, _, h3, _⟩ := id h.1
    split at e
    · simp at e; rw [← e.1] at q; cases q
    · simp at e; rw [← e.1] at q; cases q
  | some a =>
    have ha := h.2 _ _ _ rfl a rfl
    split at e
    · simp at e; rw [← e.1] at q; cases q; exact ha
    · simp at e; rw [← e.1] at q; cases q; rw [add_block]; exact ha
/-- a row of pointers that lies in another block -/
def OffIs (B : Nat) (w : World) (v : Value) (bs : List Nat) : Prop := ptrE.Is w v bs ∧ ∀ A n c, v = .slice A n c → ∀ ad, A = some ad → ad.block ≠ B
theorem OffIs.bl {B : Nat} {w w' : World} {v : Value} {bs : List Nat} (h : OffIs B w v bs) (hb : Bl w w') : OffIs B w' v bs := ⟨h.1.bl hb, h.2⟩
theorem OffIs.nil (B : Nat) (w : World) : OffIs B w (.slice none 0 0) [] := ⟨Enc.Is.nil _, fun A n c e ad q => by simp at e; rw [← e.1] at q; cases q⟩
theorem FarIs.off {base B : Nat} {w : World} {v : Value} {bs : List Nat} (h : FarIs base w v bs) (hb : B < base) : OffIs B w v bs := ⟨h.1, fun A n c e ad q => by have := h.2 A n c e ad q; omega⟩
theorem OffIs.own {E : TypeId} {base B : Nat} {w : World} {v : Value} {bs : List Nat} (h : ptrE.Own E w base v bs) (hB : w.heap.size ≤ B) : OffIs B w v bs := by
  refine ⟨h.is, fun A n c e ad q => ?_⟩
  subst e; subst q
  rcases h.parts with ⟨e, _⟩ | ⟨g, c', e, _⟩
  · cases e
  · simp at e
    obtain ⟨rfl, _⟩ := e
    have := (h.lt g rfl).2
    show g ≠ B
    omega
/-- a history in block B; its rows lie elsewhere -/
def HistIs (T : TypeId) (w : World) (B : Nat) (m : HistM) : Prop := ∃ (n : Nat) (u r : Head) (us rs : List Nat), Blk w B (histC n u r) T ∧ StateIs w (.pointer (some ⟨n, 0, none⟩)) m.now ∧
  OffIs B w u.v us ∧ OffIs B w r.v rs ∧ SRows w us m.undo ∧ SRows w rs m.redo
theorem HistIs.bl {T : TypeId} {w w' : World} {B : Nat} {m : HistM} (h : HistIs T w B m) (hb : Bl w w') : HistIs T w' B m := by
  obtain ⟨n, u, r, us, rs, h0, h1, h2, h3, h4, h5⟩ := h
  exact ⟨n, u, r, us, rs, h0.bl hb, h1.bl hb, h2.bl hb, h3.bl hb, h4.bl hb, h5.bl hb⟩
theorem OffIs.keepO {B : Nat} {w w' : World} {v : Value} {bs : List Nat} (h : OffIs B w v bs) (hk : KeepO B w w') : OffIs B w' v bs := by
  obtain ⟨⟨A, c, e, h1, h2, h3, hA⟩, hf⟩ := h
  refine ⟨⟨A, c, e, h1, h2, h3, fun i x hx => ?_⟩, hf⟩
  obtain ⟨ad, e2, hc⟩ := hA i x hx
  have := hf _ _ _ e ad e2
  exact ⟨ad, e2, fun j u hu => hk _ _ (by rw [add_block]; exact this) (hc j u hu)⟩
end Go.Ov
namespace Go.Proofs.YtddcjekkimajpaaGreat.ExtW
open Go.RowKit Go.Ov Go.Proofs.YtddcjekkimajpaaGreat.Need

theorem infoPtr : (Tryz.prog.info? 33).map (fun i => (i.zero, i.size, i.bytes)) = some (some (.pointer none), 1, 8) := by kernel_rfl

set_option maxHeartbeats 1000000 in
theorem hclone_any (v : Value) (hs : List Nat) (w : World) (h : ptrE.Is w v hs) (hn : hs.length ≤ 1000000) :
    Calls Tryz.prog 30 #[v] w fun e w' => ∃ u, e = .returned u ∧ ptrE.Own 33 w' w.heap.size u hs ∧ Bl w w' := by
  have HH := Lib.hid h
  obtain ⟨A, c, rfl, h1, h2, h3, h4⟩ := h
  have hE := fun w => Lib.run_eql_slice_nil (P := Tryz.prog) w 37 33 A hs.length c 0 0 Tryz.underlying37
  cases A with
  | none =>
    have hc : c = 0 := h3 rfl
    have hl : hs = [] := List.eq_nil_of_length_eq_zero (by omega)
    subst hc; subst hl
    clear h4 h3 h2 h1 hE
    have hE := fun w => Lib.run_eql_slice_nil (P := Tryz.prog) w 37 33 none 0 0 0 0 Tryz.underlying37
    go_enter Tryz.func30, Tryz.ntmps30
    go_wp2_with fail
    go_ret
    exact ⟨_, rfl, Enc.Own.nil _ _ _, Bl.refl _⟩
  | some ad =>
    clear h4 h3 h2 h1
    go_enter Tryz.func30, Tryz.ntmps30
    go_wp2_with (at_builtin; refine Enc.Own.append (E := ptrE) rfl (.tmp 5) (.tmp 6) 37 rfl w.heap.size 33 (.pointer none) 1 8 Tryz.underlying37 infoPtr rfl rfl (by decide) (by decide) (.slice (some ⟨w.heap.size, 0, none⟩) 0 0) [] rfl (Enc.Own.lit w w.heap.size [] #[] rfl 0 rfl (Nat.le_refl _) (by decide) rfl) (.slice (some ad) hs.length c) hs rfl (HH.out.bl ((Bl.refl _).alloc _)) ?hlen ?hb ?_; (case hlen => simp; omega); (case hb => exact ((Bl.refl w).alloc _).size); intro v1 w1 ho hg)
    go_ret
    exact ⟨_, rfl, by simpa using ho, ((Bl.refl _).alloc _).grown hg (fun k hk => by simp [Value.ownBlock] at hk; omega)⟩

set_option maxHeartbeats 1000000 in
theorem hpush_any (v : Value) (bs : List Nat) (b : Nat) (w : World) (h : ptrE.Is w v bs) (hn : bs.length ≤ 4) :
    Calls Tryz.prog 48 #[v, .pointer (some ⟨b, 0, none⟩)] w fun e w' => ∃ u, e = .returned u ∧ FarIs w.heap.size w' u ((bs ++ [b]).drop (bs.length + 1 - 4)) ∧ Bl w w' := by
  have HH := Lib.hid h
  clear h
  go_enter Tryz.func48, Tryz.ntmps48
  go_wp2_with fail
  refine (hclone_any _ _ _ HH.out (by omega)).mono ?_
  rintro e w1 ⟨u, rfl, ho, hb⟩
  obtain ⟨A, c, rfl⟩ := id ho.slice
  have HO := Lib.hid ho
  have HB := Lib.hid hb
  clear ho hb
  go_wp2_with (at_builtin; refine Enc.Own.append1 (E := ptrE) rfl (.tmp 6) (.tmp 8) 37 rfl w.heap.size 33 (.pointer none) 1 8 Tryz.underlying37 infoPtr rfl rfl (by decide) (by decide) (.slice A bs.length c) bs rfl HO.out b _ rfl rfl rfl ?hlen ?hbase ?_; (case hlen => omega); (case hbase => exact HB.out.size); intro v1 w4 ho hg; obtain ⟨A5, c5, rfl⟩ := ho.slice)
  all_goals
    have hk : (max 0 ((bs.length : Int) + 1 - 4)).toNat = bs.length - 3 := by omega
    have fi := (FarIs.own ho).sub (bs.length - 3) (bs.length + 1) (by omega) (by simp)
    rw [List.take_of_length_le (by simp)] at fi
    have hB2 := ((HB.out).alloc _).grown hg (fun k hk => (HO.out.lt k hk).1)
    rw [hk] at h ⊢
    unfold sliced at fi
    first | rw [if_neg h] at fi | rw [if_pos h] at fi
    go_ret
    refine ⟨_, rfl, ?_, hB2⟩
    try rw [h] at fi
    simpa using fi

theorem ptr_at {w : World} {A : Option Addr} {xs : List Nat} (h : ptrE.At w A xs) (k : Nat) (hk : k < xs.length) : ∃ ad, A = some ad ∧ w.cell? (ad.add k) = some (.pointer (some ⟨xs[k], 0, none⟩)) := by
  obtain ⟨ad, e, hc⟩ := h k _ (List.getElem?_eq_getElem hk)
  exact ⟨ad, e, by simpa [ptrE] using hc 0 _ rfl⟩

set_option maxHeartbeats 1000000 in
theorem hturn_any (v v' : Value) (bs cs : List Nat) (b : Nat) (w : World) (h : ptrE.Is w v bs) (h' : ptrE.Is w v' cs) (h0 : 0 < bs.length) (hn : bs.length ≤ 4) (hn' : cs.length ≤ 4) :
    Calls Tryz.prog 46 #[v, v', .pointer (some ⟨b, 0, none⟩)] w fun e w' => ∃ u1 u2, e = .returned (.tuple #[u1, u2, .pointer (some ⟨bs[bs.length - 1]'(by omega), 0, none⟩)]) ∧ FarIs w.heap.size w' u1 (bs.take (bs.length - 1)) ∧
      FarIs w.heap.size w' u2 ((cs ++ [b]).drop (cs.length + 1 - 4)) ∧ Bl w w' := by
  have HF := Lib.hid h
  have HT := Lib.hid h'
  obtain ⟨A, c, rfl, h1, h2, h3, h4⟩ := h
  obtain ⟨A', c', rfl, _⟩ := h'
  obtain ⟨ad, rfl, hc⟩ := ptr_at h4 (bs.length - 1) (by omega)
  obtain ⟨V, hV, hI⟩ := slice_h (E := ptrE) (P := Tryz.prog) (t := 37) (by kernel_rfl) (fun w => by kernel_rfl) (some ad) c bs ((bs.length : Int) - 1) (by omega) (by omega) h1
  have hI1 := Lib.hid hI
  generalize bs[bs.length - 1] = bl at *
  have hz : ((bs.length : Int) - 1).toNat = bs.length - 1 := by omega
  have hz1 : (0 : Int) ≤ (bs.length : Int) - 1 := by omega
  have hz2 : (bs.length : Int) - 1 < bs.length := by omega
  have hz3 : (1 : Int) ≤ bs.length := by omega
  clear h2 h3 h4 hI
  go_enter Tryz.func46, Tryz.ntmps46
  go_wp2_with fail
  refine wp_region_ways (S := (fun w' => w'.cell? (ad.add (bs.length - 1)) = some (.pointer (some ⟨bl, 0, none⟩)))) [0, 1, 2, 4, 5, 7, 8, 9, 10, 11, 12, 13] (y := .take 0 (.take 1 (.take 2 (.take 4 (.take 5 (.take 7 (.take 8 (.take 9 (.take 10 (.ev 3 (.ev 6 (.take 11 (.take 12 (.take 13 (.done)))) (.stop)) (.stop))))))))))) (by kernel_rfl) (by kernel_rfl) (by kernel_rfl) ?_ (fun hHeld => ?_)
  · exact ((Bl.refl w).drew).cell hc
  have HH := Lib.hid hHeld
  repeat (first | (refine wpWay_take rfl (by rfl) (by intro w hSw; (try dsimp only at hSw); first | (go_simp; done) | (go_simp; with_reducible rfl)) ?_; try simp only [Act.put, List.setIfInBounds_toArray, List.set_cons_zero, List.set_cons_succ]) | (refine wpWay_skip rfl (by rfl) ?_; try simp only [Act.put, List.setIfInBounds_toArray, List.set_cons_zero, List.set_cons_succ]))
  clear hHeld
  refine wpWay_ev rfl (fun K hK => ?_) wpWay_stop
  have HV := Lib.hid (hI1.out _ (HF.out.bl (Bl.refl w).drew))
  rw [hz] at HV
  go_wp2_with fail
  refine (hclone_any _ _ _ HV.out (by simp; omega)).mono ?_
  rintro e w1 ⟨u1, rfl, ho, hb⟩
  obtain ⟨A1, c1, rfl⟩ := id ho.slice
  have hfo := (FarIs.own ho).low (base' := w.heap.size) (Nat.le_refl _)
  generalize hn1 : (bs.take (bs.length - 1)).length = n1 at *
  have HO := Lib.hid hfo
  clear hn1 hfo
  have HB := Lib.hid ((Bl.refl w).drew.bl hb)
  replace HH := Lib.hid (hb.cell HH.out)
  clear ho hb
  go_wp2_with fail
  refine ⟨HH.out, ?_⟩
  repeat (first | (refine wpWay_take rfl (by rfl) (by intro w hSw; (try dsimp only at hSw); first | (go_simp; done) | (go_simp; with_reducible rfl)) ?_; try simp only [Act.put, List.setIfInBounds_toArray, List.set_cons_zero, List.set_cons_succ]) | (refine wpWay_skip rfl (by rfl) ?_; try simp only [Act.put, List.setIfInBounds_toArray, List.set_cons_zero, List.set_cons_succ]))
  refine wpWay_ev rfl (fun K hK => ?_) wpWay_stop
  go_wp2_with fail
  refine (hpush_any _ cs b _ (HT.out.bl HB.out) hn').mono ?_
  rintro e w2 ⟨u2, rfl, hf, hb⟩
  obtain ⟨A2, c2, e2, hf1⟩ := id hf.1
  subst e2
  clear hf1
  replace hf := hf.low HB.out.size
  generalize hn2 : ((cs ++ [b]).drop (cs.length + 1 - 4)).length = n2 at *
  have HF2 := Lib.hid hf
  clear hf hn2
  replace HH := Lib.hid (hb.cell HH.out)
  go_wp2_with fail
  refine ⟨HH.out, ?_⟩
  repeat (first | (refine wpWay_take rfl (by rfl) (by intro w hSw; (try dsimp only at hSw); first | (go_simp; done) | (go_simp; with_reducible rfl)) ?_; try simp only [Act.put, List.setIfInBounds_toArray, List.set_cons_zero, List.set_cons_succ]) | (refine wpWay_skip rfl (by rfl) ?_; try simp only [Act.put, List.setIfInBounds_toArray, List.set_cons_zero, List.set_cons_succ]))
  refine wpWay_done ?_
  go_wp2_with fail
  go_ret3
  exact ⟨_, _, rfl, HO.out.bl hb, HF2.out, HB.out.bl hb⟩

set_option maxHeartbeats 1000000 in
theorem hnew_any (w : World) : Calls Tryz.prog 7 #[] w fun e w' => ∃ B, e = .returned (.pointer (some ⟨B, 0, none⟩)) ∧ w.heap.size ≤ B ∧ HistIs 59 w' B ⟨[], [], []⟩ ∧ Bl w w' := by
  have hu := Tryz.underlying59
  go_enter Tryz.func7, Tryz.ntmps7
  go_wp2_with fail
  refine (snew_any _).mono ?_
  rintro e w1 ⟨u, rfl, hs, hb⟩
  obtain ⟨b0, _, _, rfl, _⟩ := id hs
  go_wp2_with fail
  go_ret
  exact ⟨_, rfl, hb.size, ⟨b0, nilH, nilH, [], [], Blk.new _ _ _, hs.bl ((Bl.refl _).alloc _), OffIs.nil _ _, OffIs.nil _ _, SRows.nil _, SRows.nil _⟩, hb.alloc _⟩

set_option maxHeartbeats 1000000 in
theorem hnow_any (B : Nat) (m : HistM) (w : World) (h : HistIs 59 w B m) :
    Calls Tryz.prog 9 #[.pointer (some ⟨B, 0, none⟩)] w fun e w' => ∃ u, e = .returned u ∧ StateIs w u m.now ∧ w = w' := by
  obtain ⟨n, u, r, us, rs, h0, h1, _⟩ := h
  have H1 := Lib.hid h1
  have c0 := h0.cell 0
  simp [histC] at c0
  have hu := Tryz.underlying59
  clear h0 h1
  go_enter Tryz.func9, Tryz.ntmps9
  go_wp2_with fail
  go_ret
  exact ⟨_, rfl, H1.out, rfl⟩

set_option maxHeartbeats 1000000 in
theorem hundo_any (B : Nat) (m : HistM) (w : World) (h : HistIs 59 w B m) (hn : m.undo.length ≤ 4) :
    Calls Tryz.prog 11 #[.pointer (some ⟨B, 0, none⟩)] w fun e w' => ∃ u us, e = .returned u ∧ ptrE.Own 33 w' w.heap.size u us ∧ SRows w' us m.undo ∧ Bl w w' := by
  obtain ⟨n, u, r, us, rs, h0, _, hu1, hr1, hu2, hr2⟩ := h
  have H1 := Lib.hid hu1.1
  have H2 := Lib.hid hu2
  have hl := hu2.1
  have c0 := h0.cell 1
  simp [histC, Head.v] at c0
  have hu := Tryz.underlying59
  have HN := Lib.hid hn
  clear h0 hu1 hr1 hu2 hr2 hn
  have HL := Lib.hid hl
  clear hl
  go_enter Tryz.func11, Tryz.ntmps11
  go_wp2_with fail
  refine (hclone_any _ _ _ H1.out (by have := HL.out; have := HN.out; omega)).mono ?_
  rintro e w1 ⟨q, rfl, ho, hb⟩
  obtain ⟨A, c, rfl⟩ := id ho.slice
  go_wp2_with fail
  go_ret
  exact ⟨_, _, rfl, ho, H2.out.bl hb, hb⟩
set_option maxHeartbeats 1000000 in
theorem hredo_any (B : Nat) (m : HistM) (w : World) (h : HistIs 59 w B m) (hn : m.redo.length ≤ 4) :
    Calls Tryz.prog 12 #[.pointer (some ⟨B, 0, none⟩)] w fun e w' => ∃ u us, e = .returned u ∧ ptrE.Own 33 w' w.heap.size u us ∧ SRows w' us m.redo ∧ Bl w w' := by
  obtain ⟨n, u, r, us, rs, h0, _, hu1, hr1, hu2, hr2⟩ := h
  have H1 := Lib.hid hr1.1
  have H2 := Lib.hid hr2
  have hl := hr2.1
  have c0 := h0.cell 2
  simp [histC, Head.v] at c0
  have hu := Tryz.underlying59
  have HN := Lib.hid hn
  clear h0 hu1 hr1 hu2 hr2 hn
  have HL := Lib.hid hl
  clear hl
  go_enter Tryz.func12, Tryz.ntmps12
  go_wp2_with fail
  refine (hclone_any _ _ _ H1.out (by have := HL.out; have := HN.out; omega)).mono ?_
  rintro e w1 ⟨q, rfl, ho, hb⟩
  obtain ⟨A, c, rfl⟩ := id ho.slice
  go_wp2_with fail
  go_ret
  exact ⟨_, _, rfl, ho, H2.out.bl hb, hb⟩
end Go.Proofs.YtddcjekkimajpaaGreat.ExtW

/- StatePlays: a state, its rows, and the elder ones, beside two rows that grow in place. -/
namespace Go.Ov
open Go.RowKit
/-- these blocks, as far as there are any now -/
def cap (G : Nat → Bool) (w : World) : Nat → Bool := fun b => G b && decide (b < w.heap.size)
theorem Sub.cap (w : World) (G : Nat → Bool) : Sub (only w G) (only w (cap G w)) := fun ad v h => by
  obtain ⟨h1, h2⟩ := only_cell h
  exact cell_only (by simp [Go.Ov.cap, h1, World.block_lt_of_cell? w ad h2]) h2
theorem cap_no {G : Nat → Bool} {w : World} {k : Nat} (h : G k = false ∨ w.heap.size ≤ k) : cap G w k = false := by
  unfold cap
  rcases h with h | h
  · rw [h]; rfl
  · simp; intro _; exact h
theorem Sub.push {wr w' : World} {G : Nat → Bool} {o : Obj} {row : Option Nat} (hg : (wr.alloc o).grownBy w' row) (hr : ∀ k, row = some k → G k = false) : Sub (only wr G) (only w' (Go.Ov.cap G wr)) :=
  ((Sub.cap wr G).trans (Sub.bl (((Bl.refl wr).alloc o).only _))).trans (Sub.grown hg fun k hk => cap_no (.inl (hr k hk)))
end Go.Ov
namespace Go.Proofs.YtddcjekkimajpaaGreat.ExtW
open Go.RowKit Go.Ov Go.Proofs.YtddcjekkimajpaaGreat.Need

structure PlayR (w wr : World) (G : Nat → Bool) (v5 v6 v7 v8 : Value) (s : StM) (us : List Nat) (hs : List Head) (S : List StM) (a b : Nat) : Prop where
  st : StateIs (only wr G) v5 s
  ln : LnIs (only wr G) v6 (rowsOf s)
  o7 : ptrE.Own 33 wr w.heap.size v7 us
  o8 : headE.Own 27 wr w.heap.size v8 hs
  l7 : us.length = S.length + a
  l8 : hs.length = S.length + b
  each : ∀ (j : Nat) (x : StM) (u : Nat) (h : Head), S[j]? = some x → us[j]? = some u → hs[j]? = some h → StateIs (only wr G) (.pointer (some ⟨u, 0, none⟩)) x ∧ LnIs (only wr G) h.v (rowsOf x) ∧ SOT x
  g7 : ∀ k, v7.ownBlock = some k → G k = false
  g8 : ∀ k, v8.ownBlock = some k → G k = false
  sep : v7.ownBlock = none ∨ v7.ownBlock ≠ v8.ownBlock
  b : Bl w wr
  ok : SOT s
section
variable {w wr : World} {G : Nat → Bool} {v5 v6 v7 v8 : Value} {s : StM} {us : List Nat} {hs : List Head} {S : List StM} {a b : Nat}
theorem PlayR.sub (h : PlayR w wr G v5 v6 v7 v8 s us hs S a b) {wr' : World} {G' : Nat → Bool} (hs' : Sub (only wr G) (only wr' G')) (hb : Bl wr wr') (h7 : ∀ k, v7.ownBlock = some k → G' k = false) (h8 : ∀ k, v8.ownBlock = some k → G' k = false) : PlayR w wr' G' v5 v6 v7 v8 s us hs S a b :=
  ⟨hs'.state h.st, LnIs.sub hs' h.ln, h.o7.bl hb, h.o8.bl hb, h.l7, h.l8, fun j x u q h1 h2 h3 => by obtain ⟨e1, e2, e3⟩ := h.each j x u q h1 h2 h3; exact ⟨hs'.state e1, LnIs.sub hs' e2, e3⟩, h7, h8, h.sep, h.b.bl hb, h.ok⟩
theorem PlayR.bl (h : PlayR w wr G v5 v6 v7 v8 s us hs S a b) {wr' : World} (hb : Bl wr wr') : PlayR w wr' G v5 v6 v7 v8 s us hs S a b := h.sub (Sub.bl (hb.only G)) hb h.g7 h.g8
theorem PlayR.gor (h : PlayR w wr G v5 v6 v7 v8 s us hs S a b) {w2 : World} (h2 : Bl wr w2) {wr' : World} (hb : Bl w2 wr') : PlayR w wr' (gor G w2) v5 v6 v7 v8 s us hs S a b :=
  h.sub ((Sub.bl ((h2.bl hb).only G)).trans (Sub.mono (gor_l G w2))) (h2.bl hb)
    (fun k hk => by have := (h.o7.lt k hk).2; have := h2.size; unfold Go.Ov.gor; rw [h.g7 k hk]; simp; omega)
    (fun k hk => by have := (h.o8.lt k hk).2; have := h2.size; unfold Go.Ov.gor; rw [h.g8 k hk]; simp; omega)
theorem PlayR.turn (h : PlayR w wr G v5 v6 v7 v8 s us hs S a b) {v5' v6' : Value} {s' : StM} (h1 : StateIs (only wr G) v5' s') (h2 : LnIs (only wr G) v6' (rowsOf s')) (h3 : SOT s') : PlayR w wr G v5' v6' v7 v8 s' us hs S a b :=
  ⟨h1, h2, h.o7, h.o8, h.l7, h.l8, h.each, h.g7, h.g8, h.sep, h.b, h3⟩
theorem PlayR.push7 (h : PlayR w wr G v5 v6 v7 v8 s us hs S a b) {w' : World} {v7' : Value} {u : Nat} {o : Obj} (ho : ptrE.Own 33 w' w.heap.size v7' (us ++ [u])) (hg : (wr.alloc o).grownBy w' v7.ownBlock) (hl : Lies (wr.alloc o) v7.ownBlock v7'.ownBlock) :
    PlayR w w' (cap G wr) v5 v6 v7' v8 s (us ++ [u]) hs S (a + 1) b := by
  have hS := Sub.push hg h.g7
  have ha := (Bl.refl wr).alloc o
  have hsz := ha.size
  refine ⟨hS.state h.st, LnIs.sub hS h.ln, ho, (h.o8.bl ha).grown hg ?_, by have := h.l7; simp; omega, h.l8, fun j x u' q h1 h2 h3 => ?_, ?_, fun k hk => cap_no (.inl (h.g8 k hk)), ?_, (h.b.bl ha).grown hg (fun k hk => (h.o7.lt k hk).1), h.ok⟩
  · rcases h.sep with e | e
    · cases h8 : v8.ownBlock with
      | none => exact .inl rfl
      | some k => exact .inr (by rw [e]; simp)
    · exact .inr fun q => e q.symm
  · have hj := (List.getElem?_eq_some_iff.1 h1).1
    rw [List.getElem?_append_left (by have := h.l7; omega)] at h2
    obtain ⟨e1, e2, e3⟩ := h.each j x u' q h1 h2 h3
    exact ⟨hS.state e1, LnIs.sub hS e2, e3⟩
  · intro k hk
    rcases hl with e | ⟨g, e, hge⟩
    · exact cap_no (.inl (h.g7 k (by rw [← e]; exact hk)))
    · rw [e] at hk; injection hk with hk; exact cap_no (.inr (by omega))
  · rcases hl with e | ⟨g, e, hge⟩
    · rw [e]; exact h.sep
    · refine .inr fun q => ?_
      rw [e] at q
      have := (h.o8.lt g q.symm).2
      omega
theorem PlayR.push8 (h : PlayR w wr G v5 v6 v7 v8 s us hs S a b) {w' : World} {v8' : Value} {u : Head} {o : Obj} (ho : headE.Own 27 w' w.heap.size v8' (hs ++ [u])) (hg : (wr.alloc o).grownBy w' v8.ownBlock) (hl : Lies (wr.alloc o) v8.ownBlock v8'.ownBlock) :
    PlayR w w' (cap G wr) v5 v6 v7 v8' s us (hs ++ [u]) S a (b + 1) := by
  have hS := Sub.push hg h.g8
  have ha := (Bl.refl wr).alloc o
  have hsz := ha.size
  refine ⟨hS.state h.st, LnIs.sub hS h.ln, (h.o7.bl ha).grown hg ?_, ho, h.l7, by have := h.l8; simp; omega, fun j x u' q h1 h2 h3 => ?_, fun k hk => cap_no (.inl (h.g7 k hk)), ?_, ?_, (h.b.bl ha).grown hg (fun k hk => (h.o8.lt k hk).1), h.ok⟩
  · exact h.sep
  · have hj := (List.getElem?_eq_some_iff.1 h1).1
    rw [List.getElem?_append_left (by have := h.l8; omega)] at h3
    obtain ⟨e1, e2, e3⟩ := h.each j x u' q h1 h2 h3
    exact ⟨hS.state e1, LnIs.sub hS e2, e3⟩
  · intro k hk
    rcases hl with e | ⟨g, e, hge⟩
    · exact cap_no (.inl (h.g8 k (by rw [← e]; exact hk)))
    · rw [e] at hk; injection hk with hk; exact cap_no (.inr (by omega))
  · rcases hl with e | ⟨g, e, hge⟩
    · rw [e]; exact h.sep
    · rw [e]
      cases h7 : v7.ownBlock with
      | none => exact .inl rfl
      | some k =>
        refine .inr fun q => ?_
        injection q with q
        have := (h.o7.lt k h7).2
        omega
theorem PlayR.done {u : Nat} {q : Head} (h : PlayR w wr G (.pointer (some ⟨u, 0, none⟩)) q.v v7 v8 s (us ++ [u]) (hs ++ [q]) S 1 1) (l7 : us.length = S.length) (l8 : hs.length = S.length) {v5' v6' : Value} {s' : StM} (h1 : StateIs (only wr G) v5' s') (h2 : LnIs (only wr G) v6' (rowsOf s')) (h3 : SOT s') :
    PlayR w wr G v5' v6' v7 v8 s' (us ++ [u]) (hs ++ [q]) (S ++ [s]) 0 0 := by
  refine ⟨h1, h2, h.o7, h.o8, by simp; omega, by simp; omega, fun j x u' q' g1 g2 g3 => ?_, h.g7, h.g8, h.sep, h.b, h3⟩
  by_cases hj : j < S.length
  · rw [List.getElem?_append_left hj] at g1
    exact h.each j x u' q' g1 g2 g3
  · have hlt := (List.getElem?_eq_some_iff.1 g1).1
    have : j = S.length := by simp at hlt; omega
    subst this
    rw [List.getElem?_append_right (Nat.le_refl _)] at g1
    rw [List.getElem?_append_right (by omega), l7] at g2
    rw [List.getElem?_append_right (by omega), l8] at g3
    simp at g1 g2 g3
    subst g1; subst g2; subst g3
    exact ⟨h.st, h.ln, h.ok⟩
end
theorem infoLines : (Tryz.prog.info? 27).map (fun i => (i.zero, i.size, i.bytes)) = some (some (.slice none 0 0), 1, 24) := by kernel_rfl
theorem SOT.nil : SOT [] := ⟨SOK.nil, fun t h => by cases h⟩
theorem SOT.put {s : StM} (h : SOT s) {id : Int} {l : List Ext} (hv : validFrom 0 l = true) (hz : (putR s id (treeM l)).2 = 0) : SOT (putR s id (treeM l)).1 := by
  refine ⟨h.1.put hv hz, fun t ht => ?_⟩
  unfold putR at *
  split at hz
  · cases hz
  · rename_i hb
    rw [if_neg hb] at ht
    split at hz
    · cases hz
    · rename_i hl
      rw [if_neg hl] at ht
      rcases put_mem ht with rfl | ht
      · exact ⟨rfl, by simp; omega⟩
      · exact h.2 t ht
theorem SOT.apply {s : StM} (h : SOT s) {r : Rec} (hz : (applyR s r).2 = 0) : SOT (applyR s r).1 := by
  refine ⟨h.1.apply hz, ?_⟩
  unfold applyR at *
  split at hz
  · cases hz
  · rename_i h0
    rw [if_neg h0]
    split at hz
    · rename_i h1
      rw [if_pos h1]
      split at hz
      · cases hz
      · rename_i h2
        rw [if_neg h2]
        exact (h.put rfl hz).2
    · rename_i h1
      rw [if_neg h1]
      cases hg : getS s r.track with
      | none => simp only [hg] at hz; cases hz
      | some t =>
        simp only [hg] at hz ⊢
        have hv : validFrom 0 t.row = true := by
          rcases findS_get s r.track with ⟨_, g2⟩ | ⟨i, hi, _, _, g3⟩
          · rw [hg] at g2; cases g2
          · rw [hg] at g3; injection g3 with g3; rw [g3]; exact h.1.1.2 s[i] (List.getElem_mem hi)
        unfold applyT at *
        split at hz
        · rename_i h2
          rw [if_pos h2]; exact fun t ht => h.2 t (List.mem_filter.1 ht).1
        · rename_i h2
          rw [if_neg h2]
          split at hz
          · cases hz
          · rename_i h3
            rw [if_neg h3]
            by_cases h4 : (spliceOf t r).2 = 0
            · rw [if_pos h4] at hz ⊢
              exact (h.put (splice_row_valid hv h4) hz).2
            · rw [if_neg h4] at hz
              exact absurd hz h4
end Go.Proofs.YtddcjekkimajpaaGreat.ExtW

/- Contract of ref20's push: a row of rows of lines, one more, at most four. -/
namespace Go.Proofs.YtddcjekkimajpaaGreat.ExtW
open Go.RowKit Go.Ov Go.Proofs.YtddcjekkimajpaaGreat.Need

set_option maxHeartbeats 1000000 in
theorem rpush_G (G : Nat → Bool) (v u : Value) (ss : List StM) (s : StM) (w : World) (h : LnsIs (only w G) v ss) (hu : LnIs (only w G) u (rowsOf s)) (hn : ss.length ≤ 4) :
    Calls Tryz.prog 43 #[v, u] w fun e w' => ∃ r, e = .returned r ∧ LnsIs (only w' (gor G w)) r (pushL ss s) ∧ Bl w w' := by
  obtain ⟨hs, hIs, hr⟩ := h
  have HR := Lib.hid hr
  have hlen : hs.length ≤ 4 := by rw [hr.1]; exact hn
  have HH := Lib.hid ((Sub.un w G).is hIs)
  have HU := Lib.hid hu
  obtain ⟨Au, nu, cu, hue⟩ : ∃ Au nu cu, u = .slice Au nu cu := by obtain ⟨A, c, e⟩ := hu.slice; exact ⟨A, _, c, e⟩
  subst hue
  clear hr hIs hu hn
  go_enter Tryz.func43, Tryz.ntmps43
  go_wp2_with (at_builtin; first
    | (refine Enc.Own.append (E := headE) rfl (.const (.slice none 0 0)) (.tmp 6) 28 rfl w.heap.size 27 (.slice none 0 0) 1 24 Tryz.underlying28 infoLines rfl rfl (by decide) (by decide) (.slice none 0 0) [] rfl (Enc.Own.nil _ _ _) v hs rfl HH.out ?hlen1 ?hbase1 ?_; (case hlen1 => simp; omega); (case hbase1 => exact Nat.le_refl _); intro v1 w1 ho hg; have HB := Lib.hid ((Bl.refl w).grown hg (fun k hk => by simp [Value.ownBlock] at hk)); have HO := Lib.hid ho; obtain ⟨A1, c1, rfl⟩ := ho.slice; simp only [List.nil_append] at HO; clear ho hg)
    | (refine Enc.Own.append1 (E := headE) rfl (.tmp 7) (.tmp 9) 28 rfl w.heap.size 27 (.slice none 0 0) 1 24 Tryz.underlying28 infoLines rfl rfl (by decide) (by decide) _ hs rfl HO.out ⟨Au, nu, cu⟩ _ rfl rfl rfl ?hlen2 ?hbase2 ?_; (case hlen2 => omega); (case hbase2 => exact HB.out.size); intro v2 w2 ho hg; obtain ⟨A5, c5, rfl⟩ := ho.slice))
  all_goals
    have HB2 := ((HB.out).alloc _).grown hg (fun k hk => (HO.out.lt k hk).1)
    have hi := ho.isM (G := gor G w) (fun k hk => fr_gor G w k (fr_ge (Nat.le_refl _) hk))
    have hS := (Sub.bl (HB2.only G)).trans (Sub.mono (gor_l G w))
    have hrw := (LnsRows.sub hS HR.out).snoc (h := ⟨Au, nu, cu⟩) (t := s) (LnIs.sub hS HU.out)
    have hls := HR.out.1
    have hp : pushL ss s = (ss ++ [s]).drop (ss.length + 1 - 4) := rfl
    clear hS ho hg
  · rename_i h4
    have fi := hi.sub 1 (hs.length + 1) (by omega) (by simp)
    rw [List.take_of_length_le (by simp)] at fi
    unfold sliced at fi
    rw [if_pos (by omega)] at fi
    go_ret
    refine ⟨_, rfl, ⟨(hs ++ [Head.mk Au nu cu]).drop 1, by simpa [h] using fi, ?_⟩, HB2⟩
    rw [hp, show ss.length + 1 - 4 = 1 by omega]; exact hrw.drop 1
  · rename_i h4
    have fi := hi.sub 1 (hs.length + 1) (by omega) (by simp)
    rw [List.take_of_length_le (by simp)] at fi
    unfold sliced at fi
    rw [if_neg (by omega)] at fi
    go_ret
    refine ⟨_, rfl, ⟨(hs ++ [Head.mk Au nu cu]).drop 1, by simpa [show headE.sz = 1 from rfl, Addr.add] using fi, ?_⟩, HB2⟩
    rw [hp, show ss.length + 1 - 4 = 1 by omega]; exact hrw.drop 1
  · go_ret
    refine ⟨_, rfl, ⟨_, by simpa using hi, ?_⟩, HB2⟩
    rw [hp, show ss.length + 1 - 4 = 0 by omega]; exact hrw
end Go.Proofs.YtddcjekkimajpaaGreat.ExtW

/- Contract of history.Apply. -/
namespace Go.Ov
open Go.RowKit
theorem set_grownB (w : World) (B j : Nat) (u : Value) : w.grownBy (w.setCell ⟨B, j, none⟩ u) (some B) := ⟨rfl, rfl, rfl, by simp [World.setCell], fun k _ hk => setCell_else _ _ _ _ _ (fun h => hk (by rw [h]))⟩
theorem hist_done {w w2 wF : World} {B n n' : Nat} {u q u' r' : Head} {us' rs' : List Nat} {T : TypeId} {m : HistM} (hb : Bl w w2) (h : Blk w2 B (histC n u q) T) (hk : KeepO B w2 wF) (hF : Blk wF B (histC n' u' r') T)
    (hg : w2.grownBy wF (some B)) (hs : StateIs w2 (.pointer (some ⟨n', 0, none⟩)) m.now) (hu : FarIs (B + 1) w2 u'.v us') (hr : FarIs (B + 1) w2 r'.v rs') (hsu : SRows w2 us' m.undo) (hsr : SRows w2 rs' m.redo) :
    HistIs T wF B m ∧ w.grownBy wF (some B) :=
  ⟨⟨n', u', r', us', rs', hF, state_kh h hk hs, (hu.off (by omega)).keepO hk, (hr.off (by omega)).keepO hk, srows_kh h hk hsu, srows_kh h hk hsr⟩, grown_trans (grown_bl hb) hg⟩
theorem SRows.take' {w : World} {bs : List Nat} {ss : List StM} (h : SRows w bs ss) (hl : bs.length = ss.length) : SRows w (bs.take (bs.length - 1)) (ss.take (ss.length - 1)) := by rw [hl]; exact h.take _
theorem SRows.drop' {w : World} {bs : List Nat} {ss : List StM} {b : Nat} {s : StM} (h : SRows w (bs ++ [b]) (ss ++ [s])) (hl : bs.length = ss.length) : SRows w ((bs ++ [b]).drop (bs.length + 1 - 4)) ((ss ++ [s]).drop (ss.length + 1 - 4)) := by rw [hl]; exact h.drop _
def undoM (m : HistM) (h : 0 < m.undo.length) : HistM := ⟨m.undo[m.undo.length - 1], m.undo.take (m.undo.length - 1), (m.redo ++ [m.now]).drop (m.redo.length + 1 - 4)⟩
def redoM (m : HistM) (h : 0 < m.redo.length) : HistM := ⟨m.redo[m.redo.length - 1], (m.undo ++ [m.now]).drop (m.undo.length + 1 - 4), m.redo.take (m.redo.length - 1)⟩
end Go.Ov
namespace Go.Proofs.YtddcjekkimajpaaGreat.ExtW
open Go.RowKit Go.Ov Go.Proofs.YtddcjekkimajpaaGreat.Need

set_option maxRecDepth 100000 in
set_option maxHeartbeats 2000000 in
theorem happly_undo (B : Nat) (m : HistM) (rv : Value) (r : Rec) (w : World) (h : HistIs 59 w B m) (hr : RecIs w rv r) (hk : r.kind = 4) (hv : validRec r = true) (hu : 0 < m.undo.length) (hn : m.undo.length ≤ 4) (hn' : m.redo.length ≤ 4) :
    Calls Tryz.prog 21 #[.pointer (some ⟨B, 0, none⟩), rv] w fun e w' => e = .returned (.int .i64 0) ∧ HistIs 59 w' B (undoM m hu) ∧ w.grownBy w' (some B) := by
  have HR := Lib.hid hr
  have HH := Lib.hid h
  have HV := Lib.hid hv
  obtain ⟨n, u, q, us, rs, h0, h1, h2, h3, h4, h5⟩ := h
  obtain ⟨u2, rfl, hl⟩ := hr
  obtain ⟨A, c, rfl, _⟩ := hl
  have HBk := Lib.hid h0
  have hul := h4.1
  have hql := h5.1
  have HUL := Lib.hid (show 0 < us.length by omega)
  have HN := Lib.hid (show us.length ≤ 4 by omega)
  have HN' := Lib.hid (show rs.length ≤ 4 by omega)
  obtain ⟨kk, t, f, o, l⟩ := r
  dsimp only at hk HV
  subst hk
  obtain ⟨uA, un, uc⟩ := u
  obtain ⟨qA, qn, qc⟩ := q
  obtain ⟨hU, _, hU1⟩ := id h2.1
  obtain ⟨hQ, _, hQ1⟩ := id h3.1
  simp only [Head.v] at hU1 hQ1 h2 h3
  have hun : un = us.length := by simp at hU1; exact hU1.1.2.1
  subst hun
  have hqn : qn = rs.length := by simp at hQ1; exact hQ1.1.2.1
  subst hqn
  have hB := h0.lt
  have HU := Lib.hid h2
  have HQ := Lib.hid h3
  have HNow := Lib.hid h1
  have HSU := Lib.hid h4
  have HSR := Lib.hid h5
  have HULen := Lib.hid hul
  have HRLen := Lib.hid hql
  have HM := Lib.hid hu
  have hu0 : ((us.length : Int) == 0) = false := by rw [beq_eq_false_iff_ne]; omega
  clear h1 h2 h3 h4 h5 h0 hv hn hn' hul hql hU1 hQ1
  have hur := Tryz.underlying46
  have huh := Tryz.underlying59
  go_enter Tryz.func21, Tryz.ntmps21
  go_wp2_with fail
  refine (rvalidRec_any _ _ _ (HR.out.bl ((Bl.refl _).alloc _))).mono ?_
  rintro e w1 ⟨rfl, hb⟩
  rw [HV.out]
  have b1 := (Blk.new w #[.int .i64 4, .int .i64 t, .int .i64 f, .int .i64 o, .slice A l.length c] 46).bl hb
  have d0 := b1.cell 0
  simp at d0
  have HB1 := Lib.hid (((Bl.refl w).alloc (.cells #[.int .i64 4, .int .i64 t, .int .i64 f, .int .i64 o, .slice A l.length c] 46)).bl hb)
  have HBk1 := Lib.hid (HBk.out.bl HB1.out)
  have c0 := HBk1.out.cell 0
  have c1 := HBk1.out.cell 1
  have c2 := HBk1.out.cell 2
  simp [histC, Head.v] at c0 c1 c2
  clear hb b1
  go_wp2_with fail
  refine wp_region_ways (S := (fun _ => True)) [0, 1, 2, 3, 4, 5, 7, 8, 9, 11, 12, 13, 16, 17, 18, 19, 20, 21, 23, 24, 26, 27] (y := .take 0 (.take 1 (.take 2 (.take 3 (.take 4 (.take 5 (.take 7 (.take 8 (.take 9 (.take 11 (.take 12 (.take 13 (.ev 6 (.ev 10 (.ev 14 (.ev 15 (.take 16 (.take 17 (.take 18 (.take 19 (.take 20 (.take 21 (.ev 22 (.take 23 (.take 24 (.ev 25 (.take 26 (.take 27 (.ev 28 (.done) (.stop)))) (.stop)))) (.stop)))))))) (.stop)) (.stop)) (.ev 14 (.ev 10 (.ev 15 (.take 16 (.take 17 (.take 18 (.take 19 (.take 20 (.take 21 (.ev 22 (.take 23 (.take 24 (.ev 25 (.take 26 (.take 27 (.ev 28 (.done) (.stop)))) (.stop)))) (.stop)))))))) (.stop)) (.stop)) (.stop))) (.ev 10 (.ev 6 (.ev 14 (.ev 15 (.take 16 (.take 17 (.take 18 (.take 19 (.take 20 (.take 21 (.ev 22 (.take 23 (.take 24 (.ev 25 (.take 26 (.take 27 (.ev 28 (.done) (.stop)))) (.stop)))) (.stop)))))))) (.stop)) (.stop)) (.ev 14 (.ev 6 (.ev 15 (.take 16 (.take 17 (.take 18 (.take 19 (.take 20 (.take 21 (.ev 22 (.take 23 (.take 24 (.ev 25 (.take 26 (.take 27 (.ev 28 (.done) (.stop)))) (.stop)))) (.stop)))))))) (.stop)) (.stop)) (.stop))) (.ev 14 (.ev 6 (.ev 10 (.ev 15 (.take 16 (.take 17 (.take 18 (.take 19 (.take 20 (.take 21 (.ev 22 (.take 23 (.take 24 (.ev 25 (.take 26 (.take 27 (.ev 28 (.done) (.stop)))) (.stop)))) (.stop)))))))) (.stop)) (.stop)) (.ev 10 (.ev 6 (.ev 15 (.take 16 (.take 17 (.take 18 (.take 19 (.take 20 (.take 21 (.ev 22 (.take 23 (.take 24 (.ev 25 (.take 26 (.take 27 (.ev 28 (.done) (.stop)))) (.stop)))) (.stop)))))))) (.stop)) (.stop)) (.stop))) (.stop)))))))))))))))) (by kernel_rfl) (by kernel_rfl) (by kernel_rfl) ?_ (fun hHeld => ?_)
  · trivial
  repeat (first | (refine wpWay_take rfl (by rfl) (by intro w hSw; (try dsimp only at hSw); first | (go_simp; done) | (go_simp; with_reducible rfl)) ?_; try simp only [Act.put, List.setIfInBounds_toArray, List.set_cons_zero, List.set_cons_succ]) | (refine wpWay_skip rfl (by rfl) ?_; try simp only [Act.put, List.setIfInBounds_toArray, List.set_cons_zero, List.set_cons_succ]))
  refine wpWay_ev rfl (fun K hK => ?_) ?_
  · go_wp2_with fail
    refine ⟨trivial, ?_⟩
    repeat (first | (refine wpWay_take rfl (by rfl) (by intro w hSw; (try dsimp only at hSw); first | (go_simp; done) | (go_simp; with_reducible rfl)) ?_; try simp only [Act.put, List.setIfInBounds_toArray, List.set_cons_zero, List.set_cons_succ]) | (refine wpWay_skip rfl (by rfl) ?_; try simp only [Act.put, List.setIfInBounds_toArray, List.set_cons_zero, List.set_cons_succ]))
    refine wpWay_ev rfl (fun K hK => ?_) ?_
    · go_wp2_with fail
      refine ⟨trivial, ?_⟩
      repeat (first | (refine wpWay_take rfl (by rfl) (by intro w hSw; (try dsimp only at hSw); first | (go_simp; done) | (go_simp; with_reducible rfl)) ?_; try simp only [Act.put, List.setIfInBounds_toArray, List.set_cons_zero, List.set_cons_succ]) | (refine wpWay_skip rfl (by rfl) ?_; try simp only [Act.put, List.setIfInBounds_toArray, List.set_cons_zero, List.set_cons_succ]))
      refine wpWay_ev rfl (fun K hK => ?_) wpWay_stop
      go_wp2_with fail
      refine ⟨trivial, ?_⟩
      repeat (first | (refine wpWay_take rfl (by rfl) (by intro w hSw; (try dsimp only at hSw); first | (go_simp; done) | (go_simp; with_reducible rfl)) ?_; try simp only [Act.put, List.setIfInBounds_toArray, List.set_cons_zero, List.set_cons_succ]) | (refine wpWay_skip rfl (by rfl) ?_; try simp only [Act.put, List.setIfInBounds_toArray, List.set_cons_zero, List.set_cons_succ]))
      refine wpWay_ev rfl (fun K hK => ?_) wpWay_stop
      go_wp2_with fail
      refine (hturn_any _ _ us rs n _ (HU.out.1.bl HB1.out.drew) (HQ.out.1.bl HB1.out.drew) HUL.out HN.out HN'.out).mono ?_
      rintro e w2 ⟨u1, u2, rfl, hf1, hf2, hb⟩
      have HBk2 := Lib.hid ((HBk1.out.bl (Bl.refl _).drew).bl hb)
      have HB2 := Lib.hid ((HB1.out.drew).bl hb)
      obtain ⟨A1, d1, z1, _⟩ := id hf1.1
      obtain ⟨A2, d2, z2, _⟩ := id hf2.1
      subst z1
      subst z2
      generalize hn1 : (us.take (us.length - 1)).length = n1 at *
      generalize hn2 : ((rs ++ [n]).drop (rs.length + 1 - 4)).length = n2 at *
      have HF1 := Lib.hid hf1
      have HF2 := Lib.hid hf2
      clear hf1 hf2 hb hn1 hn2
      go_wp2_with fail
      refine ⟨trivial, ?_⟩
      repeat (first | (refine wpWay_take rfl (by rfl) (by intro w hSw; (try dsimp only at hSw); first | (go_simp; done) | (go_simp; with_reducible rfl)) ?_; try simp only [Act.put, List.setIfInBounds_toArray, List.set_cons_zero, List.set_cons_succ]) | (refine wpWay_skip rfl (by rfl) ?_; try simp only [Act.put, List.setIfInBounds_toArray, List.set_cons_zero, List.set_cons_succ]))
      refine wpWay_ev rfl (fun K hK => ?_) wpWay_stop
      have f1 := HBk2.out.frozen 1
      have g1 := HBk2.out.cell 1
      have l1 := HBk2.out.lt
      simp [histC] at g1
      go_wp2_with fail
      clear f1 g1 l1
      have HBk3 := Lib.hid (HBk2.out.set 1 (.slice A1 n1 d1))
      refine ⟨trivial, ?_⟩
      repeat (first | (refine wpWay_take rfl (by rfl) (by intro w hSw; (try dsimp only at hSw); first | (go_simp; done) | (go_simp; with_reducible rfl)) ?_; try simp only [Act.put, List.setIfInBounds_toArray, List.set_cons_zero, List.set_cons_succ]) | (refine wpWay_skip rfl (by rfl) ?_; try simp only [Act.put, List.setIfInBounds_toArray, List.set_cons_zero, List.set_cons_succ]))
      refine wpWay_ev rfl (fun K hK => ?_) wpWay_stop
      have f1 := HBk3.out.frozen 2
      have g1 := HBk3.out.cell 2
      have l1 := HBk3.out.lt
      simp [histC] at g1
      go_wp2_with fail
      clear f1 g1 l1
      have HBk4 := Lib.hid (HBk3.out.set 2 (.slice A2 n2 d2))
      refine ⟨trivial, ?_⟩
      repeat (first | (refine wpWay_take rfl (by rfl) (by intro w hSw; (try dsimp only at hSw); first | (go_simp; done) | (go_simp; with_reducible rfl)) ?_; try simp only [Act.put, List.setIfInBounds_toArray, List.set_cons_zero, List.set_cons_succ]) | (refine wpWay_skip rfl (by rfl) ?_; try simp only [Act.put, List.setIfInBounds_toArray, List.set_cons_zero, List.set_cons_succ]))
      refine wpWay_ev rfl (fun K hK => ?_) wpWay_stop
      have f1 := HBk4.out.frozen 0
      have g1 := HBk4.out.cell 0
      have l1 := HBk4.out.lt
      simp [histC] at g1
      go_wp2_with fail
      clear f1 g1 l1
      have HBk5 := Lib.hid (HBk4.out.set 0 (.pointer (some ⟨us[us.length - 1]'(by have := HUL.out; omega), 0, none⟩)))
      refine ⟨trivial, ?_⟩
      repeat (first | (refine wpWay_take rfl (by rfl) (by intro w hSw; (try dsimp only at hSw); first | (go_simp; done) | (go_simp; with_reducible rfl)) ?_; try simp only [Act.put, List.setIfInBounds_toArray, List.set_cons_zero, List.set_cons_succ]) | (refine wpWay_skip rfl (by rfl) ?_; try simp only [Act.put, List.setIfInBounds_toArray, List.set_cons_zero, List.set_cons_succ]))
      refine wpWay_done ?_
      go_wp2_with fail
      go_ret
      refine ⟨rfl, hist_done (u' := ⟨A1, n1, d1⟩) (r' := ⟨A2, n2, d2⟩) HB2.out HBk2.out (((keepO_set _ _ _ _).trans (keepO_set _ _ _ _)).trans (keepO_set _ _ _ _)) HBk5.out (grown_trans (grown_trans (set_grownB _ _ _ _) (set_grownB _ _ _ _)) (set_grownB _ _ _ _)) ?_ (HF1.out.low ?_) (HF2.out.low ?_) ((HSU.out.bl HB2.out).take' HULen.out) (((HSR.out.snoc HNow.out).bl HB2.out).drop' HRLen.out)⟩
      · exact (HSU.out.bl HB2.out).2 _ _ _ (by rw [HULen.out]; exact List.getElem?_eq_getElem _) (List.getElem?_eq_getElem _)
      · have := HB1.out.size; simp; omega
      · have := HB1.out.size; simp; omega
    · refine wpWay_ev rfl (fun K hK => ?_) wpWay_stop
      go_wp2_with fail
      refine ⟨trivial, ?_⟩
      repeat (first | (refine wpWay_take rfl (by rfl) (by intro w hSw; (try dsimp only at hSw); first | (go_simp; done) | (go_simp; with_reducible rfl)) ?_; try simp only [Act.put, List.setIfInBounds_toArray, List.set_cons_zero, List.set_cons_succ]) | (refine wpWay_skip rfl (by rfl) ?_; try simp only [Act.put, List.setIfInBounds_toArray, List.set_cons_zero, List.set_cons_succ]))
      refine wpWay_ev rfl (fun K hK => ?_) wpWay_stop
      go_wp2_with fail
      refine ⟨trivial, ?_⟩
      repeat (first | (refine wpWay_take rfl (by rfl) (by intro w hSw; (try dsimp only at hSw); first | (go_simp; done) | (go_simp; with_reducible rfl)) ?_; try simp only [Act.put, List.setIfInBounds_toArray, List.set_cons_zero, List.set_cons_succ]) | (refine wpWay_skip rfl (by rfl) ?_; try simp only [Act.put, List.setIfInBounds_toArray, List.set_cons_zero, List.set_cons_succ]))
      refine wpWay_ev rfl (fun K hK => ?_) wpWay_stop
      go_wp2_with fail
      refine (hturn_any _ _ us rs n _ (HU.out.1.bl HB1.out.drew) (HQ.out.1.bl HB1.out.drew) HUL.out HN.out HN'.out).mono ?_
      rintro e w2 ⟨u1, u2, rfl, hf1, hf2, hb⟩
      have HBk2 := Lib.hid ((HBk1.out.bl (Bl.refl _).drew).bl hb)
      have HB2 := Lib.hid ((HB1.out.drew).bl hb)
      obtain ⟨A1, d1, z1, _⟩ := id hf1.1
      obtain ⟨A2, d2, z2, _⟩ := id hf2.1
      subst z1
      subst z2
      generalize hn1 : (us.take (us.length - 1)).length = n1 at *
      generalize hn2 : ((rs ++ [n]).drop (rs.length + 1 - 4)).length = n2 at *
      have HF1 := Lib.hid hf1
      have HF2 := Lib.hid hf2
      clear hf1 hf2 hb hn1 hn2
      go_wp2_with fail
      refine ⟨trivial, ?_⟩
      repeat (first | (refine wpWay_take rfl (by rfl) (by intro w hSw; (try dsimp only at hSw); first | (go_simp; done) | (go_simp; with_reducible rfl)) ?_; try simp only [Act.put, List.setIfInBounds_toArray, List.set_cons_zero, List.set_cons_succ]) | (refine wpWay_skip rfl (by rfl) ?_; try simp only [Act.put, List.setIfInBounds_toArray, List.set_cons_zero, List.set_cons_succ]))
      refine wpWay_ev rfl (fun K hK => ?_) wpWay_stop
      have f1 := HBk2.out.frozen 1
      have g1 := HBk2.out.cell 1
      have l1 := HBk2.out.lt
      simp [histC] at g1
      go_wp2_with fail
      clear f1 g1 l1
      have HBk3 := Lib.hid (HBk2.out.set 1 (.slice A1 n1 d1))
      refine ⟨trivial, ?_⟩
      repeat (first | (refine wpWay_take rfl (by rfl) (by intro w hSw; (try dsimp only at hSw); first | (go_simp; done) | (go_simp; with_reducible rfl)) ?_; try simp only [Act.put, List.setIfInBounds_toArray, List.set_cons_zero, List.set_cons_succ]) | (refine wpWay_skip rfl (by rfl) ?_; try simp only [Act.put, List.setIfInBounds_toArray, List.set_cons_zero, List.set_cons_succ]))
      refine wpWay_ev rfl (fun K hK => ?_) wpWay_stop
      have f1 := HBk3.out.frozen 2
      have g1 := HBk3.out.cell 2
      have l1 := HBk3.out.lt
      simp [histC] at g1
      go_wp2_with fail
      clear f1 g1 l1
      have HBk4 := Lib.hid (HBk3.out.set 2 (.slice A2 n2 d2))
      refine ⟨trivial, ?_⟩
      repeat (first | (refine wpWay_take rfl (by rfl) (by intro w hSw; (try dsimp only at hSw); first | (go_simp; done) | (go_simp; with_reducible rfl)) ?_; try simp only [Act.put, List.setIfInBounds_toArray, List.set_cons_zero, List.set_cons_succ]) | (refine wpWay_skip rfl (by rfl) ?_; try simp only [Act.put, List.setIfInBounds_toArray, List.set_cons_zero, List.set_cons_succ]))
      refine wpWay_ev rfl (fun K hK => ?_) wpWay_stop
      have f1 := HBk4.out.frozen 0
      have g1 := HBk4.out.cell 0
      have l1 := HBk4.out.lt
      simp [histC] at g1
      go_wp2_with fail
      clear f1 g1 l1
      have HBk5 := Lib.hid (HBk4.out.set 0 (.pointer (some ⟨us[us.length - 1]'(by have := HUL.out; omega), 0, none⟩)))
      refine ⟨trivial, ?_⟩
      repeat (first | (refine wpWay_take rfl (by rfl) (by intro w hSw; (try dsimp only at hSw); first | (go_simp; done) | (go_simp; with_reducible rfl)) ?_; try simp only [Act.put, List.setIfInBounds_toArray, List.set_cons_zero, List.set_cons_succ]) | (refine wpWay_skip rfl (by rfl) ?_; try simp only [Act.put, List.setIfInBounds_toArray, List.set_cons_zero, List.set_cons_succ]))
      refine wpWay_done ?_
      go_wp2_with fail
      go_ret
      refine ⟨rfl, hist_done (u' := ⟨A1, n1, d1⟩) (r' := ⟨A2, n2, d2⟩) HB2.out HBk2.out (((keepO_set _ _ _ _).trans (keepO_set _ _ _ _)).trans (keepO_set _ _ _ _)) HBk5.out (grown_trans (grown_trans (set_grownB _ _ _ _) (set_grownB _ _ _ _)) (set_grownB _ _ _ _)) ?_ (HF1.out.low ?_) (HF2.out.low ?_) ((HSU.out.bl HB2.out).take' HULen.out) (((HSR.out.snoc HNow.out).bl HB2.out).drop' HRLen.out)⟩
      · exact (HSU.out.bl HB2.out).2 _ _ _ (by rw [HULen.out]; exact List.getElem?_eq_getElem _) (List.getElem?_eq_getElem _)
      · have := HB1.out.size; simp; omega
      · have := HB1.out.size; simp; omega
  · refine wpWay_ev rfl (fun K hK => ?_) ?_
    · go_wp2_with fail
      refine ⟨trivial, ?_⟩
      repeat (first | (refine wpWay_take rfl (by rfl) (by intro w hSw; (try dsimp only at hSw); first | (go_simp; done) | (go_simp; with_reducible rfl)) ?_; try simp only [Act.put, List.setIfInBounds_toArray, List.set_cons_zero, List.set_cons_succ]) | (refine wpWay_skip rfl (by rfl) ?_; try simp only [Act.put, List.setIfInBounds_toArray, List.set_cons_zero, List.set_cons_succ]))
      refine wpWay_ev rfl (fun K hK => ?_) ?_
      · go_wp2_with fail
        refine ⟨trivial, ?_⟩
        repeat (first | (refine wpWay_take rfl (by rfl) (by intro w hSw; (try dsimp only at hSw); first | (go_simp; done) | (go_simp; with_reducible rfl)) ?_; try simp only [Act.put, List.setIfInBounds_toArray, List.set_cons_zero, List.set_cons_succ]) | (refine wpWay_skip rfl (by rfl) ?_; try simp only [Act.put, List.setIfInBounds_toArray, List.set_cons_zero, List.set_cons_succ]))
        refine wpWay_ev rfl (fun K hK => ?_) wpWay_stop
        go_wp2_with fail
        refine ⟨trivial, ?_⟩
        repeat (first | (refine wpWay_take rfl (by rfl) (by intro w hSw; (try dsimp only at hSw); first | (go_simp; done) | (go_simp; with_reducible rfl)) ?_; try simp only [Act.put, List.setIfInBounds_toArray, List.set_cons_zero, List.set_cons_succ]) | (refine wpWay_skip rfl (by rfl) ?_; try simp only [Act.put, List.setIfInBounds_toArray, List.set_cons_zero, List.set_cons_succ]))
        refine wpWay_ev rfl (fun K hK => ?_) wpWay_stop
        go_wp2_with fail
        refine (hturn_any _ _ us rs n _ (HU.out.1.bl HB1.out.drew) (HQ.out.1.bl HB1.out.drew) HUL.out HN.out HN'.out).mono ?_
        rintro e w2 ⟨u1, u2, rfl, hf1, hf2, hb⟩
        have HBk2 := Lib.hid ((HBk1.out.bl (Bl.refl _).drew).bl hb)
        have HB2 := Lib.hid ((HB1.out.drew).bl hb)
        obtain ⟨A1, d1, z1, _⟩ := id hf1.1
        obtain ⟨A2, d2, z2, _⟩ := id hf2.1
        subst z1
        subst z2
        generalize hn1 : (us.take (us.length - 1)).length = n1 at *
        generalize hn2 : ((rs ++ [n]).drop (rs.length + 1 - 4)).length = n2 at *
        have HF1 := Lib.hid hf1
        have HF2 := Lib.hid hf2
        clear hf1 hf2 hb hn1 hn2
        go_wp2_with fail
        refine ⟨trivial, ?_⟩
        repeat (first | (refine wpWay_take rfl (by rfl) (by intro w hSw; (try dsimp only at hSw); first | (go_simp; done) | (go_simp; with_reducible rfl)) ?_; try simp only [Act.put, List.setIfInBounds_toArray, List.set_cons_zero, List.set_cons_succ]) | (refine wpWay_skip rfl (by rfl) ?_; try simp only [Act.put, List.setIfInBounds_toArray, List.set_cons_zero, List.set_cons_succ]))
        refine wpWay_ev rfl (fun K hK => ?_) wpWay_stop
        have f1 := HBk2.out.frozen 1
        have g1 := HBk2.out.cell 1
        have l1 := HBk2.out.lt
        simp [histC] at g1
        go_wp2_with fail
        clear f1 g1 l1
        have HBk3 := Lib.hid (HBk2.out.set 1 (.slice A1 n1 d1))
        refine ⟨trivial, ?_⟩
        repeat (first | (refine wpWay_take rfl (by rfl) (by intro w hSw; (try dsimp only at hSw); first | (go_simp; done) | (go_simp; with_reducible rfl)) ?_; try simp only [Act.put, List.setIfInBounds_toArray, List.set_cons_zero, List.set_cons_succ]) | (refine wpWay_skip rfl (by rfl) ?_; try simp only [Act.put, List.setIfInBounds_toArray, List.set_cons_zero, List.set_cons_succ]))
        refine wpWay_ev rfl (fun K hK => ?_) wpWay_stop
        have f1 := HBk3.out.frozen 2
        have g1 := HBk3.out.cell 2
        have l1 := HBk3.out.lt
        simp [histC] at g1
        go_wp2_with fail
        clear f1 g1 l1
        have HBk4 := Lib.hid (HBk3.out.set 2 (.slice A2 n2 d2))
        refine ⟨trivial, ?_⟩
        repeat (first | (refine wpWay_take rfl (by rfl) (by intro w hSw; (try dsimp only at hSw); first | (go_simp; done) | (go_simp; with_reducible rfl)) ?_; try simp only [Act.put, List.setIfInBounds_toArray, List.set_cons_zero, List.set_cons_succ]) | (refine wpWay_skip rfl (by rfl) ?_; try simp only [Act.put, List.setIfInBounds_toArray, List.set_cons_zero, List.set_cons_succ]))
        refine wpWay_ev rfl (fun K hK => ?_) wpWay_stop
        have f1 := HBk4.out.frozen 0
        have g1 := HBk4.out.cell 0
        have l1 := HBk4.out.lt
        simp [histC] at g1
        go_wp2_with fail
        clear f1 g1 l1
        have HBk5 := Lib.hid (HBk4.out.set 0 (.pointer (some ⟨us[us.length - 1]'(by have := HUL.out; omega), 0, none⟩)))
        refine ⟨trivial, ?_⟩
        repeat (first | (refine wpWay_take rfl (by rfl) (by intro w hSw; (try dsimp only at hSw); first | (go_simp; done) | (go_simp; with_reducible rfl)) ?_; try simp only [Act.put, List.setIfInBounds_toArray, List.set_cons_zero, List.set_cons_succ]) | (refine wpWay_skip rfl (by rfl) ?_; try simp only [Act.put, List.setIfInBounds_toArray, List.set_cons_zero, List.set_cons_succ]))
        refine wpWay_done ?_
        go_wp2_with fail
        go_ret
        refine ⟨rfl, hist_done (u' := ⟨A1, n1, d1⟩) (r' := ⟨A2, n2, d2⟩) HB2.out HBk2.out (((keepO_set _ _ _ _).trans (keepO_set _ _ _ _)).trans (keepO_set _ _ _ _)) HBk5.out (grown_trans (grown_trans (set_grownB _ _ _ _) (set_grownB _ _ _ _)) (set_grownB _ _ _ _)) ?_ (HF1.out.low ?_) (HF2.out.low ?_) ((HSU.out.bl HB2.out).take' HULen.out) (((HSR.out.snoc HNow.out).bl HB2.out).drop' HRLen.out)⟩
        · exact (HSU.out.bl HB2.out).2 _ _ _ (by rw [HULen.out]; exact List.getElem?_eq_getElem _) (List.getElem?_eq_getElem _)
        · have := HB1.out.size; simp; omega
        · have := HB1.out.size; simp; omega
      · refine wpWay_ev rfl (fun K hK => ?_) wpWay_stop
        go_wp2_with fail
        refine ⟨trivial, ?_⟩
        repeat (first | (refine wpWay_take rfl (by rfl) (by intro w hSw; (try dsimp only at hSw); first | (go_simp; done) | (go_simp; with_reducible rfl)) ?_; try simp only [Act.put, List.setIfInBounds_toArray, List.set_cons_zero, List.set_cons_succ]) | (refine wpWay_skip rfl (by rfl) ?_; try simp only [Act.put, List.setIfInBounds_toArray, List.set_cons_zero, List.set_cons_succ]))
        refine wpWay_ev rfl (fun K hK => ?_) wpWay_stop
        go_wp2_with fail
        refine ⟨trivial, ?_⟩
        repeat (first | (refine wpWay_take rfl (by rfl) (by intro w hSw; (try dsimp only at hSw); first | (go_simp; done) | (go_simp; with_reducible rfl)) ?_; try simp only [Act.put, List.setIfInBounds_toArray, List.set_cons_zero, List.set_cons_succ]) | (refine wpWay_skip rfl (by rfl) ?_; try simp only [Act.put, List.setIfInBounds_toArray, List.set_cons_zero, List.set_cons_succ]))
        refine wpWay_ev rfl (fun K hK => ?_) wpWay_stop
        go_wp2_with fail
        refine (hturn_any _ _ us rs n _ (HU.out.1.bl HB1.out.drew) (HQ.out.1.bl HB1.out.drew) HUL.out HN.out HN'.out).mono ?_
        rintro e w2 ⟨u1, u2, rfl, hf1, hf2, hb⟩
        have HBk2 := Lib.hid ((HBk1.out.bl (Bl.refl _).drew).bl hb)
        have HB2 := Lib.hid ((HB1.out.drew).bl hb)
        obtain ⟨A1, d1, z1, _⟩ := id hf1.1
        obtain ⟨A2, d2, z2, _⟩ := id hf2.1
        subst z1
        subst z2
        generalize hn1 : (us.take (us.length - 1)).length = n1 at *
        generalize hn2 : ((rs ++ [n]).drop (rs.length + 1 - 4)).length = n2 at *
        have HF1 := Lib.hid hf1
        have HF2 := Lib.hid hf2
        clear hf1 hf2 hb hn1 hn2
        go_wp2_with fail
        refine ⟨trivial, ?_⟩
        repeat (first | (refine wpWay_take rfl (by rfl) (by intro w hSw; (try dsimp only at hSw); first | (go_simp; done) | (go_simp; with_reducible rfl)) ?_; try simp only [Act.put, List.setIfInBounds_toArray, List.set_cons_zero, List.set_cons_succ]) | (refine wpWay_skip rfl (by rfl) ?_; try simp only [Act.put, List.setIfInBounds_toArray, List.set_cons_zero, List.set_cons_succ]))
        refine wpWay_ev rfl (fun K hK => ?_) wpWay_stop
        have f1 := HBk2.out.frozen 1
        have g1 := HBk2.out.cell 1
        have l1 := HBk2.out.lt
        simp [histC] at g1
        go_wp2_with fail
        clear f1 g1 l1
        have HBk3 := Lib.hid (HBk2.out.set 1 (.slice A1 n1 d1))
        refine ⟨trivial, ?_⟩
        repeat (first | (refine wpWay_take rfl (by rfl) (by intro w hSw; (try dsimp only at hSw); first | (go_simp; done) | (go_simp; with_reducible rfl)) ?_; try simp only [Act.put, List.setIfInBounds_toArray, List.set_cons_zero, List.set_cons_succ]) | (refine wpWay_skip rfl (by rfl) ?_; try simp only [Act.put, List.setIfInBounds_toArray, List.set_cons_zero, List.set_cons_succ]))
        refine wpWay_ev rfl (fun K hK => ?_) wpWay_stop
        have f1 := HBk3.out.frozen 2
        have g1 := HBk3.out.cell 2
        have l1 := HBk3.out.lt
        simp [histC] at g1
        go_wp2_with fail
        clear f1 g1 l1
        have HBk4 := Lib.hid (HBk3.out.set 2 (.slice A2 n2 d2))
        refine ⟨trivial, ?_⟩
        repeat (first | (refine wpWay_take rfl (by rfl) (by intro w hSw; (try dsimp only at hSw); first | (go_simp; done) | (go_simp; with_reducible rfl)) ?_; try simp only [Act.put, List.setIfInBounds_toArray, List.set_cons_zero, List.set_cons_succ]) | (refine wpWay_skip rfl (by rfl) ?_; try simp only [Act.put, List.setIfInBounds_toArray, List.set_cons_zero, List.set_cons_succ]))
        refine wpWay_ev rfl (fun K hK => ?_) wpWay_stop
        have f1 := HBk4.out.frozen 0
        have g1 := HBk4.out.cell 0
        have l1 := HBk4.out.lt
        simp [histC] at g1
        go_wp2_with fail
        clear f1 g1 l1
        have HBk5 := Lib.hid (HBk4.out.set 0 (.pointer (some ⟨us[us.length - 1]'(by have := HUL.out; omega), 0, none⟩)))
        refine ⟨trivial, ?_⟩
        repeat (first | (refine wpWay_take rfl (by rfl) (by intro w hSw; (try dsimp only at hSw); first | (go_simp; done) | (go_simp; with_reducible rfl)) ?_; try simp only [Act.put, List.setIfInBounds_toArray, List.set_cons_zero, List.set_cons_succ]) | (refine wpWay_skip rfl (by rfl) ?_; try simp only [Act.put, List.setIfInBounds_toArray, List.set_cons_zero, List.set_cons_succ]))
        refine wpWay_done ?_
        go_wp2_with fail
        go_ret
        refine ⟨rfl, hist_done (u' := ⟨A1, n1, d1⟩) (r' := ⟨A2, n2, d2⟩) HB2.out HBk2.out (((keepO_set _ _ _ _).trans (keepO_set _ _ _ _)).trans (keepO_set _ _ _ _)) HBk5.out (grown_trans (grown_trans (set_grownB _ _ _ _) (set_grownB _ _ _ _)) (set_grownB _ _ _ _)) ?_ (HF1.out.low ?_) (HF2.out.low ?_) ((HSU.out.bl HB2.out).take' HULen.out) (((HSR.out.snoc HNow.out).bl HB2.out).drop' HRLen.out)⟩
        · exact (HSU.out.bl HB2.out).2 _ _ _ (by rw [HULen.out]; exact List.getElem?_eq_getElem _) (List.getElem?_eq_getElem _)
        · have := HB1.out.size; simp; omega
        · have := HB1.out.size; simp; omega
    · refine wpWay_ev rfl (fun K hK => ?_) wpWay_stop
      go_wp2_with fail
      refine ⟨trivial, ?_⟩
      repeat (first | (refine wpWay_take rfl (by rfl) (by intro w hSw; (try dsimp only at hSw); first | (go_simp; done) | (go_simp; with_reducible rfl)) ?_; try simp only [Act.put, List.setIfInBounds_toArray, List.set_cons_zero, List.set_cons_succ]) | (refine wpWay_skip rfl (by rfl) ?_; try simp only [Act.put, List.setIfInBounds_toArray, List.set_cons_zero, List.set_cons_succ]))
      refine wpWay_ev rfl (fun K hK => ?_) ?_
      · go_wp2_with fail
        refine ⟨trivial, ?_⟩
        repeat (first | (refine wpWay_take rfl (by rfl) (by intro w hSw; (try dsimp only at hSw); first | (go_simp; done) | (go_simp; with_reducible rfl)) ?_; try simp only [Act.put, List.setIfInBounds_toArray, List.set_cons_zero, List.set_cons_succ]) | (refine wpWay_skip rfl (by rfl) ?_; try simp only [Act.put, List.setIfInBounds_toArray, List.set_cons_zero, List.set_cons_succ]))
        refine wpWay_ev rfl (fun K hK => ?_) wpWay_stop
        go_wp2_with fail
        refine ⟨trivial, ?_⟩
        repeat (first | (refine wpWay_take rfl (by rfl) (by intro w hSw; (try dsimp only at hSw); first | (go_simp; done) | (go_simp; with_reducible rfl)) ?_; try simp only [Act.put, List.setIfInBounds_toArray, List.set_cons_zero, List.set_cons_succ]) | (refine wpWay_skip rfl (by rfl) ?_; try simp only [Act.put, List.setIfInBounds_toArray, List.set_cons_zero, List.set_cons_succ]))
        refine wpWay_ev rfl (fun K hK => ?_) wpWay_stop
        go_wp2_with fail
        refine (hturn_any _ _ us rs n _ (HU.out.1.bl HB1.out.drew) (HQ.out.1.bl HB1.out.drew) HUL.out HN.out HN'.out).mono ?_
        rintro e w2 ⟨u1, u2, rfl, hf1, hf2, hb⟩
        have HBk2 := Lib.hid ((HBk1.out.bl (Bl.refl _).drew).bl hb)
        have HB2 := Lib.hid ((HB1.out.drew).bl hb)
        obtain ⟨A1, d1, z1, _⟩ := id hf1.1
        obtain ⟨A2, d2, z2, _⟩ := id hf2.1
        subst z1
        subst z2
        generalize hn1 : (us.take (us.length - 1)).length = n1 at *
        generalize hn2 : ((rs ++ [n]).drop (rs.length + 1 - 4)).length = n2 at *
        have HF1 := Lib.hid hf1
        have HF2 := Lib.hid hf2
        clear hf1 hf2 hb hn1 hn2
        go_wp2_with fail
        refine ⟨trivial, ?_⟩
        repeat (first | (refine wpWay_take rfl (by rfl) (by intro w hSw; (try dsimp only at hSw); first | (go_simp; done) | (go_simp; with_reducible rfl)) ?_; try simp only [Act.put, List.setIfInBounds_toArray, List.set_cons_zero, List.set_cons_succ]) | (refine wpWay_skip rfl (by rfl) ?_; try simp only [Act.put, List.setIfInBounds_toArray, List.set_cons_zero, List.set_cons_succ]))
        refine wpWay_ev rfl (fun K hK => ?_) wpWay_stop
        have f1 := HBk2.out.frozen 1
        have g1 := HBk2.out.cell 1
        have l1 := HBk2.out.lt
        simp [histC] at g1
        go_wp2_with fail
        clear f1 g1 l1
        have HBk3 := Lib.hid (HBk2.out.set 1 (.slice A1 n1 d1))
        refine ⟨trivial, ?_⟩
        repeat (first | (refine wpWay_take rfl (by rfl) (by intro w hSw; (try dsimp only at hSw); first | (go_simp; done) | (go_simp; with_reducible rfl)) ?_; try simp only [Act.put, List.setIfInBounds_toArray, List.set_cons_zero, List.set_cons_succ]) | (refine wpWay_skip rfl (by rfl) ?_; try simp only [Act.put, List.setIfInBounds_toArray, List.set_cons_zero, List.set_cons_succ]))
        refine wpWay_ev rfl (fun K hK => ?_) wpWay_stop
        have f1 := HBk3.out.frozen 2
        have g1 := HBk3.out.cell 2
        have l1 := HBk3.out.lt
        simp [histC] at g1
        go_wp2_with fail
        clear f1 g1 l1
        have HBk4 := Lib.hid (HBk3.out.set 2 (.slice A2 n2 d2))
        refine ⟨trivial, ?_⟩
        repeat (first | (refine wpWay_take rfl (by rfl) (by intro w hSw; (try dsimp only at hSw); first | (go_simp; done) | (go_simp; with_reducible rfl)) ?_; try simp only [Act.put, List.setIfInBounds_toArray, List.set_cons_zero, List.set_cons_succ]) | (refine wpWay_skip rfl (by rfl) ?_; try simp only [Act.put, List.setIfInBounds_toArray, List.set_cons_zero, List.set_cons_succ]))
        refine wpWay_ev rfl (fun K hK => ?_) wpWay_stop
        have f1 := HBk4.out.frozen 0
        have g1 := HBk4.out.cell 0
        have l1 := HBk4.out.lt
        simp [histC] at g1
        go_wp2_with fail
        clear f1 g1 l1
        have HBk5 := Lib.hid (HBk4.out.set 0 (.pointer (some ⟨us[us.length - 1]'(by have := HUL.out; omega), 0, none⟩)))
        refine ⟨trivial, ?_⟩
        repeat (first | (refine wpWay_take rfl (by rfl) (by intro w hSw; (try dsimp only at hSw); first | (go_simp; done) | (go_simp; with_reducible rfl)) ?_; try simp only [Act.put, List.setIfInBounds_toArray, List.set_cons_zero, List.set_cons_succ]) | (refine wpWay_skip rfl (by rfl) ?_; try simp only [Act.put, List.setIfInBounds_toArray, List.set_cons_zero, List.set_cons_succ]))
        refine wpWay_done ?_
        go_wp2_with fail
        go_ret
        refine ⟨rfl, hist_done (u' := ⟨A1, n1, d1⟩) (r' := ⟨A2, n2, d2⟩) HB2.out HBk2.out (((keepO_set _ _ _ _).trans (keepO_set _ _ _ _)).trans (keepO_set _ _ _ _)) HBk5.out (grown_trans (grown_trans (set_grownB _ _ _ _) (set_grownB _ _ _ _)) (set_grownB _ _ _ _)) ?_ (HF1.out.low ?_) (HF2.out.low ?_) ((HSU.out.bl HB2.out).take' HULen.out) (((HSR.out.snoc HNow.out).bl HB2.out).drop' HRLen.out)⟩
        · exact (HSU.out.bl HB2.out).2 _ _ _ (by rw [HULen.out]; exact List.getElem?_eq_getElem _) (List.getElem?_eq_getElem _)
        · have := HB1.out.size; simp; omega
        · have := HB1.out.size; simp; omega
      · refine wpWay_ev rfl (fun K hK => ?_) wpWay_stop
        go_wp2_with fail
        refine ⟨trivial, ?_⟩
        repeat (first | (refine wpWay_take rfl (by rfl) (by intro w hSw; (try dsimp only at hSw); first | (go_simp; done) | (go_simp; with_reducible rfl)) ?_; try simp only [Act.put, List.setIfInBounds_toArray, List.set_cons_zero, List.set_cons_succ]) | (refine wpWay_skip rfl (by rfl) ?_; try simp only [Act.put, List.setIfInBounds_toArray, List.set_cons_zero, List.set_cons_succ]))
        refine wpWay_ev rfl (fun K hK => ?_) wpWay_stop
        go_wp2_with fail
        refine ⟨trivial, ?_⟩
        repeat (first | (refine wpWay_take rfl (by rfl) (by intro w hSw; (try dsimp only at hSw); first | (go_simp; done) | (go_simp; with_reducible rfl)) ?_; try simp only [Act.put, List.setIfInBounds_toArray, List.set_cons_zero, List.set_cons_succ]) | (refine wpWay_skip rfl (by rfl) ?_; try simp only [Act.put, List.setIfInBounds_toArray, List.set_cons_zero, List.set_cons_succ]))
        refine wpWay_ev rfl (fun K hK => ?_) wpWay_stop
        go_wp2_with fail
        refine (hturn_any _ _ us rs n _ (HU.out.1.bl HB1.out.drew) (HQ.out.1.bl HB1.out.drew) HUL.out HN.out HN'.out).mono ?_
        rintro e w2 ⟨u1, u2, rfl, hf1, hf2, hb⟩
        have HBk2 := Lib.hid ((HBk1.out.bl (Bl.refl _).drew).bl hb)
        have HB2 := Lib.hid ((HB1.out.drew).bl hb)
        obtain ⟨A1, d1, z1, _⟩ := id hf1.1
        obtain ⟨A2, d2, z2, _⟩ := id hf2.1
        subst z1
        subst z2
        generalize hn1 : (us.take (us.length - 1)).length = n1 at *
        generalize hn2 : ((rs ++ [n]).drop (rs.length + 1 - 4)).length = n2 at *
        have HF1 := Lib.hid hf1
        have HF2 := Lib.hid hf2
        clear hf1 hf2 hb hn1 hn2
        go_wp2_with fail
        refine ⟨trivial, ?_⟩
        repeat (first | (refine wpWay_take rfl (by rfl) (by intro w hSw; (try dsimp only at hSw); first | (go_simp; done) | (go_simp; with_reducible rfl)) ?_; try simp only [Act.put, List.setIfInBounds_toArray, List.set_cons_zero, List.set_cons_succ]) | (refine wpWay_skip rfl (by rfl) ?_; try simp only [Act.put, List.setIfInBounds_toArray, List.set_cons_zero, List.set_cons_succ]))
        refine wpWay_ev rfl (fun K hK => ?_) wpWay_stop
        have f1 := HBk2.out.frozen 1
        have g1 := HBk2.out.cell 1
        have l1 := HBk2.out.lt
        simp [histC] at g1
        go_wp2_with fail
        clear f1 g1 l1
        have HBk3 := Lib.hid (HBk2.out.set 1 (.slice A1 n1 d1))
        refine ⟨trivial, ?_⟩
        repeat (first | (refine wpWay_take rfl (by rfl) (by intro w hSw; (try dsimp only at hSw); first | (go_simp; done) | (go_simp; with_reducible rfl)) ?_; try simp only [Act.put, List.setIfInBounds_toArray, List.set_cons_zero, List.set_cons_succ]) | (refine wpWay_skip rfl (by rfl) ?_; try simp only [Act.put, List.setIfInBounds_toArray, List.set_cons_zero, List.set_cons_succ]))
        refine wpWay_ev rfl (fun K hK => ?_) wpWay_stop
        have f1 := HBk3.out.frozen 2
        have g1 := HBk3.out.cell 2
        have l1 := HBk3.out.lt
        simp [histC] at g1
        go_wp2_with fail
        clear f1 g1 l1
        have HBk4 := Lib.hid (HBk3.out.set 2 (.slice A2 n2 d2))
        refine ⟨trivial, ?_⟩
        repeat (first | (refine wpWay_take rfl (by rfl) (by intro w hSw; (try dsimp only at hSw); first | (go_simp; done) | (go_simp; with_reducible rfl)) ?_; try simp only [Act.put, List.setIfInBounds_toArray, List.set_cons_zero, List.set_cons_succ]) | (refine wpWay_skip rfl (by rfl) ?_; try simp only [Act.put, List.setIfInBounds_toArray, List.set_cons_zero, List.set_cons_succ]))
        refine wpWay_ev rfl (fun K hK => ?_) wpWay_stop
        have f1 := HBk4.out.frozen 0
        have g1 := HBk4.out.cell 0
        have l1 := HBk4.out.lt
        simp [histC] at g1
        go_wp2_with fail
        clear f1 g1 l1
        have HBk5 := Lib.hid (HBk4.out.set 0 (.pointer (some ⟨us[us.length - 1]'(by have := HUL.out; omega), 0, none⟩)))
        refine ⟨trivial, ?_⟩
        repeat (first | (refine wpWay_take rfl (by rfl) (by intro w hSw; (try dsimp only at hSw); first | (go_simp; done) | (go_simp; with_reducible rfl)) ?_; try simp only [Act.put, List.setIfInBounds_toArray, List.set_cons_zero, List.set_cons_succ]) | (refine wpWay_skip rfl (by rfl) ?_; try simp only [Act.put, List.setIfInBounds_toArray, List.set_cons_zero, List.set_cons_succ]))
        refine wpWay_done ?_
        go_wp2_with fail
        go_ret
        refine ⟨rfl, hist_done (u' := ⟨A1, n1, d1⟩) (r' := ⟨A2, n2, d2⟩) HB2.out HBk2.out (((keepO_set _ _ _ _).trans (keepO_set _ _ _ _)).trans (keepO_set _ _ _ _)) HBk5.out (grown_trans (grown_trans (set_grownB _ _ _ _) (set_grownB _ _ _ _)) (set_grownB _ _ _ _)) ?_ (HF1.out.low ?_) (HF2.out.low ?_) ((HSU.out.bl HB2.out).take' HULen.out) (((HSR.out.snoc HNow.out).bl HB2.out).drop' HRLen.out)⟩
        · exact (HSU.out.bl HB2.out).2 _ _ _ (by rw [HULen.out]; exact List.getElem?_eq_getElem _) (List.getElem?_eq_getElem _)
        · have := HB1.out.size; simp; omega
        · have := HB1.out.size; simp; omega
set_option maxRecDepth 100000 in
set_option maxHeartbeats 2000000 in
theorem happly_redo (B : Nat) (m : HistM) (rv : Value) (r : Rec) (w : World) (h : HistIs 59 w B m) (hr : RecIs w rv r) (hk : r.kind = 5) (hv : validRec r = true) (hu : 0 < m.redo.length) (hn : m.redo.length ≤ 4) (hn' : m.undo.length ≤ 4) :
    Calls Tryz.prog 21 #[.pointer (some ⟨B, 0, none⟩), rv] w fun e w' => e = .returned (.int .i64 0) ∧ HistIs 59 w' B (redoM m hu) ∧ w.grownBy w' (some B) := by
  have HR := Lib.hid hr
  have HH := Lib.hid h
  have HV := Lib.hid hv
  obtain ⟨n, u, q, us, rs, h0, h1, h2, h3, h4, h5⟩ := h
  obtain ⟨u2, rfl, hl⟩ := hr
  obtain ⟨A, c, rfl, _⟩ := hl
  have HBk := Lib.hid h0
  have hql := h5.1
  have hul := h4.1
  have HUL := Lib.hid (show 0 < rs.length by omega)
  have HN := Lib.hid (show rs.length ≤ 4 by omega)
  have HN' := Lib.hid (show us.length ≤ 4 by omega)
  obtain ⟨kk, t, f, o, l⟩ := r
  dsimp only at hk HV
  subst hk
  obtain ⟨qA, qn, qc⟩ := q
  obtain ⟨uA, un, uc⟩ := u
  obtain ⟨hQ, _, hQ1⟩ := id h3.1
  obtain ⟨hU, _, hU1⟩ := id h2.1
  simp only [Head.v] at hQ1 hU1 h3 h2
  have hqn : qn = rs.length := by simp at hQ1; exact hQ1.1.2.1
  subst hqn
  have hun : un = us.length := by simp at hU1; exact hU1.1.2.1
  subst hun
  have hB := h0.lt
  have HQ := Lib.hid h3
  have HU := Lib.hid h2
  have HNow := Lib.hid h1
  have HSR := Lib.hid h5
  have HSU := Lib.hid h4
  have HRLen := Lib.hid hql
  have HULen := Lib.hid hul
  have HM := Lib.hid hu
  have hu0 : ((rs.length : Int) == 0) = false := by rw [beq_eq_false_iff_ne]; omega
  clear h1 h3 h2 h5 h4 h0 hv hn hn' hql hul hQ1 hU1
  have hur := Tryz.underlying46
  have huh := Tryz.underlying59
  go_enter Tryz.func21, Tryz.ntmps21
  go_wp2_with fail
  refine (rvalidRec_any _ _ _ (HR.out.bl ((Bl.refl _).alloc _))).mono ?_
  rintro e w1 ⟨rfl, hb⟩
  rw [HV.out]
  have b1 := (Blk.new w #[.int .i64 5, .int .i64 t, .int .i64 f, .int .i64 o, .slice A l.length c] 46).bl hb
  have d0 := b1.cell 0
  simp at d0
  have HB1 := Lib.hid (((Bl.refl w).alloc (.cells #[.int .i64 5, .int .i64 t, .int .i64 f, .int .i64 o, .slice A l.length c] 46)).bl hb)
  have HBk1 := Lib.hid (HBk.out.bl HB1.out)
  have c0 := HBk1.out.cell 0
  have c1 := HBk1.out.cell 1
  have c2 := HBk1.out.cell 2
  simp [histC, Head.v] at c0 c1 c2
  clear hb b1
  go_wp2_with fail
  refine wp_region_ways (S := (fun _ => True)) [0, 1, 2, 3, 4, 5, 7, 8, 9, 11, 12, 13, 16, 17, 18, 19, 20, 21, 23, 24, 26, 27] (y := .take 0 (.take 1 (.take 2 (.take 3 (.take 4 (.take 5 (.take 7 (.take 8 (.take 9 (.take 11 (.take 12 (.take 13 (.ev 6 (.ev 10 (.ev 14 (.ev 15 (.take 16 (.take 17 (.take 18 (.take 19 (.take 20 (.take 21 (.ev 22 (.take 23 (.take 24 (.ev 25 (.take 26 (.take 27 (.ev 28 (.done) (.stop)))) (.stop)))) (.stop)))))))) (.stop)) (.stop)) (.ev 14 (.ev 10 (.ev 15 (.take 16 (.take 17 (.take 18 (.take 19 (.take 20 (.take 21 (.ev 22 (.take 23 (.take 24 (.ev 25 (.take 26 (.take 27 (.ev 28 (.done) (.stop)))) (.stop)))) (.stop)))))))) (.stop)) (.stop)) (.stop))) (.ev 10 (.ev 6 (.ev 14 (.ev 15 (.take 16 (.take 17 (.take 18 (.take 19 (.take 20 (.take 21 (.ev 22 (.take 23 (.take 24 (.ev 25 (.take 26 (.take 27 (.ev 28 (.done) (.stop)))) (.stop)))) (.stop)))))))) (.stop)) (.stop)) (.ev 14 (.ev 6 (.ev 15 (.take 16 (.take 17 (.take 18 (.take 19 (.take 20 (.take 21 (.ev 22 (.take 23 (.take 24 (.ev 25 (.take 26 (.take 27 (.ev 28 (.done) (.stop)))) (.stop)))) (.stop)))))))) (.stop)) (.stop)) (.stop))) (.ev 14 (.ev 6 (.ev 10 (.ev 15 (.take 16 (.take 17 (.take 18 (.take 19 (.take 20 (.take 21 (.ev 22 (.take 23 (.take 24 (.ev 25 (.take 26 (.take 27 (.ev 28 (.done) (.stop)))) (.stop)))) (.stop)))))))) (.stop)) (.stop)) (.ev 10 (.ev 6 (.ev 15 (.take 16 (.take 17 (.take 18 (.take 19 (.take 20 (.take 21 (.ev 22 (.take 23 (.take 24 (.ev 25 (.take 26 (.take 27 (.ev 28 (.done) (.stop)))) (.stop)))) (.stop)))))))) (.stop)) (.stop)) (.stop))) (.stop)))))))))))))))) (by kernel_rfl) (by kernel_rfl) (by kernel_rfl) ?_ (fun hHeld => ?_)
  · trivial
  repeat (first | (refine wpWay_take rfl (by rfl) (by intro w hSw; (try dsimp only at hSw); first | (go_simp; done) | (go_simp; with_reducible rfl)) ?_; try simp only [Act.put, List.setIfInBounds_toArray, List.set_cons_zero, List.set_cons_succ]) | (refine wpWay_skip rfl (by rfl) ?_; try simp only [Act.put, List.setIfInBounds_toArray, List.set_cons_zero, List.set_cons_succ]))
  refine wpWay_ev rfl (fun K hK => ?_) ?_
  · go_wp2_with fail
    refine ⟨trivial, ?_⟩
    repeat (first | (refine wpWay_take rfl (by rfl) (by intro w hSw; (try dsimp only at hSw); first | (go_simp; done) | (go_simp; with_reducible rfl)) ?_; try simp only [Act.put, List.setIfInBounds_toArray, List.set_cons_zero, List.set_cons_succ]) | (refine wpWay_skip rfl (by rfl) ?_; try simp only [Act.put, List.setIfInBounds_toArray, List.set_cons_zero, List.set_cons_succ]))
    refine wpWay_ev rfl (fun K hK => ?_) ?_
    · go_wp2_with fail
      refine ⟨trivial, ?_⟩
      repeat (first | (refine wpWay_take rfl (by rfl) (by intro w hSw; (try dsimp only at hSw); first | (go_simp; done) | (go_simp; with_reducible rfl)) ?_; try simp only [Act.put, List.setIfInBounds_toArray, List.set_cons_zero, List.set_cons_succ]) | (refine wpWay_skip rfl (by rfl) ?_; try simp only [Act.put, List.setIfInBounds_toArray, List.set_cons_zero, List.set_cons_succ]))
      refine wpWay_ev rfl (fun K hK => ?_) wpWay_stop
      go_wp2_with fail
      refine ⟨trivial, ?_⟩
      repeat (first | (refine wpWay_take rfl (by rfl) (by intro w hSw; (try dsimp only at hSw); first | (go_simp; done) | (go_simp; with_reducible rfl)) ?_; try simp only [Act.put, List.setIfInBounds_toArray, List.set_cons_zero, List.set_cons_succ]) | (refine wpWay_skip rfl (by rfl) ?_; try simp only [Act.put, List.setIfInBounds_toArray, List.set_cons_zero, List.set_cons_succ]))
      refine wpWay_ev rfl (fun K hK => ?_) wpWay_stop
      go_wp2_with fail
      refine (hturn_any _ _ rs us n _ (HQ.out.1.bl HB1.out.drew) (HU.out.1.bl HB1.out.drew) HUL.out HN.out HN'.out).mono ?_
      rintro e w2 ⟨u1, u2, rfl, hf1, hf2, hb⟩
      have HBk2 := Lib.hid ((HBk1.out.bl (Bl.refl _).drew).bl hb)
      have HB2 := Lib.hid ((HB1.out.drew).bl hb)
      obtain ⟨A1, d1, z1, _⟩ := id hf1.1
      obtain ⟨A2, d2, z2, _⟩ := id hf2.1
      subst z1
      subst z2
      generalize hn1 : (rs.take (rs.length - 1)).length = n1 at *
      generalize hn2 : ((us ++ [n]).drop (us.length + 1 - 4)).length = n2 at *
      have HF1 := Lib.hid hf1
      have HF2 := Lib.hid hf2
      clear hf1 hf2 hb hn1 hn2
      go_wp2_with fail
      refine ⟨trivial, ?_⟩
      repeat (first | (refine wpWay_take rfl (by rfl) (by intro w hSw; (try dsimp only at hSw); first | (go_simp; done) | (go_simp; with_reducible rfl)) ?_; try simp only [Act.put, List.setIfInBounds_toArray, List.set_cons_zero, List.set_cons_succ]) | (refine wpWay_skip rfl (by rfl) ?_; try simp only [Act.put, List.setIfInBounds_toArray, List.set_cons_zero, List.set_cons_succ]))
      refine wpWay_ev rfl (fun K hK => ?_) wpWay_stop
      have f1 := HBk2.out.frozen 2
      have g1 := HBk2.out.cell 2
      have l1 := HBk2.out.lt
      simp [histC] at g1
      go_wp2_with fail
      clear f1 g1 l1
      have HBk3 := Lib.hid (HBk2.out.set 2 (.slice A1 n1 d1))
      refine ⟨trivial, ?_⟩
      repeat (first | (refine wpWay_take rfl (by rfl) (by intro w hSw; (try dsimp only at hSw); first | (go_simp; done) | (go_simp; with_reducible rfl)) ?_; try simp only [Act.put, List.setIfInBounds_toArray, List.set_cons_zero, List.set_cons_succ]) | (refine wpWay_skip rfl (by rfl) ?_; try simp only [Act.put, List.setIfInBounds_toArray, List.set_cons_zero, List.set_cons_succ]))
      refine wpWay_ev rfl (fun K hK => ?_) wpWay_stop
      have f1 := HBk3.out.frozen 1
      have g1 := HBk3.out.cell 1
      have l1 := HBk3.out.lt
      simp [histC] at g1
      go_wp2_with fail
      clear f1 g1 l1
      have HBk4 := Lib.hid (HBk3.out.set 1 (.slice A2 n2 d2))
      refine ⟨trivial, ?_⟩
      repeat (first | (refine wpWay_take rfl (by rfl) (by intro w hSw; (try dsimp only at hSw); first | (go_simp; done) | (go_simp; with_reducible rfl)) ?_; try simp only [Act.put, List.setIfInBounds_toArray, List.set_cons_zero, List.set_cons_succ]) | (refine wpWay_skip rfl (by rfl) ?_; try simp only [Act.put, List.setIfInBounds_toArray, List.set_cons_zero, List.set_cons_succ]))
      refine wpWay_ev rfl (fun K hK => ?_) wpWay_stop
      have f1 := HBk4.out.frozen 0
      have g1 := HBk4.out.cell 0
      have l1 := HBk4.out.lt
      simp [histC] at g1
      go_wp2_with fail
      clear f1 g1 l1
      have HBk5 := Lib.hid (HBk4.out.set 0 (.pointer (some ⟨rs[rs.length - 1]'(by have := HUL.out; omega), 0, none⟩)))
      refine ⟨trivial, ?_⟩
      repeat (first | (refine wpWay_take rfl (by rfl) (by intro w hSw; (try dsimp only at hSw); first | (go_simp; done) | (go_simp; with_reducible rfl)) ?_; try simp only [Act.put, List.setIfInBounds_toArray, List.set_cons_zero, List.set_cons_succ]) | (refine wpWay_skip rfl (by rfl) ?_; try simp only [Act.put, List.setIfInBounds_toArray, List.set_cons_zero, List.set_cons_succ]))
      refine wpWay_done ?_
      go_wp2_with fail
      go_ret
      refine ⟨rfl, hist_done (u' := ⟨A2, n2, d2⟩) (r' := ⟨A1, n1, d1⟩) HB2.out HBk2.out (((keepO_set _ _ _ _).trans (keepO_set _ _ _ _)).trans (keepO_set _ _ _ _)) HBk5.out (grown_trans (grown_trans (set_grownB _ _ _ _) (set_grownB _ _ _ _)) (set_grownB _ _ _ _)) ?_ (HF2.out.low ?_) (HF1.out.low ?_) (((HSU.out.snoc HNow.out).bl HB2.out).drop' HULen.out) ((HSR.out.bl HB2.out).take' HRLen.out)⟩
      · exact (HSR.out.bl HB2.out).2 _ _ _ (by rw [HRLen.out]; exact List.getElem?_eq_getElem _) (List.getElem?_eq_getElem _)
      · have := HB1.out.size; simp; omega
      · have := HB1.out.size; simp; omega
    · refine wpWay_ev rfl (fun K hK => ?_) wpWay_stop
      go_wp2_with fail
      refine ⟨trivial, ?_⟩
      repeat (first | (refine wpWay_take rfl (by rfl) (by intro w hSw; (try dsimp only at hSw); first | (go_simp; done) | (go_simp; with_reducible rfl)) ?_; try simp only [Act.put, List.setIfInBounds_toArray, List.set_cons_zero, List.set_cons_succ]) | (refine wpWay_skip rfl (by rfl) ?_; try simp only [Act.put, List.setIfInBounds_toArray, List.set_cons_zero, List.set_cons_succ]))
      refine wpWay_ev rfl (fun K hK => ?_) wpWay_stop
      go_wp2_with fail
      refine ⟨trivial, ?_⟩
      repeat (first | (refine wpWay_take rfl (by rfl) (by intro w hSw; (try dsimp only at hSw); first | (go_simp; done) | (go_simp; with_reducible rfl)) ?_; try simp only [Act.put, List.setIfInBounds_toArray, List.set_cons_zero, List.set_cons_succ]) | (refine wpWay_skip rfl (by rfl) ?_; try simp only [Act.put, List.setIfInBounds_toArray, List.set_cons_zero, List.set_cons_succ]))
      refine wpWay_ev rfl (fun K hK => ?_) wpWay_stop
      go_wp2_with fail
      refine (hturn_any _ _ rs us n _ (HQ.out.1.bl HB1.out.drew) (HU.out.1.bl HB1.out.drew) HUL.out HN.out HN'.out).mono ?_
      rintro e w2 ⟨u1, u2, rfl, hf1, hf2, hb⟩
      have HBk2 := Lib.hid ((HBk1.out.bl (Bl.refl _).drew).bl hb)
      have HB2 := Lib.hid ((HB1.out.drew).bl hb)
      obtain ⟨A1, d1, z1, _⟩ := id hf1.1
      obtain ⟨A2, d2, z2, _⟩ := id hf2.1
      subst z1
      subst z2
      generalize hn1 : (rs.take (rs.length - 1)).length = n1 at *
      generalize hn2 : ((us ++ [n]).drop (us.length + 1 - 4)).length = n2 at *
      have HF1 := Lib.hid hf1
      have HF2 := Lib.hid hf2
      clear hf1 hf2 hb hn1 hn2
      go_wp2_with fail
      refine ⟨trivial, ?_⟩
      repeat (first | (refine wpWay_take rfl (by rfl) (by intro w hSw; (try dsimp only at hSw); first | (go_simp; done) | (go_simp; with_reducible rfl)) ?_; try simp only [Act.put, List.setIfInBounds_toArray, List.set_cons_zero, List.set_cons_succ]) | (refine wpWay_skip rfl (by rfl) ?_; try simp only [Act.put, List.setIfInBounds_toArray, List.set_cons_zero, List.set_cons_succ]))
      refine wpWay_ev rfl (fun K hK => ?_) wpWay_stop
      have f1 := HBk2.out.frozen 2
      have g1 := HBk2.out.cell 2
      have l1 := HBk2.out.lt
      simp [histC] at g1
      go_wp2_with fail
      clear f1 g1 l1
      have HBk3 := Lib.hid (HBk2.out.set 2 (.slice A1 n1 d1))
      refine ⟨trivial, ?_⟩
      repeat (first | (refine wpWay_take rfl (by rfl) (by intro w hSw; (try dsimp only at hSw); first | (go_simp; done) | (go_simp; with_reducible rfl)) ?_; try simp only [Act.put, List.setIfInBounds_toArray, List.set_cons_zero, List.set_cons_succ]) | (refine wpWay_skip rfl (by rfl) ?_; try simp only [Act.put, List.setIfInBounds_toArray, List.set_cons_zero, List.set_cons_succ]))
      refine wpWay_ev rfl (fun K hK => ?_) wpWay_stop
      have f1 := HBk3.out.frozen 1
      have g1 := HBk3.out.cell 1
      have l1 := HBk3.out.lt
      simp [histC] at g1
      go_wp2_with fail
      clear f1 g1 l1
      have HBk4 := Lib.hid (HBk3.out.set 1 (.slice A2 n2 d2))
      refine ⟨trivial, ?_⟩
      repeat (first | (refine wpWay_take rfl (by rfl) (by intro w hSw; (try dsimp only at hSw); first | (go_simp; done) | (go_simp; with_reducible rfl)) ?_; try simp only [Act.put, List.setIfInBounds_toArray, List.set_cons_zero, List.set_cons_succ]) | (refine wpWay_skip rfl (by rfl) ?_; try simp only [Act.put, List.setIfInBounds_toArray, List.set_cons_zero, List.set_cons_succ]))
      refine wpWay_ev rfl (fun K hK => ?_) wpWay_stop
      have f1 := HBk4.out.frozen 0
      have g1 := HBk4.out.cell 0
      have l1 := HBk4.out.lt
      simp [histC] at g1
      go_wp2_with fail
      clear f1 g1 l1
      have HBk5 := Lib.hid (HBk4.out.set 0 (.pointer (some ⟨rs[rs.length - 1]'(by have := HUL.out; omega), 0, none⟩)))
      refine ⟨trivial, ?_⟩
      repeat (first | (refine wpWay_take rfl (by rfl) (by intro w hSw; (try dsimp only at hSw); first | (go_simp; done) | (go_simp; with_reducible rfl)) ?_; try simp only [Act.put, List.setIfInBounds_toArray, List.set_cons_zero, List.set_cons_succ]) | (refine wpWay_skip rfl (by rfl) ?_; try simp only [Act.put, List.setIfInBounds_toArray, List.set_cons_zero, List.set_cons_succ]))
      refine wpWay_done ?_
      go_wp2_with fail
      go_ret
      refine ⟨rfl, hist_done (u' := ⟨A2, n2, d2⟩) (r' := ⟨A1, n1, d1⟩) HB2.out HBk2.out (((keepO_set _ _ _ _).trans (keepO_set _ _ _ _)).trans (keepO_set _ _ _ _)) HBk5.out (grown_trans (grown_trans (set_grownB _ _ _ _) (set_grownB _ _ _ _)) (set_grownB _ _ _ _)) ?_ (HF2.out.low ?_) (HF1.out.low ?_) (((HSU.out.snoc HNow.out).bl HB2.out).drop' HULen.out) ((HSR.out.bl HB2.out).take' HRLen.out)⟩
      · exact (HSR.out.bl HB2.out).2 _ _ _ (by rw [HRLen.out]; exact List.getElem?_eq_getElem _) (List.getElem?_eq_getElem _)
      · have := HB1.out.size; simp; omega
      · have := HB1.out.size; simp; omega
  · refine wpWay_ev rfl (fun K hK => ?_) ?_
    · go_wp2_with fail
      refine ⟨trivial, ?_⟩
      repeat (first | (refine wpWay_take rfl (by rfl) (by intro w hSw; (try dsimp only at hSw); first | (go_simp; done) | (go_simp; with_reducible rfl)) ?_; try simp only [Act.put, List.setIfInBounds_toArray, List.set_cons_zero, List.set_cons_succ]) | (refine wpWay_skip rfl (by rfl) ?_; try simp only [Act.put, List.setIfInBounds_toArray, List.set_cons_zero, List.set_cons_succ]))
      refine wpWay_ev rfl (fun K hK => ?_) ?_
      · go_wp2_with fail
        refine ⟨trivial, ?_⟩
        repeat (first | (refine wpWay_take rfl (by rfl) (by intro w hSw; (try dsimp only at hSw); first | (go_simp; done) | (go_simp; with_reducible rfl)) ?_; try simp only [Act.put, List.setIfInBounds_toArray, List.set_cons_zero, List.set_cons_succ]) | (refine wpWay_skip rfl (by rfl) ?_; try simp only [Act.put, List.setIfInBounds_toArray, List.set_cons_zero, List.set_cons_succ]))
        refine wpWay_ev rfl (fun K hK => ?_) wpWay_stop
        go_wp2_with fail
        refine ⟨trivial, ?_⟩
        repeat (first | (refine wpWay_take rfl (by rfl) (by intro w hSw; (try dsimp only at hSw); first | (go_simp; done) | (go_simp; with_reducible rfl)) ?_; try simp only [Act.put, List.setIfInBounds_toArray, List.set_cons_zero, List.set_cons_succ]) | (refine wpWay_skip rfl (by rfl) ?_; try simp only [Act.put, List.setIfInBounds_toArray, List.set_cons_zero, List.set_cons_succ]))
        refine wpWay_ev rfl (fun K hK => ?_) wpWay_stop
        go_wp2_with fail
        refine (hturn_any _ _ rs us n _ (HQ.out.1.bl HB1.out.drew) (HU.out.1.bl HB1.out.drew) HUL.out HN.out HN'.out).mono ?_
        rintro e w2 ⟨u1, u2, rfl, hf1, hf2, hb⟩
        have HBk2 := Lib.hid ((HBk1.out.bl (Bl.refl _).drew).bl hb)
        have HB2 := Lib.hid ((HB1.out.drew).bl hb)
        obtain ⟨A1, d1, z1, _⟩ := id hf1.1
        obtain ⟨A2, d2, z2, _⟩ := id hf2.1
        subst z1
        subst z2
        generalize hn1 : (rs.take (rs.length - 1)).length = n1 at *
        generalize hn2 : ((us ++ [n]).drop (us.length + 1 - 4)).length = n2 at *
        have HF1 := Lib.hid hf1
        have HF2 := Lib.hid hf2
        clear hf1 hf2 hb hn1 hn2
        go_wp2_with fail
        refine ⟨trivial, ?_⟩
        repeat (first | (refine wpWay_take rfl (by rfl) (by intro w hSw; (try dsimp only at hSw); first | (go_simp; done) | (go_simp; with_reducible rfl)) ?_; try simp only [Act.put, List.setIfInBounds_toArray, List.set_cons_zero, List.set_cons_succ]) | (refine wpWay_skip rfl (by rfl) ?_; try simp only [Act.put, List.setIfInBounds_toArray, List.set_cons_zero, List.set_cons_succ]))
        refine wpWay_ev rfl (fun K hK => ?_) wpWay_stop
        have f1 := HBk2.out.frozen 2
        have g1 := HBk2.out.cell 2
        have l1 := HBk2.out.lt
        simp [histC] at g1
        go_wp2_with fail
        clear f1 g1 l1
        have HBk3 := Lib.hid (HBk2.out.set 2 (.slice A1 n1 d1))
        refine ⟨trivial, ?_⟩
        repeat (first | (refine wpWay_take rfl (by rfl) (by intro w hSw; (try dsimp only at hSw); first | (go_simp; done) | (go_simp; with_reducible rfl)) ?_; try simp only [Act.put, List.setIfInBounds_toArray, List.set_cons_zero, List.set_cons_succ]) | (refine wpWay_skip rfl (by rfl) ?_; try simp only [Act.put, List.setIfInBounds_toArray, List.set_cons_zero, List.set_cons_succ]))
        refine wpWay_ev rfl (fun K hK => ?_) wpWay_stop
        have f1 := HBk3.out.frozen 1
        have g1 := HBk3.out.cell 1
        have l1 := HBk3.out.lt
        simp [histC] at g1
        go_wp2_with fail
        clear f1 g1 l1
        have HBk4 := Lib.hid (HBk3.out.set 1 (.slice A2 n2 d2))
        refine ⟨trivial, ?_⟩
        repeat (first | (refine wpWay_take rfl (by rfl) (by intro w hSw; (try dsimp only at hSw); first | (go_simp; done) | (go_simp; with_reducible rfl)) ?_; try simp only [Act.put, List.setIfInBounds_toArray, List.set_cons_zero, List.set_cons_succ]) | (refine wpWay_skip rfl (by rfl) ?_; try simp only [Act.put, List.setIfInBounds_toArray, List.set_cons_zero, List.set_cons_succ]))
        refine wpWay_ev rfl (fun K hK => ?_) wpWay_stop
        have f1 := HBk4.out.frozen 0
        have g1 := HBk4.out.cell 0
        have l1 := HBk4.out.lt
        simp [histC] at g1
        go_wp2_with fail
        clear f1 g1 l1
        have HBk5 := Lib.hid (HBk4.out.set 0 (.pointer (some ⟨rs[rs.length - 1]'(by have := HUL.out; omega), 0, none⟩)))
        refine ⟨trivial, ?_⟩
        repeat (first | (refine wpWay_take rfl (by rfl) (by intro w hSw; (try dsimp only at hSw); first | (go_simp; done) | (go_simp; with_reducible rfl)) ?_; try simp only [Act.put, List.setIfInBounds_toArray, List.set_cons_zero, List.set_cons_succ]) | (refine wpWay_skip rfl (by rfl) ?_; try simp only [Act.put, List.setIfInBounds_toArray, List.set_cons_zero, List.set_cons_succ]))
        refine wpWay_done ?_
        go_wp2_with fail
        go_ret
        refine ⟨rfl, hist_done (u' := ⟨A2, n2, d2⟩) (r' := ⟨A1, n1, d1⟩) HB2.out HBk2.out (((keepO_set _ _ _ _).trans (keepO_set _ _ _ _)).trans (keepO_set _ _ _ _)) HBk5.out (grown_trans (grown_trans (set_grownB _ _ _ _) (set_grownB _ _ _ _)) (set_grownB _ _ _ _)) ?_ (HF2.out.low ?_) (HF1.out.low ?_) (((HSU.out.snoc HNow.out).bl HB2.out).drop' HULen.out) ((HSR.out.bl HB2.out).take' HRLen.out)⟩
        · exact (HSR.out.bl HB2.out).2 _ _ _ (by rw [HRLen.out]; exact List.getElem?_eq_getElem _) (List.getElem?_eq_getElem _)
        · have := HB1.out.size; simp; omega
        · have := HB1.out.size; simp; omega
      · refine wpWay_ev rfl (fun K hK => ?_) wpWay_stop
        go_wp2_with fail
        refine ⟨trivial, ?_⟩
        repeat (first | (refine wpWay_take rfl (by rfl) (by intro w hSw; (try dsimp only at hSw); first | (go_simp; done) | (go_simp; with_reducible rfl)) ?_; try simp only [Act.put, List.setIfInBounds_toArray, List.set_cons_zero, List.set_cons_succ]) | (refine wpWay_skip rfl (by rfl) ?_; try simp only [Act.put, List.setIfInBounds_toArray, List.set_cons_zero, List.set_cons_succ]))
        refine wpWay_ev rfl (fun K hK => ?_) wpWay_stop
        go_wp2_with fail
        refine ⟨trivial, ?_⟩
        repeat (first | (refine wpWay_take rfl (by rfl) (by intro w hSw; (try dsimp only at hSw); first | (go_simp; done) | (go_simp; with_reducible rfl)) ?_; try simp only [Act.put, List.setIfInBounds_toArray, List.set_cons_zero, List.set_cons_succ]) | (refine wpWay_skip rfl (by rfl) ?_; try simp only [Act.put, List.setIfInBounds_toArray, List.set_cons_zero, List.set_cons_succ]))
        refine wpWay_ev rfl (fun K hK => ?_) wpWay_stop
        go_wp2_with fail
        refine (hturn_any _ _ rs us n _ (HQ.out.1.bl HB1.out.drew) (HU.out.1.bl HB1.out.drew) HUL.out HN.out HN'.out).mono ?_
        rintro e w2 ⟨u1, u2, rfl, hf1, hf2, hb⟩
        have HBk2 := Lib.hid ((HBk1.out.bl (Bl.refl _).drew).bl hb)
        have HB2 := Lib.hid ((HB1.out.drew).bl hb)
        obtain ⟨A1, d1, z1, _⟩ := id hf1.1
        obtain ⟨A2, d2, z2, _⟩ := id hf2.1
        subst z1
        subst z2
        generalize hn1 : (rs.take (rs.length - 1)).length = n1 at *
        generalize hn2 : ((us ++ [n]).drop (us.length + 1 - 4)).length = n2 at *
        have HF1 := Lib.hid hf1
        have HF2 := Lib.hid hf2
        clear hf1 hf2 hb hn1 hn2
        go_wp2_with fail
        refine ⟨trivial, ?_⟩
        repeat (first | (refine wpWay_take rfl (by rfl) (by intro w hSw; (try dsimp only at hSw); first | (go_simp; done) | (go_simp; with_reducible rfl)) ?_; try simp only [Act.put, List.setIfInBounds_toArray, List.set_cons_zero, List.set_cons_succ]) | (refine wpWay_skip rfl (by rfl) ?_; try simp only [Act.put, List.setIfInBounds_toArray, List.set_cons_zero, List.set_cons_succ]))
        refine wpWay_ev rfl (fun K hK => ?_) wpWay_stop
        have f1 := HBk2.out.frozen 2
        have g1 := HBk2.out.cell 2
        have l1 := HBk2.out.lt
        simp [histC] at g1
        go_wp2_with fail
        clear f1 g1 l1
        have HBk3 := Lib.hid (HBk2.out.set 2 (.slice A1 n1 d1))
        refine ⟨trivial, ?_⟩
        repeat (first | (refine wpWay_take rfl (by rfl) (by intro w hSw; (try dsimp only at hSw); first | (go_simp; done) | (go_simp; with_reducible rfl)) ?_; try simp only [Act.put, List.setIfInBounds_toArray, List.set_cons_zero, List.set_cons_succ]) | (refine wpWay_skip rfl (by rfl) ?_; try simp only [Act.put, List.setIfInBounds_toArray, List.set_cons_zero, List.set_cons_succ]))
        refine wpWay_ev rfl (fun K hK => ?_) wpWay_stop
        have f1 := HBk3.out.frozen 1
        have g1 := HBk3.out.cell 1
        have l1 := HBk3.out.lt
        simp [histC] at g1
        go_wp2_with fail
        clear f1 g1 l1
        have HBk4 := Lib.hid (HBk3.out.set 1 (.slice A2 n2 d2))
        refine ⟨trivial, ?_⟩
        repeat (first | (refine wpWay_take rfl (by rfl) (by intro w hSw; (try dsimp only at hSw); first | (go_simp; done) | (go_simp; with_reducible rfl)) ?_; try simp only [Act.put, List.setIfInBounds_toArray, List.set_cons_zero, List.set_cons_succ]) | (refine wpWay_skip rfl (by rfl) ?_; try simp only [Act.put, List.setIfInBounds_toArray, List.set_cons_zero, List.set_cons_succ]))
        refine wpWay_ev rfl (fun K hK => ?_) wpWay_stop
        have f1 := HBk4.out.frozen 0
        have g1 := HBk4.out.cell 0
        have l1 := HBk4.out.lt
        simp [histC] at g1
        go_wp2_with fail
        clear f1 g1 l1
        have HBk5 := Lib.hid (HBk4.out.set 0 (.pointer (some ⟨rs[rs.length - 1]'(by have := HUL.out; omega), 0, none⟩)))
        refine ⟨trivial, ?_⟩
        repeat (first | (refine wpWay_take rfl (by rfl) (by intro w hSw; (try dsimp only at hSw); first | (go_simp; done) | (go_simp; with_reducible rfl)) ?_; try simp only [Act.put, List.setIfInBounds_toArray, List.set_cons_zero, List.set_cons_succ]) | (refine wpWay_skip rfl (by rfl) ?_; try simp only [Act.put, List.setIfInBounds_toArray, List.set_cons_zero, List.set_cons_succ]))
        refine wpWay_done ?_
        go_wp2_with fail
        go_ret
        refine ⟨rfl, hist_done (u' := ⟨A2, n2, d2⟩) (r' := ⟨A1, n1, d1⟩) HB2.out HBk2.out (((keepO_set _ _ _ _).trans (keepO_set _ _ _ _)).trans (keepO_set _ _ _ _)) HBk5.out (grown_trans (grown_trans (set_grownB _ _ _ _) (set_grownB _ _ _ _)) (set_grownB _ _ _ _)) ?_ (HF2.out.low ?_) (HF1.out.low ?_) (((HSU.out.snoc HNow.out).bl HB2.out).drop' HULen.out) ((HSR.out.bl HB2.out).take' HRLen.out)⟩
        · exact (HSR.out.bl HB2.out).2 _ _ _ (by rw [HRLen.out]; exact List.getElem?_eq_getElem _) (List.getElem?_eq_getElem _)
        · have := HB1.out.size; simp; omega
        · have := HB1.out.size; simp; omega
    · refine wpWay_ev rfl (fun K hK => ?_) wpWay_stop
      go_wp2_with fail
      refine ⟨trivial, ?_⟩
      repeat (first | (refine wpWay_take rfl (by rfl) (by intro w hSw; (try dsimp only at hSw); first | (go_simp; done) | (go_simp; with_reducible rfl)) ?_; try simp only [Act.put, List.setIfInBounds_toArray, List.set_cons_zero, List.set_cons_succ]) | (refine wpWay_skip rfl (by rfl) ?_; try simp only [Act.put, List.setIfInBounds_toArray, List.set_cons_zero, List.set_cons_succ]))
      refine wpWay_ev rfl (fun K hK => ?_) ?_
      · go_wp2_with fail
        refine ⟨trivial, ?_⟩
        repeat (first | (refine wpWay_take rfl (by rfl) (by intro w hSw; (try dsimp only at hSw); first | (go_simp; done) | (go_simp; with_reducible rfl)) ?_; try simp only [Act.put, List.setIfInBounds_toArray, List.set_cons_zero, List.set_cons_succ]) | (refine wpWay_skip rfl (by rfl) ?_; try simp only [Act.put, List.setIfInBounds_toArray, List.set_cons_zero, List.set_cons_succ]))
        refine wpWay_ev rfl (fun K hK => ?_) wpWay_stop
        go_wp2_with fail
        refine ⟨trivial, ?_⟩
        repeat (first | (refine wpWay_take rfl (by rfl) (by intro w hSw; (try dsimp only at hSw); first | (go_simp; done) | (go_simp; with_reducible rfl)) ?_; try simp only [Act.put, List.setIfInBounds_toArray, List.set_cons_zero, List.set_cons_succ]) | (refine wpWay_skip rfl (by rfl) ?_; try simp only [Act.put, List.setIfInBounds_toArray, List.set_cons_zero, List.set_cons_succ]))
        refine wpWay_ev rfl (fun K hK => ?_) wpWay_stop
        go_wp2_with fail
        refine (hturn_any _ _ rs us n _ (HQ.out.1.bl HB1.out.drew) (HU.out.1.bl HB1.out.drew) HUL.out HN.out HN'.out).mono ?_
        rintro e w2 ⟨u1, u2, rfl, hf1, hf2, hb⟩
        have HBk2 := Lib.hid ((HBk1.out.bl (Bl.refl _).drew).bl hb)
        have HB2 := Lib.hid ((HB1.out.drew).bl hb)
        obtain ⟨A1, d1, z1, _⟩ := id hf1.1
        obtain ⟨A2, d2, z2, _⟩ := id hf2.1
        subst z1
        subst z2
        generalize hn1 : (rs.take (rs.length - 1)).length = n1 at *
        generalize hn2 : ((us ++ [n]).drop (us.length + 1 - 4)).length = n2 at *
        have HF1 := Lib.hid hf1
        have HF2 := Lib.hid hf2
        clear hf1 hf2 hb hn1 hn2
        go_wp2_with fail
        refine ⟨trivial, ?_⟩
        repeat (first | (refine wpWay_take rfl (by rfl) (by intro w hSw; (try dsimp only at hSw); first | (go_simp; done) | (go_simp; with_reducible rfl)) ?_; try simp only [Act.put, List.setIfInBounds_toArray, List.set_cons_zero, List.set_cons_succ]) | (refine wpWay_skip rfl (by rfl) ?_; try simp only [Act.put, List.setIfInBounds_toArray, List.set_cons_zero, List.set_cons_succ]))
        refine wpWay_ev rfl (fun K hK => ?_) wpWay_stop
        have f1 := HBk2.out.frozen 2
        have g1 := HBk2.out.cell 2
        have l1 := HBk2.out.lt
        simp [histC] at g1
        go_wp2_with fail
        clear f1 g1 l1
        have HBk3 := Lib.hid (HBk2.out.set 2 (.slice A1 n1 d1))
        refine ⟨trivial, ?_⟩
        repeat (first | (refine wpWay_take rfl (by rfl) (by intro w hSw; (try dsimp only at hSw); first | (go_simp; done) | (go_simp; with_reducible rfl)) ?_; try simp only [Act.put, List.setIfInBounds_toArray, List.set_cons_zero, List.set_cons_succ]) | (refine wpWay_skip rfl (by rfl) ?_; try simp only [Act.put, List.setIfInBounds_toArray, List.set_cons_zero, List.set_cons_succ]))
        refine wpWay_ev rfl (fun K hK => ?_) wpWay_stop
        have f1 := HBk3.out.frozen 1
        have g1 := HBk3.out.cell 1
        have l1 := HBk3.out.lt
        simp [histC] at g1
        go_wp2_with fail
        clear f1 g1 l1
        have HBk4 := Lib.hid (HBk3.out.set 1 (.slice A2 n2 d2))
        refine ⟨trivial, ?_⟩
        repeat (first | (refine wpWay_take rfl (by rfl) (by intro w hSw; (try dsimp only at hSw); first | (go_simp; done) | (go_simp; with_reducible rfl)) ?_; try simp only [Act.put, List.setIfInBounds_toArray, List.set_cons_zero, List.set_cons_succ]) | (refine wpWay_skip rfl (by rfl) ?_; try simp only [Act.put, List.setIfInBounds_toArray, List.set_cons_zero, List.set_cons_succ]))
        refine wpWay_ev rfl (fun K hK => ?_) wpWay_stop
        have f1 := HBk4.out.frozen 0
        have g1 := HBk4.out.cell 0
        have l1 := HBk4.out.lt
        simp [histC] at g1
        go_wp2_with fail
        clear f1 g1 l1
        have HBk5 := Lib.hid (HBk4.out.set 0 (.pointer (some ⟨rs[rs.length - 1]'(by have := HUL.out; omega), 0, none⟩)))
        refine ⟨trivial, ?_⟩
        repeat (first | (refine wpWay_take rfl (by rfl) (by intro w hSw; (try dsimp only at hSw); first | (go_simp; done) | (go_simp; with_reducible rfl)) ?_; try simp only [Act.put, List.setIfInBounds_toArray, List.set_cons_zero, List.set_cons_succ]) | (refine wpWay_skip rfl (by rfl) ?_; try simp only [Act.put, List.setIfInBounds_toArray, List.set_cons_zero, List.set_cons_succ]))
        refine wpWay_done ?_
        go_wp2_with fail
        go_ret
        refine ⟨rfl, hist_done (u' := ⟨A2, n2, d2⟩) (r' := ⟨A1, n1, d1⟩) HB2.out HBk2.out (((keepO_set _ _ _ _).trans (keepO_set _ _ _ _)).trans (keepO_set _ _ _ _)) HBk5.out (grown_trans (grown_trans (set_grownB _ _ _ _) (set_grownB _ _ _ _)) (set_grownB _ _ _ _)) ?_ (HF2.out.low ?_) (HF1.out.low ?_) (((HSU.out.snoc HNow.out).bl HB2.out).drop' HULen.out) ((HSR.out.bl HB2.out).take' HRLen.out)⟩
        · exact (HSR.out.bl HB2.out).2 _ _ _ (by rw [HRLen.out]; exact List.getElem?_eq_getElem _) (List.getElem?_eq_getElem _)
        · have := HB1.out.size; simp; omega
        · have := HB1.out.size; simp; omega
      · refine wpWay_ev rfl (fun K hK => ?_) wpWay_stop
        go_wp2_with fail
        refine ⟨trivial, ?_⟩
        repeat (first | (refine wpWay_take rfl (by rfl) (by intro w hSw; (try dsimp only at hSw); first | (go_simp; done) | (go_simp; with_reducible rfl)) ?_; try simp only [Act.put, List.setIfInBounds_toArray, List.set_cons_zero, List.set_cons_succ]) | (refine wpWay_skip rfl (by rfl) ?_; try simp only [Act.put, List.setIfInBounds_toArray, List.set_cons_zero, List.set_cons_succ]))
        refine wpWay_ev rfl (fun K hK => ?_) wpWay_stop
        go_wp2_with fail
        refine ⟨trivial, ?_⟩
        repeat (first | (refine wpWay_take rfl (by rfl) (by intro w hSw; (try dsimp only at hSw); first | (go_simp; done) | (go_simp; with_reducible rfl)) ?_; try simp only [Act.put, List.setIfInBounds_toArray, List.set_cons_zero, List.set_cons_succ]) | (refine wpWay_skip rfl (by rfl) ?_; try simp only [Act.put, List.setIfInBounds_toArray, List.set_cons_zero, List.set_cons_succ]))
        refine wpWay_ev rfl (fun K hK => ?_) wpWay_stop
        go_wp2_with fail
        refine (hturn_any _ _ rs us n _ (HQ.out.1.bl HB1.out.drew) (HU.out.1.bl HB1.out.drew) HUL.out HN.out HN'.out).mono ?_
        rintro e w2 ⟨u1, u2, rfl, hf1, hf2, hb⟩
        have HBk2 := Lib.hid ((HBk1.out.bl (Bl.refl _).drew).bl hb)
        have HB2 := Lib.hid ((HB1.out.drew).bl hb)
        obtain ⟨A1, d1, z1, _⟩ := id hf1.1
        obtain ⟨A2, d2, z2, _⟩ := id hf2.1
        subst z1
        subst z2
        generalize hn1 : (rs.take (rs.length - 1)).length = n1 at *
        generalize hn2 : ((us ++ [n]).drop (us.length + 1 - 4)).length = n2 at *
        have HF1 := Lib.hid hf1
        have HF2 := Lib.hid hf2
        clear hf1 hf2 hb hn1 hn2
        go_wp2_with fail
        refine ⟨trivial, ?_⟩
        repeat (first | (refine wpWay_take rfl (by rfl) (by intro w hSw; (try dsimp only at hSw); first | (go_simp; done) | (go_simp; with_reducible rfl)) ?_; try simp only [Act.put, List.setIfInBounds_toArray, List.set_cons_zero, List.set_cons_succ]) | (refine wpWay_skip rfl (by rfl) ?_; try simp only [Act.put, List.setIfInBounds_toArray, List.set_cons_zero, List.set_cons_succ]))
        refine wpWay_ev rfl (fun K hK => ?_) wpWay_stop
        have f1 := HBk2.out.frozen 2
        have g1 := HBk2.out.cell 2
        have l1 := HBk2.out.lt
        simp [histC] at g1
        go_wp2_with fail
        clear f1 g1 l1
        have HBk3 := Lib.hid (HBk2.out.set 2 (.slice A1 n1 d1))
        refine ⟨trivial, ?_⟩
        repeat (first | (refine wpWay_take rfl (by rfl) (by intro w hSw; (try dsimp only at hSw); first | (go_simp; done) | (go_simp; with_reducible rfl)) ?_; try simp only [Act.put, List.setIfInBounds_toArray, List.set_cons_zero, List.set_cons_succ]) | (refine wpWay_skip rfl (by rfl) ?_; try simp only [Act.put, List.setIfInBounds_toArray, List.set_cons_zero, List.set_cons_succ]))
        refine wpWay_ev rfl (fun K hK => ?_) wpWay_stop
        have f1 := HBk3.out.frozen 1
        have g1 := HBk3.out.cell 1
        have l1 := HBk3.out.lt
        simp [histC] at g1
        go_wp2_with fail
        clear f1 g1 l1
        have HBk4 := Lib.hid (HBk3.out.set 1 (.slice A2 n2 d2))
        refine ⟨trivial, ?_⟩
        repeat (first | (refine wpWay_take rfl (by rfl) (by intro w hSw; (try dsimp only at hSw); first | (go_simp; done) | (go_simp; with_reducible rfl)) ?_; try simp only [Act.put, List.setIfInBounds_toArray, List.set_cons_zero, List.set_cons_succ]) | (refine wpWay_skip rfl (by rfl) ?_; try simp only [Act.put, List.setIfInBounds_toArray, List.set_cons_zero, List.set_cons_succ]))
        refine wpWay_ev rfl (fun K hK => ?_) wpWay_stop
        have f1 := HBk4.out.frozen 0
        have g1 := HBk4.out.cell 0
        have l1 := HBk4.out.lt
        simp [histC] at g1
        go_wp2_with fail
        clear f1 g1 l1
        have HBk5 := Lib.hid (HBk4.out.set 0 (.pointer (some ⟨rs[rs.length - 1]'(by have := HUL.out; omega), 0, none⟩)))
        refine ⟨trivial, ?_⟩
        repeat (first | (refine wpWay_take rfl (by rfl) (by intro w hSw; (try dsimp only at hSw); first | (go_simp; done) | (go_simp; with_reducible rfl)) ?_; try simp only [Act.put, List.setIfInBounds_toArray, List.set_cons_zero, List.set_cons_succ]) | (refine wpWay_skip rfl (by rfl) ?_; try simp only [Act.put, List.setIfInBounds_toArray, List.set_cons_zero, List.set_cons_succ]))
        refine wpWay_done ?_
        go_wp2_with fail
        go_ret
        refine ⟨rfl, hist_done (u' := ⟨A2, n2, d2⟩) (r' := ⟨A1, n1, d1⟩) HB2.out HBk2.out (((keepO_set _ _ _ _).trans (keepO_set _ _ _ _)).trans (keepO_set _ _ _ _)) HBk5.out (grown_trans (grown_trans (set_grownB _ _ _ _) (set_grownB _ _ _ _)) (set_grownB _ _ _ _)) ?_ (HF2.out.low ?_) (HF1.out.low ?_) (((HSU.out.snoc HNow.out).bl HB2.out).drop' HULen.out) ((HSR.out.bl HB2.out).take' HRLen.out)⟩
        · exact (HSR.out.bl HB2.out).2 _ _ _ (by rw [HRLen.out]; exact List.getElem?_eq_getElem _) (List.getElem?_eq_getElem _)
        · have := HB1.out.size; simp; omega
        · have := HB1.out.size; simp; omega
end Go.Proofs.YtddcjekkimajpaaGreat.ExtW

/- history.Apply: a change of what is now. -/
namespace Go.Ov
def stepH (m : HistM) (s : StM) : HistM := ⟨s, (m.undo ++ [m.now]).drop (m.undo.length + 1 - 4), []⟩
end Go.Ov
namespace Go.Proofs.YtddcjekkimajpaaGreat.ExtW
open Go.RowKit Go.Ov Go.Proofs.YtddcjekkimajpaaGreat.Need

set_option maxRecDepth 100000 in
set_option maxHeartbeats 1500000 in
theorem happly_change (B : Nat) (m : HistM) (rv : Value) (r : Rec) (w : World) (h : HistIs 59 w B m) (hr : RecIs w rv r) (hk : r.kind ≤ 3) (hv : validRec r = true) (hs : StOK m.now) (hn : m.undo.length ≤ 4) :
    Calls Tryz.prog 21 #[.pointer (some ⟨B, 0, none⟩), rv] w fun e w' => e = .returned (.int .i64 (applyR m.now r).2) ∧ ((applyR m.now r).2 ≠ 0 → Bl w w') ∧ ((applyR m.now r).2 = 0 → HistIs 59 w' B (stepH m (applyR m.now r).1) ∧ w.grownBy w' (some B)) := by
  have HR := Lib.hid hr
  have HV := Lib.hid hv
  have HOK := Lib.hid hs
  obtain ⟨n, u, q, us, rs, h0, h1, h2, h3, h4, h5⟩ := h
  obtain ⟨u2, rfl, hl⟩ := hr
  obtain ⟨A, c, rfl, _⟩ := hl
  have HBk := Lib.hid h0
  have hul := h4.1
  have HN := Lib.hid (show us.length ≤ 4 by omega)
  obtain ⟨kk, t, f, o, l⟩ := r
  dsimp only at hk HV
  have e4 : (kk == 4) = false := by rw [beq_eq_false_iff_ne]; omega
  have e5 : (kk == 5) = false := by rw [beq_eq_false_iff_ne]; omega
  obtain ⟨uA, un, uc⟩ := u
  obtain ⟨hU, _, hU1⟩ := id h2.1
  simp only [Head.v] at hU1 h2
  have hun : un = us.length := by simp at hU1; exact hU1.1.2.1
  subst hun
  have hB := h0.lt
  have HU := Lib.hid h2
  have HNow := Lib.hid h1
  have HSU := Lib.hid h4
  have HULen := Lib.hid hul
  clear h1 h2 h3 h4 h5 h0 hv hn hul hU1 hk hs
  have hur := Tryz.underlying46
  have huh := Tryz.underlying59
  go_enter Tryz.func21, Tryz.ntmps21
  go_wp2_with fail
  refine (rvalidRec_any _ _ _ (HR.out.bl ((Bl.refl _).alloc _))).mono ?_
  rintro e w1 ⟨rfl, hb⟩
  rw [HV.out]
  have b1 := (Blk.new w #[.int .i64 kk, .int .i64 t, .int .i64 f, .int .i64 o, .slice A l.length c] 46).bl hb
  have HRB := Lib.hid b1
  have d0 := b1.cell 0
  have d1 := b1.cell 1
  have d2 := b1.cell 2
  have d3 := b1.cell 3
  have d4 := b1.cell 4
  simp at d0 d1 d2 d3 d4
  have HB1 := Lib.hid (((Bl.refl w).alloc (.cells #[.int .i64 kk, .int .i64 t, .int .i64 f, .int .i64 o, .slice A l.length c] 46)).bl hb)
  have HBk1 := Lib.hid (HBk.out.bl HB1.out)
  have c0 := HBk1.out.cell 0
  simp [histC, Head.v] at c0
  clear hb b1
  go_wp2_with fail
  refine wp_region_ways (S := (fun w' => w'.cell? ⟨B, 0, none⟩ = some (.pointer (some ⟨n, 0, none⟩)) ∧ w'.cell? ⟨w.heap.size, 0, none⟩ = some (.int .i64 kk) ∧ w'.cell? ⟨w.heap.size, 1, none⟩ = some (.int .i64 t) ∧ w'.cell? ⟨w.heap.size, 2, none⟩ = some (.int .i64 f) ∧ w'.cell? ⟨w.heap.size, 3, none⟩ = some (.int .i64 o) ∧ w'.cell? ⟨w.heap.size, 4, none⟩ = some (.slice A l.length c))) [0, 1, 2, 3, 4, 6, 7, 8, 9, 10] (y := .take 0 (.take 1 (.take 2 (.take 3 (.take 4 (.ev 5 (.take 6 (.take 7 (.take 8 (.take 9 (.take 10 (.done)))))) (.stop))))))) (by kernel_rfl) (by kernel_rfl) (by kernel_rfl) ?_ (fun hHeld => ?_)
  · have hb := (Bl.refl w1).drew
    exact ⟨hb.cell c0, hb.cell d0, hb.cell d1, hb.cell d2, hb.cell d3, hb.cell d4⟩
  have HH := Lib.hid hHeld
  repeat (first | (refine wpWay_take rfl (by rfl) (by intro w hSw; (try dsimp only at hSw); first | (go_simp; done) | (go_simp; with_reducible rfl)) ?_; try simp only [Act.put, List.setIfInBounds_toArray, List.set_cons_zero, List.set_cons_succ]) | (refine wpWay_skip rfl (by rfl) ?_; try simp only [Act.put, List.setIfInBounds_toArray, List.set_cons_zero, List.set_cons_succ]))
  clear hHeld d0 d1 d2 d3 d4
  refine wpWay_ev rfl (fun K hK => ?_) wpWay_stop
  go_wp2_with fail
  refine (sapply_any _ _ m.now ⟨kk, t, f, o, l⟩ _ (HNow.out.bl HB1.out.drew) (HR.out.bl HB1.out.drew) HOK.out).mono ?_
  rintro e w3 ⟨hres, hb⟩
  have HB3 := Lib.hid ((HB1.out.drew).bl hb)
  have HBk3 := Lib.hid (HBk.out.bl HB3.out)
  have hh := HH.out
  replace HH := Lib.hid (show _ ∧ _ ∧ _ ∧ _ ∧ _ ∧ _ from ⟨hb.cell hh.1, hb.cell hh.2.1, hb.cell hh.2.2.1, hb.cell hh.2.2.2.1, hb.cell hh.2.2.2.2.1, hb.cell hh.2.2.2.2.2⟩)
  clear hb hh c0
  by_cases hz : (applyR m.now ⟨kk, t, f, o, l⟩).2 = 0
  · obtain ⟨u3, rfl, hst⟩ := hres.1 hz
    obtain ⟨bT, _, _, rfl, _⟩ := id hst
    have HST := Lib.hid hst
    have HZ := Lib.hid hz
    clear hres hst hz
    go_wp2_with fail
    refine ⟨HH.out, ?_⟩
    repeat (first | (refine wpWay_take rfl (by rfl) (by intro w hSw; (try dsimp only at hSw); first | (go_simp; done) | (go_simp; with_reducible rfl)) ?_; try simp only [Act.put, List.setIfInBounds_toArray, List.set_cons_zero, List.set_cons_succ]) | (refine wpWay_skip rfl (by rfl) ?_; try simp only [Act.put, List.setIfInBounds_toArray, List.set_cons_zero, List.set_cons_succ]))
    refine wpWay_done ?_
    have c0 := HBk3.out.cell 0
    have c1 := HBk3.out.cell 1
    simp [histC, Head.v] at c0 c1
    go_wp2_with fail
    refine wp_region_ways (S := (fun _ => True)) [0, 1, 2, 3, 4, 5, 7, 8, 9, 12, 13, 14, 16, 17, 19, 20] (y := .take 0 (.take 1 (.take 2 (.take 3 (.take 4 (.take 5 (.take 7 (.take 8 (.take 9 (.take 12 (.ev 6 (.ev 10 (.ev 11 (.take 13 (.take 14 (.ev 15 (.take 16 (.take 17 (.ev 18 (.take 19 (.take 20 (.ev 21 (.done) (.stop)))) (.stop)))) (.stop)))) (.stop)) (.stop)) (.ev 10 (.ev 6 (.ev 11 (.take 13 (.take 14 (.ev 15 (.take 16 (.take 17 (.ev 18 (.take 19 (.take 20 (.ev 21 (.done) (.stop)))) (.stop)))) (.stop)))) (.stop)) (.stop)) (.stop))))))))))))) (by kernel_rfl) (by kernel_rfl) (by kernel_rfl) ?_ (fun hHeld => ?_)
    · trivial
    repeat (first | (refine wpWay_take rfl (by rfl) (by intro w hSw; (try dsimp only at hSw); first | (go_simp; done) | (go_simp; with_reducible rfl)) ?_; try simp only [Act.put, List.setIfInBounds_toArray, List.set_cons_zero, List.set_cons_succ]) | (refine wpWay_skip rfl (by rfl) ?_; try simp only [Act.put, List.setIfInBounds_toArray, List.set_cons_zero, List.set_cons_succ]))
    refine wpWay_ev rfl (fun K hK => ?_) ?_
    · go_wp2_with fail
      refine ⟨trivial, ?_⟩
      repeat (first | (refine wpWay_take rfl (by rfl) (by intro w hSw; (try dsimp only at hSw); first | (go_simp; done) | (go_simp; with_reducible rfl)) ?_; try simp only [Act.put, List.setIfInBounds_toArray, List.set_cons_zero, List.set_cons_succ]) | (refine wpWay_skip rfl (by rfl) ?_; try simp only [Act.put, List.setIfInBounds_toArray, List.set_cons_zero, List.set_cons_succ]))
      refine wpWay_ev rfl (fun K hK => ?_) wpWay_stop
      go_wp2_with fail
      refine ⟨trivial, ?_⟩
      repeat (first | (refine wpWay_take rfl (by rfl) (by intro w hSw; (try dsimp only at hSw); first | (go_simp; done) | (go_simp; with_reducible rfl)) ?_; try simp only [Act.put, List.setIfInBounds_toArray, List.set_cons_zero, List.set_cons_succ]) | (refine wpWay_skip rfl (by rfl) ?_; try simp only [Act.put, List.setIfInBounds_toArray, List.set_cons_zero, List.set_cons_succ]))
      refine wpWay_ev rfl (fun K hK => ?_) wpWay_stop
      go_wp2_with fail
      refine (hpush_any _ us n _ (HU.out.1.bl HB3.out.drew) HN.out).mono ?_
      rintro e w4 ⟨u1, rfl, hf1, hb⟩
      have HBk4 := Lib.hid ((HBk3.out.bl (Bl.refl _).drew).bl hb)
      have HB4 := Lib.hid ((HB3.out.drew).bl hb)
      have HST4 := Lib.hid ((HST.out.bl (Bl.refl _).drew).bl hb)
      obtain ⟨A1, d1, z1, _⟩ := id hf1.1
      subst z1
      generalize hn1 : ((us ++ [n]).drop (us.length + 1 - 4)).length = n1 at *
      have HF1 := Lib.hid hf1
      clear hf1 hb hn1
      go_wp2_with fail
      refine ⟨trivial, ?_⟩
      repeat (first | (refine wpWay_take rfl (by rfl) (by intro w hSw; (try dsimp only at hSw); first | (go_simp; done) | (go_simp; with_reducible rfl)) ?_; try simp only [Act.put, List.setIfInBounds_toArray, List.set_cons_zero, List.set_cons_succ]) | (refine wpWay_skip rfl (by rfl) ?_; try simp only [Act.put, List.setIfInBounds_toArray, List.set_cons_zero, List.set_cons_succ]))
      refine wpWay_ev rfl (fun K hK => ?_) wpWay_stop
      have f1 := HBk4.out.frozen 1
      have g1 := HBk4.out.cell 1
      have l1 := HBk4.out.lt
      simp [histC] at g1
      go_wp2_with fail
      clear f1 g1 l1
      have HBk5 := Lib.hid (HBk4.out.set 1 (.slice A1 n1 d1))
      refine ⟨trivial, ?_⟩
      repeat (first | (refine wpWay_take rfl (by rfl) (by intro w hSw; (try dsimp only at hSw); first | (go_simp; done) | (go_simp; with_reducible rfl)) ?_; try simp only [Act.put, List.setIfInBounds_toArray, List.set_cons_zero, List.set_cons_succ]) | (refine wpWay_skip rfl (by rfl) ?_; try simp only [Act.put, List.setIfInBounds_toArray, List.set_cons_zero, List.set_cons_succ]))
      refine wpWay_ev rfl (fun K hK => ?_) wpWay_stop
      have f1 := HBk5.out.frozen 2
      have g1 := HBk5.out.cell 2
      have l1 := HBk5.out.lt
      simp [histC] at g1
      go_wp2_with fail
      clear f1 g1 l1
      have HBk6 := Lib.hid (HBk5.out.set 2 (.slice none 0 0))
      refine ⟨trivial, ?_⟩
      repeat (first | (refine wpWay_take rfl (by rfl) (by intro w hSw; (try dsimp only at hSw); first | (go_simp; done) | (go_simp; with_reducible rfl)) ?_; try simp only [Act.put, List.setIfInBounds_toArray, List.set_cons_zero, List.set_cons_succ]) | (refine wpWay_skip rfl (by rfl) ?_; try simp only [Act.put, List.setIfInBounds_toArray, List.set_cons_zero, List.set_cons_succ]))
      refine wpWay_ev rfl (fun K hK => ?_) wpWay_stop
      have f1 := HBk6.out.frozen 0
      have g1 := HBk6.out.cell 0
      have l1 := HBk6.out.lt
      simp [histC] at g1
      go_wp2_with fail
      clear f1 g1 l1
      have HBk7 := Lib.hid (HBk6.out.set 0 (.pointer (some ⟨bT, 0, none⟩)))
      refine ⟨trivial, ?_⟩
      repeat (first | (refine wpWay_take rfl (by rfl) (by intro w hSw; (try dsimp only at hSw); first | (go_simp; done) | (go_simp; with_reducible rfl)) ?_; try simp only [Act.put, List.setIfInBounds_toArray, List.set_cons_zero, List.set_cons_succ]) | (refine wpWay_skip rfl (by rfl) ?_; try simp only [Act.put, List.setIfInBounds_toArray, List.set_cons_zero, List.set_cons_succ]))
      refine wpWay_done ?_
      go_wp2_with fail
      go_ret
      refine ⟨by rw [HZ.out]; rfl, fun h => absurd HZ.out h, fun _ => hist_done (u' := ⟨A1, n1, d1⟩) (r' := nilH) HB4.out HBk4.out (((keepO_set _ _ _ _).trans (keepO_set _ _ _ _)).trans (keepO_set _ _ _ _)) HBk7.out (grown_trans (grown_trans (set_grownB _ _ _ _) (set_grownB _ _ _ _)) (set_grownB _ _ _ _)) HST4.out (HF1.out.low ?_) (FarIs.nil _ _) (((HSU.out.snoc HNow.out).bl HB4.out).drop' HULen.out) (SRows.nil _)⟩
      have := HB3.out.size; simp; omega
    · refine wpWay_ev rfl (fun K hK => ?_) wpWay_stop
      go_wp2_with fail
      refine ⟨trivial, ?_⟩
      repeat (first | (refine wpWay_take rfl (by rfl) (by intro w hSw; (try dsimp only at hSw); first | (go_simp; done) | (go_simp; with_reducible rfl)) ?_; try simp only [Act.put, List.setIfInBounds_toArray, List.set_cons_zero, List.set_cons_succ]) | (refine wpWay_skip rfl (by rfl) ?_; try simp only [Act.put, List.setIfInBounds_toArray, List.set_cons_zero, List.set_cons_succ]))
      refine wpWay_ev rfl (fun K hK => ?_) wpWay_stop
      go_wp2_with fail
      refine ⟨trivial, ?_⟩
      repeat (first | (refine wpWay_take rfl (by rfl) (by intro w hSw; (try dsimp only at hSw); first | (go_simp; done) | (go_simp; with_reducible rfl)) ?_; try simp only [Act.put, List.setIfInBounds_toArray, List.set_cons_zero, List.set_cons_succ]) | (refine wpWay_skip rfl (by rfl) ?_; try simp only [Act.put, List.setIfInBounds_toArray, List.set_cons_zero, List.set_cons_succ]))
      refine wpWay_ev rfl (fun K hK => ?_) wpWay_stop
      go_wp2_with fail
      refine (hpush_any _ us n _ (HU.out.1.bl HB3.out.drew) HN.out).mono ?_
      rintro e w4 ⟨u1, rfl, hf1, hb⟩
      have HBk4 := Lib.hid ((HBk3.out.bl (Bl.refl _).drew).bl hb)
      have HB4 := Lib.hid ((HB3.out.drew).bl hb)
      have HST4 := Lib.hid ((HST.out.bl (Bl.refl _).drew).bl hb)
      obtain ⟨A1, d1, z1, _⟩ := id hf1.1
      subst z1
      generalize hn1 : ((us ++ [n]).drop (us.length + 1 - 4)).length = n1 at *
      have HF1 := Lib.hid hf1
      clear hf1 hb hn1
      go_wp2_with fail
      refine ⟨trivial, ?_⟩
      repeat (first | (refine wpWay_take rfl (by rfl) (by intro w hSw; (try dsimp only at hSw); first | (go_simp; done) | (go_simp; with_reducible rfl)) ?_; try simp only [Act.put, List.setIfInBounds_toArray, List.set_cons_zero, List.set_cons_succ]) | (refine wpWay_skip rfl (by rfl) ?_; try simp only [Act.put, List.setIfInBounds_toArray, List.set_cons_zero, List.set_cons_succ]))
      refine wpWay_ev rfl (fun K hK => ?_) wpWay_stop
      have f1 := HBk4.out.frozen 1
      have g1 := HBk4.out.cell 1
      have l1 := HBk4.out.lt
      simp [histC] at g1
      go_wp2_with fail
      clear f1 g1 l1
      have HBk5 := Lib.hid (HBk4.out.set 1 (.slice A1 n1 d1))
      refine ⟨trivial, ?_⟩
      repeat (first | (refine wpWay_take rfl (by rfl) (by intro w hSw; (try dsimp only at hSw); first | (go_simp; done) | (go_simp; with_reducible rfl)) ?_; try simp only [Act.put, List.setIfInBounds_toArray, List.set_cons_zero, List.set_cons_succ]) | (refine wpWay_skip rfl (by rfl) ?_; try simp only [Act.put, List.setIfInBounds_toArray, List.set_cons_zero, List.set_cons_succ]))
      refine wpWay_ev rfl (fun K hK => ?_) wpWay_stop
      have f1 := HBk5.out.frozen 2
      have g1 := HBk5.out.cell 2
      have l1 := HBk5.out.lt
      simp [histC] at g1
      go_wp2_with fail
      clear f1 g1 l1
      have HBk6 := Lib.hid (HBk5.out.set 2 (.slice none 0 0))
      refine ⟨trivial, ?_⟩
      repeat (first | (refine wpWay_take rfl (by rfl) (by intro w hSw; (try dsimp only at hSw); first | (go_simp; done) | (go_simp; with_reducible rfl)) ?_; try simp only [Act.put, List.setIfInBounds_toArray, List.set_cons_zero, List.set_cons_succ]) | (refine wpWay_skip rfl (by rfl) ?_; try simp only [Act.put, List.setIfInBounds_toArray, List.set_cons_zero, List.set_cons_succ]))
      refine wpWay_ev rfl (fun K hK => ?_) wpWay_stop
      have f1 := HBk6.out.frozen 0
      have g1 := HBk6.out.cell 0
      have l1 := HBk6.out.lt
      simp [histC] at g1
      go_wp2_with fail
      clear f1 g1 l1
      have HBk7 := Lib.hid (HBk6.out.set 0 (.pointer (some ⟨bT, 0, none⟩)))
      refine ⟨trivial, ?_⟩
      repeat (first | (refine wpWay_take rfl (by rfl) (by intro w hSw; (try dsimp only at hSw); first | (go_simp; done) | (go_simp; with_reducible rfl)) ?_; try simp only [Act.put, List.setIfInBounds_toArray, List.set_cons_zero, List.set_cons_succ]) | (refine wpWay_skip rfl (by rfl) ?_; try simp only [Act.put, List.setIfInBounds_toArray, List.set_cons_zero, List.set_cons_succ]))
      refine wpWay_done ?_
      go_wp2_with fail
      go_ret
      refine ⟨by rw [HZ.out]; rfl, fun h => absurd HZ.out h, fun _ => hist_done (u' := ⟨A1, n1, d1⟩) (r' := nilH) HB4.out HBk4.out (((keepO_set _ _ _ _).trans (keepO_set _ _ _ _)).trans (keepO_set _ _ _ _)) HBk7.out (grown_trans (grown_trans (set_grownB _ _ _ _) (set_grownB _ _ _ _)) (set_grownB _ _ _ _)) HST4.out (HF1.out.low ?_) (FarIs.nil _ _) (((HSU.out.snoc HNow.out).bl HB4.out).drop' HULen.out) (SRows.nil _)⟩
      have := HB3.out.size; simp; omega
  · obtain rfl := hres.2 hz
    have HZ := Lib.hid hz
    have hzb : ((applyR m.now ⟨kk, t, f, o, l⟩).2 == 0) = false := by rw [beq_eq_false_iff_ne]; exact hz
    clear hres
    go_wp2_with fail
    refine ⟨HH.out, ?_⟩
    repeat (first | (refine wpWay_take rfl (by rfl) (by intro w hSw; (try dsimp only at hSw); first | (go_simp; done) | (go_simp; with_reducible rfl)) ?_; try simp only [Act.put, List.setIfInBounds_toArray, List.set_cons_zero, List.set_cons_succ]) | (refine wpWay_skip rfl (by rfl) ?_; try simp only [Act.put, List.setIfInBounds_toArray, List.set_cons_zero, List.set_cons_succ]))
    refine wpWay_done ?_
    go_wp2_with fail
    go_ret
    exact ⟨rfl, fun _ => HB3.out, fun h => absurd h HZ.out⟩
end Go.Proofs.YtddcjekkimajpaaGreat.ExtW

/- history.Apply: the arms that change nothing. -/
namespace Go.Proofs.YtddcjekkimajpaaGreat.ExtW
open Go.RowKit Go.Ov Go.Proofs.YtddcjekkimajpaaGreat.Need

set_option maxRecDepth 100000 in
set_option maxHeartbeats 800000 in
theorem happly_bad (B : Nat) (rv : Value) (r : Rec) (w : World) (hr : RecIs w rv r) (hv : validRec r = false) :
    Calls Tryz.prog 21 #[.pointer (some ⟨B, 0, none⟩), rv] w fun e w' => e = .returned (.int .i64 1) ∧ Bl w w' := by
  have HR := Lib.hid hr
  have HV := Lib.hid hv
  obtain ⟨u2, rfl, hl⟩ := hr
  obtain ⟨A, c, rfl, _⟩ := hl
  clear hv
  have hur := Tryz.underlying46
  go_enter Tryz.func21, Tryz.ntmps21
  go_wp2_with fail
  refine (rvalidRec_any _ _ _ (HR.out.bl ((Bl.refl _).alloc _))).mono ?_
  rintro e w1 ⟨rfl, hb⟩
  rw [HV.out]
  have HB := Lib.hid (Bl.bl ((Bl.refl w).alloc _) hb)
  clear hb
  go_wp2_with fail
  go_ret
  exact ⟨rfl, HB.out⟩

set_option maxRecDepth 100000 in
set_option maxHeartbeats 800000 in
theorem happly_undo0 (B : Nat) (m : HistM) (rv : Value) (r : Rec) (w : World) (h : HistIs 59 w B m) (hr : RecIs w rv r) (hk : r.kind = 4) (hv : validRec r = true) (hu : m.undo.length = 0) :
    Calls Tryz.prog 21 #[.pointer (some ⟨B, 0, none⟩), rv] w fun e w' => e = .returned (.int .i64 5) ∧ Bl w w' := by
  have HR := Lib.hid hr
  have HV := Lib.hid hv
  obtain ⟨n, u, q, us, rs, h0, h1, h2, h3, h4, h5⟩ := h
  obtain ⟨u2, rfl, hl⟩ := hr
  obtain ⟨A, c, rfl, _⟩ := hl
  have HBk := Lib.hid h0
  have hul := h4.1
  obtain ⟨kk, t, f, o, l⟩ := r
  dsimp only at hk HV
  subst hk
  obtain ⟨uA, un, uc⟩ := u
  obtain ⟨hU, _, hU1⟩ := id h2.1
  simp only [Head.v] at hU1
  have hun : un = 0 := by simp at hU1; omega
  subst hun
  clear h0 h1 h2 h3 h4 h5 hv hul hU1 hu
  have hur := Tryz.underlying46
  have huh := Tryz.underlying59
  go_enter Tryz.func21, Tryz.ntmps21
  go_wp2_with fail
  refine (rvalidRec_any _ _ _ (HR.out.bl ((Bl.refl _).alloc _))).mono ?_
  rintro e w1 ⟨rfl, hb⟩
  rw [HV.out]
  have b1 := (Blk.new w #[.int .i64 4, .int .i64 t, .int .i64 f, .int .i64 o, .slice A l.length c] 46).bl hb
  have d0 := b1.cell 0
  simp at d0
  have HB1 := Lib.hid (((Bl.refl w).alloc (.cells #[.int .i64 4, .int .i64 t, .int .i64 f, .int .i64 o, .slice A l.length c] 46)).bl hb)
  have HBk1 := Lib.hid (HBk.out.bl HB1.out)
  have c1 := HBk1.out.cell 1
  simp [histC, Head.v] at c1
  clear hb b1
  go_wp2_with fail
  go_ret
  exact ⟨rfl, HB1.out⟩
set_option maxRecDepth 100000 in
set_option maxHeartbeats 800000 in
theorem happly_redo0 (B : Nat) (m : HistM) (rv : Value) (r : Rec) (w : World) (h : HistIs 59 w B m) (hr : RecIs w rv r) (hk : r.kind = 5) (hv : validRec r = true) (hu : m.redo.length = 0) :
    Calls Tryz.prog 21 #[.pointer (some ⟨B, 0, none⟩), rv] w fun e w' => e = .returned (.int .i64 5) ∧ Bl w w' := by
  have HR := Lib.hid hr
  have HV := Lib.hid hv
  obtain ⟨n, u, q, us, rs, h0, h1, h2, h3, h4, h5⟩ := h
  obtain ⟨u2, rfl, hl⟩ := hr
  obtain ⟨A, c, rfl, _⟩ := hl
  have HBk := Lib.hid h0
  have hul := h5.1
  obtain ⟨kk, t, f, o, l⟩ := r
  dsimp only at hk HV
  subst hk
  obtain ⟨uA, un, uc⟩ := q
  obtain ⟨hU, _, hU1⟩ := id h3.1
  simp only [Head.v] at hU1
  have hun : un = 0 := by simp at hU1; omega
  subst hun
  clear h0 h1 h2 h3 h4 h5 hv hul hU1 hu
  have hur := Tryz.underlying46
  have huh := Tryz.underlying59
  go_enter Tryz.func21, Tryz.ntmps21
  go_wp2_with fail
  refine (rvalidRec_any _ _ _ (HR.out.bl ((Bl.refl _).alloc _))).mono ?_
  rintro e w1 ⟨rfl, hb⟩
  rw [HV.out]
  have b1 := (Blk.new w #[.int .i64 5, .int .i64 t, .int .i64 f, .int .i64 o, .slice A l.length c] 46).bl hb
  have d0 := b1.cell 0
  simp at d0
  have HB1 := Lib.hid (((Bl.refl w).alloc (.cells #[.int .i64 5, .int .i64 t, .int .i64 f, .int .i64 o, .slice A l.length c] 46)).bl hb)
  have HBk1 := Lib.hid (HBk.out.bl HB1.out)
  have c1 := HBk1.out.cell 2
  simp [histC, Head.v] at c1
  clear hb b1
  go_wp2_with fail
  go_ret
  exact ⟨rfl, HB1.out⟩
set_option maxRecDepth 100000 in
set_option maxHeartbeats 800000 in
theorem happly_undo0G (B n : Nat) (u q : Head) (us : List Nat) (rv : Value) (r : Rec) (w : World) (h0 : Blk w B (histC n u q) 59) (h2 : ptrE.Is w u.v us) (hr : RecIs w rv r) (hk : r.kind = 4) (hv : validRec r = true) (hu : (us).length = 0) :
    Calls Tryz.prog 21 #[.pointer (some ⟨B, 0, none⟩), rv] w fun e w' => e = .returned (.int .i64 5) ∧ Bl w w' := by
  have HR := Lib.hid hr
  have HV := Lib.hid hv
  obtain ⟨u2, rfl, hl⟩ := hr
  obtain ⟨A, c, rfl, _⟩ := hl
  have HBk := Lib.hid h0
  obtain ⟨kk, t, f, o, l⟩ := r
  dsimp only at hk HV
  subst hk
  obtain ⟨uA, un, uc⟩ := u
  have hun : un = 0 := by obtain ⟨_, _, e, _⟩ := h2; simp only [Head.v] at e; injection e with _ e _; rw [e, hu]
  subst hun
  clear h0 h2 hv hu
  have hur := Tryz.underlying46
  have huh := Tryz.underlying59
  go_enter Tryz.func21, Tryz.ntmps21
  go_wp2_with fail
  refine (rvalidRec_any _ _ _ (HR.out.bl ((Bl.refl _).alloc _))).mono ?_
  rintro e w1 ⟨rfl, hb⟩
  rw [HV.out]
  have b1 := (Blk.new w #[.int .i64 4, .int .i64 t, .int .i64 f, .int .i64 o, .slice A l.length c] 46).bl hb
  have d0 := b1.cell 0
  simp at d0
  have HB1 := Lib.hid (((Bl.refl w).alloc (.cells #[.int .i64 4, .int .i64 t, .int .i64 f, .int .i64 o, .slice A l.length c] 46)).bl hb)
  have HBk1 := Lib.hid (HBk.out.bl HB1.out)
  have c1 := HBk1.out.cell 1
  simp [histC, Head.v] at c1
  clear hb b1
  go_wp2_with fail
  go_ret
  exact ⟨rfl, HB1.out⟩
set_option maxRecDepth 100000 in
set_option maxHeartbeats 800000 in
theorem happly_redo0G (B n : Nat) (u q : Head) (rs : List Nat) (rv : Value) (r : Rec) (w : World) (h0 : Blk w B (histC n u q) 59) (h2 : ptrE.Is w q.v rs) (hr : RecIs w rv r) (hk : r.kind = 5) (hv : validRec r = true) (hu : (rs).length = 0) :
    Calls Tryz.prog 21 #[.pointer (some ⟨B, 0, none⟩), rv] w fun e w' => e = .returned (.int .i64 5) ∧ Bl w w' := by
  have HR := Lib.hid hr
  have HV := Lib.hid hv
  obtain ⟨u2, rfl, hl⟩ := hr
  obtain ⟨A, c, rfl, _⟩ := hl
  have HBk := Lib.hid h0
  obtain ⟨kk, t, f, o, l⟩ := r
  dsimp only at hk HV
  subst hk
  obtain ⟨uA, un, uc⟩ := q
  have hun : un = 0 := by obtain ⟨_, _, e, _⟩ := h2; simp only [Head.v] at e; injection e with _ e _; rw [e, hu]
  subst hun
  clear h0 h2 hv hu
  have hur := Tryz.underlying46
  have huh := Tryz.underlying59
  go_enter Tryz.func21, Tryz.ntmps21
  go_wp2_with fail
  refine (rvalidRec_any _ _ _ (HR.out.bl ((Bl.refl _).alloc _))).mono ?_
  rintro e w1 ⟨rfl, hb⟩
  rw [HV.out]
  have b1 := (Blk.new w #[.int .i64 5, .int .i64 t, .int .i64 f, .int .i64 o, .slice A l.length c] 46).bl hb
  have d0 := b1.cell 0
  simp at d0
  have HB1 := Lib.hid (((Bl.refl w).alloc (.cells #[.int .i64 5, .int .i64 t, .int .i64 f, .int .i64 o, .slice A l.length c] 46)).bl hb)
  have HBk1 := Lib.hid (HBk.out.bl HB1.out)
  have c1 := HBk1.out.cell 2
  simp [histC, Head.v] at c1
  clear hb b1
  go_wp2_with fail
  go_ret
  exact ⟨rfl, HB1.out⟩
end Go.Proofs.YtddcjekkimajpaaGreat.ExtW

/- history.Apply, whole. -/
namespace Go.Proofs.YtddcjekkimajpaaGreat.ExtW
open Go.RowKit Go.Ov Go.Proofs.YtddcjekkimajpaaGreat.Need

def applyH (m : HistM) (r : Rec) : HistM × Int :=
  if validRec r = false then (m, 1)
  else if r.kind = 4 then (if h : 0 < m.undo.length then (undoM m h, 0) else (m, 5))
  else if r.kind = 5 then (if h : 0 < m.redo.length then (redoM m h, 0) else (m, 5))
  else if (applyR m.now r).2 = 0 then (stepH m (applyR m.now r).1, 0) else (m, (applyR m.now r).2)
theorem valid_kind {r : Rec} (h : validRec r = true) (h4 : r.kind ≠ 4) (h5 : r.kind ≠ 5) : r.kind ≤ 3 := by
  unfold validRec at h
  by_cases h1 : r.kind = 1 ∨ r.kind = 2
  · omega
  · rw [if_neg h1, if_neg (by omega)] at h
    by_cases h3 : r.kind = 3
    · omega
    · rw [if_neg h3] at h; cases h
theorem happly_any (B : Nat) (m : HistM) (rv : Value) (r : Rec) (w : World) (h : HistIs 59 w B m) (hr : RecIs w rv r) (hs : StOK m.now) (hn : m.undo.length ≤ 4) (hn' : m.redo.length ≤ 4) :
    Calls Tryz.prog 21 #[.pointer (some ⟨B, 0, none⟩), rv] w fun e w' => e = .returned (.int .i64 (applyH m r).2) ∧ HistIs 59 w' B (applyH m r).1 ∧ w.grownBy w' (some B) := by
  unfold applyH
  by_cases hv : validRec r = false
  · rw [if_pos hv]
    exact (happly_bad B rv r w hr hv).mono fun e w' ⟨h1, h2⟩ => ⟨h1, h.bl h2, grown_bl h2⟩
  · rw [if_neg hv]
    have hv' : validRec r = true := by simpa using hv
    by_cases h4 : r.kind = 4
    · rw [if_pos h4]
      by_cases hu : 0 < m.undo.length
      · rw [dif_pos hu]; exact happly_undo B m rv r w h hr h4 hv' hu hn hn'
      · rw [dif_neg hu]; exact (happly_undo0 B m rv r w h hr h4 hv' (by omega)).mono fun e w' ⟨h1, h2⟩ => ⟨h1, h.bl h2, grown_bl h2⟩
    · rw [if_neg h4]
      by_cases h5 : r.kind = 5
      · rw [if_pos h5]
        by_cases hu : 0 < m.redo.length
        · rw [dif_pos hu]; exact happly_redo B m rv r w h hr h5 hv' hu hn' hn
        · rw [dif_neg hu]; exact (happly_redo0 B m rv r w h hr h5 hv' (by omega)).mono fun e w' ⟨h1, h2⟩ => ⟨h1, h.bl h2, grown_bl h2⟩
      · rw [if_neg h5]
        refine (happly_change B m rv r w h hr (valid_kind hv' h4 h5) hv' hs hn).mono fun e w' ⟨h1, h2, h3⟩ => ?_
        by_cases hz : (applyR m.now r).2 = 0
        · rw [if_pos hz]; exact ⟨by rw [h1, hz], h3 hz⟩
        · rw [if_neg hz]; exact ⟨h1, h.bl (h2 hz), grown_bl (h2 hz)⟩
end Go.Proofs.YtddcjekkimajpaaGreat.ExtW

/- Contract of ref20's History.Apply. -/
namespace Go.Proofs.YtddcjekkimajpaaGreat.ExtW
open Go.RowKit Go.Ov Go.Proofs.YtddcjekkimajpaaGreat.Need

theorem cell_set3 {w : World} {a : Addr} {v : Value} {g : Nat} (x y z : Value) (h : w.cell? a = some v) (hg : a.block ≠ g) : (((w.setCell ⟨g, 0, none⟩ x).setCell ⟨g, 1, none⟩ y).setCell ⟨g, 2, none⟩ z).cell? a = some v :=
  keepO_set _ g 2 z a v hg (keepO_set _ g 1 y a v hg (keepO_set _ g 0 x a v hg h))
theorem sub_set3 {w : World} {G : Nat → Bool} {g : Nat} (x y z : Value) (hg : G g = false) : Sub (only w G) (only (((w.setCell ⟨g, 0, none⟩ x).setCell ⟨g, 1, none⟩ y).setCell ⟨g, 2, none⟩ z) G) :=
  ((Sub.grown (set_grownB w g 0 x) (fun k hk => by injection hk with hk; subst hk; exact hg)).trans (Sub.grown (set_grownB _ g 1 y) (fun k hk => by injection hk with hk; subst hk; exact hg))).trans (Sub.grown (set_grownB _ g 2 z) (fun k hk => by injection hk with hk; subst hk; exact hg))
theorem alloc_size (w : World) (o : Obj) : (w.alloc o).heap.size = w.heap.size + 1 := by simp

set_option maxRecDepth 100000 in
set_option maxHeartbeats 2000000 in
theorem hap20_bad (G : Nat → Bool) (m : HistM) (hv rv : Value) (r : Rec) (w : World) (h : RHIs (only w G) hv m) (hr : RecIs w rv r) (hval : validRec r = false) :
    Calls Tryz.prog 20 #[hv, rv] w fun e w' => ∃ u, e = .returned (.tuple #[u, .int .i64 1]) ∧ RHIs (only w' (gor G w)) u m ∧ Bl w w' := by
  have HR := Lib.hid hr
  have HH := Lib.hid h
  have HV := Lib.hid hval
  obtain ⟨a, b, c, rfl, h1, h2, h3⟩ := h
  obtain ⟨u2, rfl, hl⟩ := hr
  obtain ⟨A, nl, ca, rfl⟩ : ∃ A' n' c', u2 = .slice A' n' c' := by obtain ⟨A', c', e', _⟩ := hl; exact ⟨A', _, c', e'⟩
  obtain ⟨Aa, na, cca, rfl⟩ : ∃ A' n' c', a = .slice A' n' c' := by obtain ⟨A', c', e'⟩ := h1.slice; exact ⟨A', _, c', e'⟩
  obtain ⟨Ab, nb, ccb, rfl⟩ : ∃ A' n' c', b = .slice A' n' c' := by obtain ⟨A', c', e'⟩ := h2.slice; exact ⟨A', _, c', e'⟩
  obtain ⟨Ac, nc, ccc, rfl⟩ : ∃ A' n' c', c = .slice A' n' c' := by obtain ⟨A', c', e'⟩ := h3.slice; exact ⟨A', _, c', e'⟩
  have H1 := Lib.hid h1
  have H2 := Lib.hid h2
  have H3 := Lib.hid h3
  have HNB := Lib.hid (show nb = m.undo.length by obtain ⟨A', c', e'⟩ := h2.slice; simp at e'; exact e'.2.1)
  have HNC := Lib.hid (show nc = m.redo.length by obtain ⟨A', c', e'⟩ := h3.slice; simp at e'; exact e'.2.1)
  obtain ⟨kk, t, f, o, l⟩ := r
  have hur := Tryz.underlying46
  have huh := Tryz.underlying30
  clear h1 h2 h3 hval hl
  go_enter Tryz.func20, Tryz.ntmps20
  go_wp2_with fail
  refine (rvalidR_any _ ⟨kk, t, f, o, l⟩ _ (HR.out.bl ((((Bl.refl _).alloc _).alloc _).alloc _))).mono ?_
  rintro e w1 ⟨rfl, hb⟩
  rw [HV.out]
  have b1 := (((Blk.new w #[.slice Aa na cca, .slice Ab nb ccb, .slice Ac nc ccc] 30).bl ((Bl.refl _).alloc _)).bl ((Bl.refl _).alloc _)).bl hb
  have b2 := ((Blk.new (w.alloc (.cells #[.slice Aa na cca, .slice Ab nb ccb, .slice Ac nc ccc] 30)) #[.int .i64 kk, .int .i64 t, .int .i64 f, .int .i64 o, .slice A nl ca] 46).bl ((Bl.refl _).alloc _)).bl hb
  have b3 := (Blk.new ((w.alloc (.cells #[.slice Aa na cca, .slice Ab nb ccb, .slice Ac nc ccc] 30)).alloc (.cells #[.int .i64 kk, .int .i64 t, .int .i64 f, .int .i64 o, .slice A nl ca] 46)) #[.slice none 0 0, .slice none 0 0, .slice none 0 0] 30).bl hb
  rw [alloc_size] at b2 b3
  rw [alloc_size] at b3
  have HB := Lib.hid (((((Bl.refl w).alloc (.cells #[.slice Aa na cca, .slice Ab nb ccb, .slice Ac nc ccc] 30)).alloc (.cells #[.int .i64 kk, .int .i64 t, .int .i64 f, .int .i64 o, .slice A nl ca] 46)).alloc (.cells #[.slice none 0 0, .slice none 0 0, .slice none 0 0] 30)).bl hb)
  have B1 := Lib.hid b1
  have B2 := Lib.hid b2
  have B3 := Lib.hid b3
  have c0 := b1.cell 0
  have c1 := b1.cell 1
  have c2 := b1.cell 2
  have f0 := b3.frozen 0
  have f1 := b3.frozen 1
  have f2 := b3.frozen 2
  have z0 := b3.cell 0
  have z1 := b3.cell 1
  have z2 := b3.cell 2
  have d0 := b2.cell 0
  have d1 := b2.cell 1
  have d2 := b2.cell 2
  have d3 := b2.cell 3
  have d4 := b2.cell 4
  simp at c0 c1 c2 z0 z1 z2 d0 d1 d2 d3 d4
  clear hb b1 b2 b3
  have hs3 := ((B3.out.set 0 (.slice Aa na cca)).set 1 (.slice Ab nb ccb)).set 2 (.slice Ac nc ccc)
  have e0 := hs3.cell 0
  have e1 := hs3.cell 1
  have e2 := hs3.cell 2
  simp at e0 e1 e2
  have HBo := Lib.hid (((HB.out.set (w.heap.size + 1 + 1) 0 (.slice Aa na cca) (by omega)).set (w.heap.size + 1 + 1) 1 (.slice Ab nb ccb) (by omega)).set (w.heap.size + 1 + 1) 2 (.slice Ac nc ccc) (by omega))
  clear hs3
  go_wp2_with fail
  refine bodyPost_ret (v := .tuple #[.agg #[(.slice Aa na cca), (.slice Ab nb ccb), (.slice Ac nc ccc)], .int .i64 1]) (by simp [results, Tryz.results20, go_sem, e0, e1, e2]) rfl ?_
  (exact ⟨_, rfl, ⟨_, _, _, rfl, LnIs.sub ((Sub.bl (HBo.out.only G)).trans (Sub.mono (gor_l G w))) H1.out, LnsIs.sub ((Sub.bl (HBo.out.only G)).trans (Sub.mono (gor_l G w))) H2.out, LnsIs.sub ((Sub.bl (HBo.out.only G)).trans (Sub.mono (gor_l G w))) H3.out⟩, HBo.out⟩)
set_option maxRecDepth 100000 in
set_option maxHeartbeats 400000 in
theorem hap20_undo0 (G : Nat → Bool) (m : HistM) (hv rv : Value) (r : Rec) (w : World) (h : RHIs (only w G) hv m) (hr : RecIs w rv r) (hk : r.kind = 4) (hval : validRec r = true) (hu : m.undo.length = 0) :
    Calls Tryz.prog 20 #[hv, rv] w fun e w' => ∃ u, e = .returned (.tuple #[u, .int .i64 5]) ∧ RHIs (only w' (gor G w)) u m ∧ Bl w w' := by
  have HKK := Lib.hid hk
  have HUU := Lib.hid hu
  clear hk hu
  have HR := Lib.hid hr
  have HH := Lib.hid h
  have HV := Lib.hid hval
  obtain ⟨a, b, c, rfl, h1, h2, h3⟩ := h
  obtain ⟨u2, rfl, hl⟩ := hr
  obtain ⟨A, nl, ca, rfl⟩ : ∃ A' n' c', u2 = .slice A' n' c' := by obtain ⟨A', c', e', _⟩ := hl; exact ⟨A', _, c', e'⟩
  obtain ⟨Aa, na, cca, rfl⟩ : ∃ A' n' c', a = .slice A' n' c' := by obtain ⟨A', c', e'⟩ := h1.slice; exact ⟨A', _, c', e'⟩
  obtain ⟨Ab, nb, ccb, rfl⟩ : ∃ A' n' c', b = .slice A' n' c' := by obtain ⟨A', c', e'⟩ := h2.slice; exact ⟨A', _, c', e'⟩
  obtain ⟨Ac, nc, ccc, rfl⟩ : ∃ A' n' c', c = .slice A' n' c' := by obtain ⟨A', c', e'⟩ := h3.slice; exact ⟨A', _, c', e'⟩
  have H1 := Lib.hid h1
  have H2 := Lib.hid h2
  have H3 := Lib.hid h3
  have HNB := Lib.hid (show nb = m.undo.length by obtain ⟨A', c', e'⟩ := h2.slice; simp at e'; exact e'.2.1)
  have HNC := Lib.hid (show nc = m.redo.length by obtain ⟨A', c', e'⟩ := h3.slice; simp at e'; exact e'.2.1)
  obtain ⟨kk, t, f, o, l⟩ := r
  have hur := Tryz.underlying46
  have huh := Tryz.underlying30
  clear h1 h2 h3 hval hl
  go_enter Tryz.func20, Tryz.ntmps20
  go_wp2_with fail
  refine (rvalidR_any _ ⟨kk, t, f, o, l⟩ _ (HR.out.bl ((((Bl.refl _).alloc _).alloc _).alloc _))).mono ?_
  rintro e w1 ⟨rfl, hb⟩
  rw [HV.out]
  have b1 := (((Blk.new w #[.slice Aa na cca, .slice Ab nb ccb, .slice Ac nc ccc] 30).bl ((Bl.refl _).alloc _)).bl ((Bl.refl _).alloc _)).bl hb
  have b2 := ((Blk.new (w.alloc (.cells #[.slice Aa na cca, .slice Ab nb ccb, .slice Ac nc ccc] 30)) #[.int .i64 kk, .int .i64 t, .int .i64 f, .int .i64 o, .slice A nl ca] 46).bl ((Bl.refl _).alloc _)).bl hb
  have b3 := (Blk.new ((w.alloc (.cells #[.slice Aa na cca, .slice Ab nb ccb, .slice Ac nc ccc] 30)).alloc (.cells #[.int .i64 kk, .int .i64 t, .int .i64 f, .int .i64 o, .slice A nl ca] 46)) #[.slice none 0 0, .slice none 0 0, .slice none 0 0] 30).bl hb
  rw [alloc_size] at b2 b3
  rw [alloc_size] at b3
  have HB := Lib.hid (((((Bl.refl w).alloc (.cells #[.slice Aa na cca, .slice Ab nb ccb, .slice Ac nc ccc] 30)).alloc (.cells #[.int .i64 kk, .int .i64 t, .int .i64 f, .int .i64 o, .slice A nl ca] 46)).alloc (.cells #[.slice none 0 0, .slice none 0 0, .slice none 0 0] 30)).bl hb)
  have B1 := Lib.hid b1
  have B2 := Lib.hid b2
  have B3 := Lib.hid b3
  have c0 := b1.cell 0
  have c1 := b1.cell 1
  have c2 := b1.cell 2
  have f0 := b3.frozen 0
  have f1 := b3.frozen 1
  have f2 := b3.frozen 2
  have z0 := b3.cell 0
  have z1 := b3.cell 1
  have z2 := b3.cell 2
  have d0 := b2.cell 0
  have d1 := b2.cell 1
  have d2 := b2.cell 2
  have d3 := b2.cell 3
  have d4 := b2.cell 4
  simp at c0 c1 c2 z0 z1 z2 d0 d1 d2 d3 d4
  clear hb b1 b2 b3
  obtain rfl : kk = 4 := HKK.out
  obtain rfl : nb = 0 := by have := HNB.out; have := HUU.out; omega
  have hs3 := ((B3.out.set 0 (.slice Aa na cca)).set 1 (.slice Ab 0 ccb)).set 2 (.slice Ac nc ccc)
  have e0 := hs3.cell 0
  have e1 := hs3.cell 1
  have e2 := hs3.cell 2
  simp at e0 e1 e2
  have HBo := Lib.hid (((HB.out.set (w.heap.size + 1 + 1) 0 (.slice Aa na cca) (by omega)).set (w.heap.size + 1 + 1) 1 (.slice Ab 0 ccb) (by omega)).set (w.heap.size + 1 + 1) 2 (.slice Ac nc ccc) (by omega))
  clear hs3
  go_wp2_with fail
  refine bodyPost_ret (v := .tuple #[.agg #[(.slice Aa na cca), (.slice Ab 0 ccb), (.slice Ac nc ccc)], .int .i64 5]) (by simp [results, Tryz.results20, go_sem, e0, e1, e2]) rfl ?_
  (exact ⟨_, rfl, ⟨_, _, _, rfl, LnIs.sub ((Sub.bl (HBo.out.only G)).trans (Sub.mono (gor_l G w))) H1.out, LnsIs.sub ((Sub.bl (HBo.out.only G)).trans (Sub.mono (gor_l G w))) H2.out, LnsIs.sub ((Sub.bl (HBo.out.only G)).trans (Sub.mono (gor_l G w))) H3.out⟩, HBo.out⟩)
set_option maxRecDepth 100000 in
set_option maxHeartbeats 400000 in
theorem hap20_redo0 (G : Nat → Bool) (m : HistM) (hv rv : Value) (r : Rec) (w : World) (h : RHIs (only w G) hv m) (hr : RecIs w rv r) (hk : r.kind = 5) (hval : validRec r = true) (hu : m.redo.length = 0) :
    Calls Tryz.prog 20 #[hv, rv] w fun e w' => ∃ u, e = .returned (.tuple #[u, .int .i64 5]) ∧ RHIs (only w' (gor G w)) u m ∧ Bl w w' := by
  have HKK := Lib.hid hk
  have HUU := Lib.hid hu
  clear hk hu
  have HR := Lib.hid hr
  have HH := Lib.hid h
  have HV := Lib.hid hval
  obtain ⟨a, b, c, rfl, h1, h2, h3⟩ := h
  obtain ⟨u2, rfl, hl⟩ := hr
  obtain ⟨A, nl, ca, rfl⟩ : ∃ A' n' c', u2 = .slice A' n' c' := by obtain ⟨A', c', e', _⟩ := hl; exact ⟨A', _, c', e'⟩
  obtain ⟨Aa, na, cca, rfl⟩ : ∃ A' n' c', a = .slice A' n' c' := by obtain ⟨A', c', e'⟩ := h1.slice; exact ⟨A', _, c', e'⟩
  obtain ⟨Ab, nb, ccb, rfl⟩ : ∃ A' n' c', b = .slice A' n' c' := by obtain ⟨A', c', e'⟩ := h2.slice; exact ⟨A', _, c', e'⟩
  obtain ⟨Ac, nc, ccc, rfl⟩ : ∃ A' n' c', c = .slice A' n' c' := by obtain ⟨A', c', e'⟩ := h3.slice; exact ⟨A', _, c', e'⟩
  have H1 := Lib.hid h1
  have H2 := Lib.hid h2
  have H3 := Lib.hid h3
  have HNB := Lib.hid (show nb = m.undo.length by obtain ⟨A', c', e'⟩ := h2.slice; simp at e'; exact e'.2.1)
  have HNC := Lib.hid (show nc = m.redo.length by obtain ⟨A', c', e'⟩ := h3.slice; simp at e'; exact e'.2.1)
  obtain ⟨kk, t, f, o, l⟩ := r
  have hur := Tryz.underlying46
  have huh := Tryz.underlying30
  clear h1 h2 h3 hval hl
  go_enter Tryz.func20, Tryz.ntmps20
  go_wp2_with fail
  refine (rvalidR_any _ ⟨kk, t, f, o, l⟩ _ (HR.out.bl ((((Bl.refl _).alloc _).alloc _).alloc _))).mono ?_
  rintro e w1 ⟨rfl, hb⟩
  rw [HV.out]
  have b1 := (((Blk.new w #[.slice Aa na cca, .slice Ab nb ccb, .slice Ac nc ccc] 30).bl ((Bl.refl _).alloc _)).bl ((Bl.refl _).alloc _)).bl hb
  have b2 := ((Blk.new (w.alloc (.cells #[.slice Aa na cca, .slice Ab nb ccb, .slice Ac nc ccc] 30)) #[.int .i64 kk, .int .i64 t, .int .i64 f, .int .i64 o, .slice A nl ca] 46).bl ((Bl.refl _).alloc _)).bl hb
  have b3 := (Blk.new ((w.alloc (.cells #[.slice Aa na cca, .slice Ab nb ccb, .slice Ac nc ccc] 30)).alloc (.cells #[.int .i64 kk, .int .i64 t, .int .i64 f, .int .i64 o, .slice A nl ca] 46)) #[.slice none 0 0, .slice none 0 0, .slice none 0 0] 30).bl hb
  rw [alloc_size] at b2 b3
  rw [alloc_size] at b3
  have HB := Lib.hid (((((Bl.refl w).alloc (.cells #[.slice Aa na cca, .slice Ab nb ccb, .slice Ac nc ccc] 30)).alloc (.cells #[.int .i64 kk, .int .i64 t, .int .i64 f, .int .i64 o, .slice A nl ca] 46)).alloc (.cells #[.slice none 0 0, .slice none 0 0, .slice none 0 0] 30)).bl hb)
  have B1 := Lib.hid b1
  have B2 := Lib.hid b2
  have B3 := Lib.hid b3
  have c0 := b1.cell 0
  have c1 := b1.cell 1
  have c2 := b1.cell 2
  have f0 := b3.frozen 0
  have f1 := b3.frozen 1
  have f2 := b3.frozen 2
  have z0 := b3.cell 0
  have z1 := b3.cell 1
  have z2 := b3.cell 2
  have d0 := b2.cell 0
  have d1 := b2.cell 1
  have d2 := b2.cell 2
  have d3 := b2.cell 3
  have d4 := b2.cell 4
  simp at c0 c1 c2 z0 z1 z2 d0 d1 d2 d3 d4
  clear hb b1 b2 b3
  obtain rfl : kk = 5 := HKK.out
  obtain rfl : nc = 0 := by have := HNC.out; have := HUU.out; omega
  have hs3 := ((B3.out.set 0 (.slice Aa na cca)).set 1 (.slice Ab nb ccb)).set 2 (.slice Ac 0 ccc)
  have e0 := hs3.cell 0
  have e1 := hs3.cell 1
  have e2 := hs3.cell 2
  simp at e0 e1 e2
  have HBo := Lib.hid (((HB.out.set (w.heap.size + 1 + 1) 0 (.slice Aa na cca) (by omega)).set (w.heap.size + 1 + 1) 1 (.slice Ab nb ccb) (by omega)).set (w.heap.size + 1 + 1) 2 (.slice Ac 0 ccc) (by omega))
  clear hs3
  go_wp2_with fail
  refine bodyPost_ret (v := .tuple #[.agg #[(.slice Aa na cca), (.slice Ab nb ccb), (.slice Ac 0 ccc)], .int .i64 5]) (by simp [results, Tryz.results20, go_sem, e0, e1, e2]) rfl ?_
  (exact ⟨_, rfl, ⟨_, _, _, rfl, LnIs.sub ((Sub.bl (HBo.out.only G)).trans (Sub.mono (gor_l G w))) H1.out, LnsIs.sub ((Sub.bl (HBo.out.only G)).trans (Sub.mono (gor_l G w))) H2.out, LnsIs.sub ((Sub.bl (HBo.out.only G)).trans (Sub.mono (gor_l G w))) H3.out⟩, HBo.out⟩)

set_option maxRecDepth 100000 in
set_option maxHeartbeats 1000000 in
theorem hap20_undo (G : Nat → Bool) (m : HistM) (hv rv : Value) (r : Rec) (w : World) (h : RHIs (only w G) hv m) (hr : RecIs w rv r) (hk : r.kind = 4) (hval : validRec r = true) (hu : 0 < m.undo.length) (hn : m.undo.length ≤ 4) (hn' : m.redo.length ≤ 4) :
    Calls Tryz.prog 20 #[hv, rv] w fun e w' => ∃ u, e = .returned (.tuple #[u, .int .i64 0]) ∧ RHIs (only w' (gor G w)) u (undoM m hu) ∧ Bl w w' := by
  have HKK := Lib.hid hk
  have HUU := Lib.hid hu
  have HN := Lib.hid hn
  have HN' := Lib.hid hn'
  clear hk hn hn'
  have HR := Lib.hid hr
  have HH := Lib.hid h
  have HV := Lib.hid hval
  obtain ⟨a, b, c, rfl, h1, h2, h3⟩ := h
  obtain ⟨u2, rfl, hl⟩ := hr
  obtain ⟨A, nl, ca, rfl⟩ : ∃ A' n' c', u2 = .slice A' n' c' := by obtain ⟨A', c', e', _⟩ := hl; exact ⟨A', _, c', e'⟩
  obtain ⟨Aa, na, cca, rfl⟩ : ∃ A' n' c', a = .slice A' n' c' := by obtain ⟨A', c', e'⟩ := h1.slice; exact ⟨A', _, c', e'⟩
  obtain ⟨Ab, nb, ccb, rfl⟩ : ∃ A' n' c', b = .slice A' n' c' := by obtain ⟨A', c', e'⟩ := h2.slice; exact ⟨A', _, c', e'⟩
  obtain ⟨Ac, nc, ccc, rfl⟩ : ∃ A' n' c', c = .slice A' n' c' := by obtain ⟨A', c', e'⟩ := h3.slice; exact ⟨A', _, c', e'⟩
  have H1 := Lib.hid h1
  have H2 := Lib.hid h2
  have H3 := Lib.hid h3
  have HNB := Lib.hid (show nb = m.undo.length by obtain ⟨A', c', e'⟩ := h2.slice; simp at e'; exact e'.2.1)
  have HNC := Lib.hid (show nc = m.redo.length by obtain ⟨A', c', e'⟩ := h3.slice; simp at e'; exact e'.2.1)
  obtain ⟨kk, t, f, o, l⟩ := r
  have hur := Tryz.underlying46
  have huh := Tryz.underlying30
  clear h1 h2 h3 hval hl
  go_enter Tryz.func20, Tryz.ntmps20
  go_wp2_with fail
  refine (rvalidR_any _ ⟨kk, t, f, o, l⟩ _ (HR.out.bl ((((Bl.refl _).alloc _).alloc _).alloc _))).mono ?_
  rintro e w1 ⟨rfl, hb⟩
  rw [HV.out]
  have b1 := (((Blk.new w #[.slice Aa na cca, .slice Ab nb ccb, .slice Ac nc ccc] 30).bl ((Bl.refl _).alloc _)).bl ((Bl.refl _).alloc _)).bl hb
  have b2 := ((Blk.new (w.alloc (.cells #[.slice Aa na cca, .slice Ab nb ccb, .slice Ac nc ccc] 30)) #[.int .i64 kk, .int .i64 t, .int .i64 f, .int .i64 o, .slice A nl ca] 46).bl ((Bl.refl _).alloc _)).bl hb
  have b3 := (Blk.new ((w.alloc (.cells #[.slice Aa na cca, .slice Ab nb ccb, .slice Ac nc ccc] 30)).alloc (.cells #[.int .i64 kk, .int .i64 t, .int .i64 f, .int .i64 o, .slice A nl ca] 46)) #[.slice none 0 0, .slice none 0 0, .slice none 0 0] 30).bl hb
  rw [alloc_size] at b2 b3
  rw [alloc_size] at b3
  have HB := Lib.hid (((((Bl.refl w).alloc (.cells #[.slice Aa na cca, .slice Ab nb ccb, .slice Ac nc ccc] 30)).alloc (.cells #[.int .i64 kk, .int .i64 t, .int .i64 f, .int .i64 o, .slice A nl ca] 46)).alloc (.cells #[.slice none 0 0, .slice none 0 0, .slice none 0 0] 30)).bl hb)
  have B1 := Lib.hid b1
  have B2 := Lib.hid b2
  have B3 := Lib.hid b3
  have c0 := b1.cell 0
  have c1 := b1.cell 1
  have c2 := b1.cell 2
  have f0 := b3.frozen 0
  have f1 := b3.frozen 1
  have f2 := b3.frozen 2
  have z0 := b3.cell 0
  have z1 := b3.cell 1
  have z2 := b3.cell 2
  have d0 := b2.cell 0
  have d1 := b2.cell 1
  have d2 := b2.cell 2
  have d3 := b2.cell 3
  have d4 := b2.cell 4
  simp at c0 c1 c2 z0 z1 z2 d0 d1 d2 d3 d4
  clear hb b1 b2 b3
  obtain rfl : kk = 4 := HKK.out
  obtain ⟨hs, hIs, hrows⟩ := H2.out
  have HIS := Lib.hid hIs
  obtain ⟨A0, cc0, e0, q0, q1, q2, hat⟩ := hIs
  simp at e0
  obtain ⟨rfl, rfl, rfl⟩ := e0
  have hl0 : 0 < hs.length := by have := HUU.out; have := HNB.out; omega
  obtain ⟨ad, rfl, hc⟩ := head_at ((Sub.un w G).at hat) (hs.length - 1) (by omega)
  have hlast := hrows.2 (hs.length - 1) (m.undo[m.undo.length - 1]'(by omega)) (hs[hs.length - 1]'(by omega)) (by rw [show hs.length - 1 = m.undo.length - 1 by rw [hrows.1]]; exact List.getElem?_eq_getElem _) (List.getElem?_eq_getElem _)
  obtain ⟨⟨xA, xn, xc⟩, hx⟩ : ∃ x, x = hs[hs.length - 1] := ⟨_, rfl⟩
  rw [← hx] at hc hlast
  simp only [Head.v] at hc hlast
  have hc1 := HB.out.cell hc
  have hblk := Lib.hid (World.block_lt_of_cell? w _ hc)
  obtain ⟨hV1, hI1⟩ := slice_full (E := headE) (P := Tryz.prog) (t := 28) (by kernel_rfl) (fun w => by kernel_rfl) (some ad) ccb hs (hs.length - 1) (by omega) q0
  have hcast : ((hs.length - 1 : Nat) : Int) = (hs.length : Int) - 1 := by omega
  rw [hcast] at hV1
  have hw : IntKind.i64.wrap ((hs.length : Int) - 1) = (hs.length : Int) - 1 := IntWalk.i64_in _ (by have := HN.out; have := HNB.out; omega)
  have hz : ((hs.length : Int) - 1).toNat = hs.length - 1 := by omega
  have hz1 : (0 : Int) ≤ (hs.length : Int) - 1 := by omega
  have hz2 : (hs.length : Int) - 1 < hs.length := by omega
  have hz3 : (1 : Int) ≤ hs.length := by omega
  have hu0 : ((hs.length : Int) == 0) = false := by rw [beq_eq_false_iff_ne]; omega
  have HLast := Lib.hid hlast
  have HROWS := Lib.hid hrows
  have HAT := Lib.hid hat
  clear hcast hx hlast hrows hat hc q0 q1 q2
  go_wp2_with fail
  refine wp_region_ways (S := (fun w' => w'.cell? (ad.add (hs.length - 1)) = some (.slice xA xn xc) ∧ w'.cell? ⟨w.heap.size, 0, none⟩ = some (.slice Aa na cca) ∧ w'.cell? ⟨w.heap.size, 1, none⟩ = some (.slice (some ad) hs.length ccb) ∧ w'.cell? ⟨w.heap.size, 2, none⟩ = some (.slice Ac nc ccc))) [0, 1, 2, 3, 4, 5, 6, 7, 8, 9, 10, 11, 12, 13, 14, 15, 16, 18, 20] (y := .take 0 (.take 1 (.take 2 (.take 3 (.take 4 (.take 5 (.take 6 (.take 7 (.take 8 (.take 9 (.take 10 (.take 11 (.take 12 (.take 13 (.take 14 (.take 15 (.take 16 (.ev 17 (.take 18 (.ev 19 (.take 20 (.done)) (.stop))) (.stop))))))))))))))))))) (by kernel_rfl) (by kernel_rfl) (by kernel_rfl) ?_ (fun hHeld => ?_)
  · exact ⟨Bl.cell (Bl.refl _).drew hc1, Bl.cell (Bl.refl _).drew c0, Bl.cell (Bl.refl _).drew c1, Bl.cell (Bl.refl _).drew c2⟩
  have HHe := Lib.hid hHeld
  repeat (first | (refine wpWay_take rfl (by rfl) (by intro w hSw; (try dsimp only at hSw); first | (go_simp; done) | (go_simp; with_reducible rfl)) ?_; try simp only [Act.put, List.setIfInBounds_toArray, List.set_cons_zero, List.set_cons_succ]) | (refine wpWay_skip rfl (by rfl) ?_; try simp only [Act.put, List.setIfInBounds_toArray, List.set_cons_zero, List.set_cons_succ]))
  clear hHeld
  refine wpWay_ev rfl (fun K hK => ?_) wpWay_stop
  have HBD := Lib.hid HB.out.drew
  have B3D := Lib.hid (B3.out.bl (Bl.refl w1).drew)
  clear z0 z1 z2 f0 f1 f2 c0 c1 c2 hc1 d0 d1 d2 d3 d4
  go_wp2_with fail
  refine (rpush_G (cap G w) _ _ m.redo m.now _ (LnsIs.sub ((Sub.cap w G).trans (Sub.bl (HBD.out.only _))) H3.out) (LnIs.sub ((Sub.cap w G).trans (Sub.bl (HBD.out.only _))) H1.out) HN'.out).mono ?_
  rintro e w3 ⟨pv, rfl, hp, hb⟩
  obtain ⟨pA, pn, pc, rfl⟩ : ∃ A' n' c', pv = .slice A' n' c' := by obtain ⟨A', c', e'⟩ := hp.slice; exact ⟨A', _, c', e'⟩
  have hgf : gor (cap G w) w1.drew (w.heap.size + 1 + 1) = false := by
    have := HB.out.size
    have h3 := B3.out.lt
    have h4 : w1.drew.heap.size = w1.heap.size := rfl
    unfold gor cap
    rw [decide_eq_false (by omega), decide_eq_false (by omega)]; simp
  have HGF := Lib.hid hgf
  clear hgf
  have HP := Lib.hid hp
  have HB4 := Lib.hid (HBD.out.bl hb)
  have b3 := B3D.out.bl hb
  have B4 := Lib.hid b3
  have z0 := b3.cell 0
  have z1 := b3.cell 1
  have z2 := b3.cell 2
  have f0 := b3.frozen 0
  have f1 := b3.frozen 1
  have f2 := b3.frozen 2
  simp at z0 z1 z2
  have hh := And.intro (hb.cell HHe.out.1) (And.intro (hb.cell HHe.out.2.1) (And.intro (hb.cell HHe.out.2.2.1) (hb.cell HHe.out.2.2.2)))
  clear hp hb b3
  go_wp2_with fail
  refine ⟨hh, ?_⟩
  repeat (first | (refine wpWay_take rfl (by rfl) (by intro w hSw; (try dsimp only at hSw); first | (go_simp; done) | (go_simp; with_reducible rfl)) ?_; try simp only [Act.put, List.setIfInBounds_toArray, List.set_cons_zero, List.set_cons_succ]) | (refine wpWay_skip rfl (by rfl) ?_; try simp only [Act.put, List.setIfInBounds_toArray, List.set_cons_zero, List.set_cons_succ]))
  refine wpWay_ev rfl (fun K hK => ?_) wpWay_stop
  have HH5 := Lib.hid hh
  clear hh
  go_wp2_with fail
  refine ⟨⟨cell_set3 _ _ _ HH5.out.1 (by have := hblk.out; omega), cell_set3 _ _ _ HH5.out.2.1 (by dsimp only; omega), cell_set3 _ _ _ HH5.out.2.2.1 (by dsimp only; omega), cell_set3 _ _ _ HH5.out.2.2.2 (by dsimp only; omega)⟩, ?_⟩
  repeat (first | (refine wpWay_take rfl (by rfl) (by intro w hSw; (try dsimp only at hSw); first | (go_simp; done) | (go_simp; with_reducible rfl)) ?_; try simp only [Act.put, List.setIfInBounds_toArray, List.set_cons_zero, List.set_cons_succ]) | (refine wpWay_skip rfl (by rfl) ?_; try simp only [Act.put, List.setIfInBounds_toArray, List.set_cons_zero, List.set_cons_succ]))
  refine wpWay_done ?_
  have hs3 := ((B4.out.set 0 (.slice xA xn xc)).set 1 (.slice (some ad) (hs.length - 1) (hs.length - 1))).set 2 (.slice pA pn pc)
  have e0 := hs3.cell 0
  have e1 := hs3.cell 1
  have e2 := hs3.cell 2
  simp at e0 e1 e2
  have HBo := Lib.hid (((HB4.out.set (w.heap.size + 1 + 1) 0 (.slice xA xn xc) (by omega)).set (w.heap.size + 1 + 1) 1 (.slice (some ad) (hs.length - 1) (hs.length - 1)) (by omega)).set (w.heap.size + 1 + 1) 2 (.slice pA pn pc) (by omega))
  clear hs3
  go_wp2_with fail
  have hS := (Sub.bl (HBo.out.only G)).trans (Sub.mono (gor_l G w))
  refine bodyPost_ret (v := .tuple #[.agg #[.slice xA xn xc, .slice (some ad) (hs.length - 1) (hs.length - 1), .slice pA pn pc], .int .i64 0]) (by simp [results, Tryz.results20, go_sem, e0, e1, e2]) rfl ⟨_, rfl, ⟨_, _, _, rfl, LnIs.sub hS HLast.out, ⟨_, hS.is (hI1 _ HIS.out), ?_⟩, ?_⟩, HBo.out⟩
  · have := LnsRows.sub hS (HROWS.out.take (hs.length - 1))
    have hq : m.undo.length - 1 = hs.length - 1 := by rw [HROWS.out.1]
    change LnsRows _ _ (m.undo.take (m.undo.length - 1))
    rw [hq]; exact this
  · have := LnsIs.sub ((sub_set3 (.slice xA xn xc) (.slice (some ad) (hs.length - 1) (hs.length - 1)) (.slice pA pn pc) HGF.out).trans (Sub.mono (fun b hb => by have := HBD.out.size; simp only [gor, cap, Bool.or_eq_true, Bool.and_eq_true, decide_eq_true_eq] at hb; show (G b || decide (w.heap.size ≤ b)) = true; rw [Bool.or_eq_true, decide_eq_true_eq]; rcases hb with ⟨h, _⟩ | h; exact Or.inl h; exact Or.inr (by omega)))) HP.out
    exact this

set_option maxRecDepth 100000 in
set_option maxHeartbeats 1000000 in
theorem hap20_redo (G : Nat → Bool) (m : HistM) (hv rv : Value) (r : Rec) (w : World) (h : RHIs (only w G) hv m) (hr : RecIs w rv r) (hk : r.kind = 5) (hval : validRec r = true) (hu : 0 < m.redo.length) (hn : m.redo.length ≤ 4) (hn' : m.undo.length ≤ 4) :
    Calls Tryz.prog 20 #[hv, rv] w fun e w' => ∃ u, e = .returned (.tuple #[u, .int .i64 0]) ∧ RHIs (only w' (gor G w)) u (redoM m hu) ∧ Bl w w' := by
  have HKK := Lib.hid hk
  have HUU := Lib.hid hu
  have HN := Lib.hid hn
  have HN' := Lib.hid hn'
  clear hk hn hn'
  have HR := Lib.hid hr
  have HH := Lib.hid h
  have HV := Lib.hid hval
  obtain ⟨a, b, c, rfl, h1, h2, h3⟩ := h
  obtain ⟨u2, rfl, hl⟩ := hr
  obtain ⟨A, nl, ca, rfl⟩ : ∃ A' n' c', u2 = .slice A' n' c' := by obtain ⟨A', c', e', _⟩ := hl; exact ⟨A', _, c', e'⟩
  obtain ⟨Aa, na, cca, rfl⟩ : ∃ A' n' c', a = .slice A' n' c' := by obtain ⟨A', c', e'⟩ := h1.slice; exact ⟨A', _, c', e'⟩
  obtain ⟨Ab, nb, ccb, rfl⟩ : ∃ A' n' c', b = .slice A' n' c' := by obtain ⟨A', c', e'⟩ := h2.slice; exact ⟨A', _, c', e'⟩
  obtain ⟨Ac, nc, ccc, rfl⟩ : ∃ A' n' c', c = .slice A' n' c' := by obtain ⟨A', c', e'⟩ := h3.slice; exact ⟨A', _, c', e'⟩
  have H1 := Lib.hid h1
  have H2 := Lib.hid h2
  have H3 := Lib.hid h3
  have HNB := Lib.hid (show nb = m.undo.length by obtain ⟨A', c', e'⟩ := h2.slice; simp at e'; exact e'.2.1)
  have HNC := Lib.hid (show nc = m.redo.length by obtain ⟨A', c', e'⟩ := h3.slice; simp at e'; exact e'.2.1)
  obtain ⟨kk, t, f, o, l⟩ := r
  have hur := Tryz.underlying46
  have huh := Tryz.underlying30
  clear h1 h2 h3 hval hl
  go_enter Tryz.func20, Tryz.ntmps20
  go_wp2_with fail
  refine (rvalidR_any _ ⟨kk, t, f, o, l⟩ _ (HR.out.bl ((((Bl.refl _).alloc _).alloc _).alloc _))).mono ?_
  rintro e w1 ⟨rfl, hb⟩
  rw [HV.out]
  have b1 := (((Blk.new w #[.slice Aa na cca, .slice Ab nb ccb, .slice Ac nc ccc] 30).bl ((Bl.refl _).alloc _)).bl ((Bl.refl _).alloc _)).bl hb
  have b2 := ((Blk.new (w.alloc (.cells #[.slice Aa na cca, .slice Ab nb ccb, .slice Ac nc ccc] 30)) #[.int .i64 kk, .int .i64 t, .int .i64 f, .int .i64 o, .slice A nl ca] 46).bl ((Bl.refl _).alloc _)).bl hb
  have b3 := (Blk.new ((w.alloc (.cells #[.slice Aa na cca, .slice Ab nb ccb, .slice Ac nc ccc] 30)).alloc (.cells #[.int .i64 kk, .int .i64 t, .int .i64 f, .int .i64 o, .slice A nl ca] 46)) #[.slice none 0 0, .slice none 0 0, .slice none 0 0] 30).bl hb
  rw [alloc_size] at b2 b3
  rw [alloc_size] at b3
  have HB := Lib.hid (((((Bl.refl w).alloc (.cells #[.slice Aa na cca, .slice Ab nb ccb, .slice Ac nc ccc] 30)).alloc (.cells #[.int .i64 kk, .int .i64 t, .int .i64 f, .int .i64 o, .slice A nl ca] 46)).alloc (.cells #[.slice none 0 0, .slice none 0 0, .slice none 0 0] 30)).bl hb)
  have B1 := Lib.hid b1
  have B2 := Lib.hid b2
  have B3 := Lib.hid b3
  have c0 := b1.cell 0
  have c1 := b1.cell 1
  have c2 := b1.cell 2
  have f0 := b3.frozen 0
  have f1 := b3.frozen 1
  have f2 := b3.frozen 2
  have z0 := b3.cell 0
  have z1 := b3.cell 1
  have z2 := b3.cell 2
  have d0 := b2.cell 0
  have d1 := b2.cell 1
  have d2 := b2.cell 2
  have d3 := b2.cell 3
  have d4 := b2.cell 4
  simp at c0 c1 c2 z0 z1 z2 d0 d1 d2 d3 d4
  clear hb b1 b2 b3
  obtain rfl : kk = 5 := HKK.out
  obtain ⟨hs, hIs, hrows⟩ := H3.out
  have HIS := Lib.hid hIs
  obtain ⟨A0, cc0, e0, q0, q1, q2, hat⟩ := hIs
  simp at e0
  obtain ⟨rfl, rfl, rfl⟩ := e0
  have hl0 : 0 < hs.length := by have := HUU.out; have := HNC.out; omega
  obtain ⟨ad, rfl, hc⟩ := head_at ((Sub.un w G).at hat) (hs.length - 1) (by omega)
  have hlast := hrows.2 (hs.length - 1) (m.redo[m.redo.length - 1]'(by omega)) (hs[hs.length - 1]'(by omega)) (by rw [show hs.length - 1 = m.redo.length - 1 by rw [hrows.1]]; exact List.getElem?_eq_getElem _) (List.getElem?_eq_getElem _)
  obtain ⟨⟨xA, xn, xc⟩, hx⟩ : ∃ x, x = hs[hs.length - 1] := ⟨_, rfl⟩
  rw [← hx] at hc hlast
  simp only [Head.v] at hc hlast
  have hc1 := HB.out.cell hc
  have hblk := Lib.hid (World.block_lt_of_cell? w _ hc)
  obtain ⟨hV1, hI1⟩ := slice_full (E := headE) (P := Tryz.prog) (t := 28) (by kernel_rfl) (fun w => by kernel_rfl) (some ad) ccc hs (hs.length - 1) (by omega) q0
  have hcast : ((hs.length - 1 : Nat) : Int) = (hs.length : Int) - 1 := by omega
  rw [hcast] at hV1
  have hw : IntKind.i64.wrap ((hs.length : Int) - 1) = (hs.length : Int) - 1 := IntWalk.i64_in _ (by have := HN.out; have := HNC.out; omega)
  have hz : ((hs.length : Int) - 1).toNat = hs.length - 1 := by omega
  have hz1 : (0 : Int) ≤ (hs.length : Int) - 1 := by omega
  have hz2 : (hs.length : Int) - 1 < hs.length := by omega
  have hz3 : (1 : Int) ≤ hs.length := by omega
  have hu0 : ((hs.length : Int) == 0) = false := by rw [beq_eq_false_iff_ne]; omega
  have HLast := Lib.hid hlast
  have HROWS := Lib.hid hrows
  have HAT := Lib.hid hat
  clear hcast hx hlast hrows hat hc q0 q1 q2
  go_wp2_with fail
  refine wp_region_ways (S := (fun w' => w'.cell? (ad.add (hs.length - 1)) = some (.slice xA xn xc) ∧ w'.cell? ⟨w.heap.size, 0, none⟩ = some (.slice Aa na cca) ∧ w'.cell? ⟨w.heap.size, 2, none⟩ = some (.slice (some ad) hs.length ccc) ∧ w'.cell? ⟨w.heap.size, 1, none⟩ = some (.slice Ab nb ccb))) [0, 1, 2, 3, 4, 5, 6, 7, 8, 9, 11, 12, 13, 14, 15, 16, 17, 18, 20] (y := .take 0 (.take 1 (.take 2 (.take 3 (.take 4 (.take 5 (.take 6 (.take 7 (.take 8 (.take 9 (.take 11 (.take 12 (.take 13 (.take 14 (.take 15 (.take 16 (.take 17 (.ev 10 (.take 18 (.ev 19 (.take 20 (.done)) (.stop))) (.stop))))))))))))))))))) (by kernel_rfl) (by kernel_rfl) (by kernel_rfl) ?_ (fun hHeld => ?_)
  · exact ⟨Bl.cell (Bl.refl _).drew hc1, Bl.cell (Bl.refl _).drew c0, Bl.cell (Bl.refl _).drew c2, Bl.cell (Bl.refl _).drew c1⟩
  have HHe := Lib.hid hHeld
  repeat (first | (refine wpWay_take rfl (by rfl) (by intro w hSw; (try dsimp only at hSw); first | (go_simp; done) | (go_simp; with_reducible rfl)) ?_; try simp only [Act.put, List.setIfInBounds_toArray, List.set_cons_zero, List.set_cons_succ]) | (refine wpWay_skip rfl (by rfl) ?_; try simp only [Act.put, List.setIfInBounds_toArray, List.set_cons_zero, List.set_cons_succ]))
  clear hHeld
  refine wpWay_ev rfl (fun K hK => ?_) wpWay_stop
  have HBD := Lib.hid HB.out.drew
  have B3D := Lib.hid (B3.out.bl (Bl.refl w1).drew)
  clear z0 z1 z2 f0 f1 f2 c0 c1 c2 hc1 d0 d1 d2 d3 d4
  go_wp2_with fail
  refine (rpush_G (cap G w) _ _ m.undo m.now _ (LnsIs.sub ((Sub.cap w G).trans (Sub.bl (HBD.out.only _))) H2.out) (LnIs.sub ((Sub.cap w G).trans (Sub.bl (HBD.out.only _))) H1.out) HN'.out).mono ?_
  rintro e w3 ⟨pv, rfl, hp, hb⟩
  obtain ⟨pA, pn, pc, rfl⟩ : ∃ A' n' c', pv = .slice A' n' c' := by obtain ⟨A', c', e'⟩ := hp.slice; exact ⟨A', _, c', e'⟩
  have hgf : gor (cap G w) w1.drew (w.heap.size + 1 + 1) = false := by
    have := HB.out.size
    have h3 := B3.out.lt
    have h4 : w1.drew.heap.size = w1.heap.size := rfl
    unfold gor cap
    rw [decide_eq_false (by omega), decide_eq_false (by omega)]; simp
  have HGF := Lib.hid hgf
  clear hgf
  have HP := Lib.hid hp
  have HB4 := Lib.hid (HBD.out.bl hb)
  have b3 := B3D.out.bl hb
  have B4 := Lib.hid b3
  have z0 := b3.cell 0
  have z1 := b3.cell 1
  have z2 := b3.cell 2
  have f0 := b3.frozen 0
  have f1 := b3.frozen 1
  have f2 := b3.frozen 2
  simp at z0 z1 z2
  have hh := And.intro (hb.cell HHe.out.1) (And.intro (hb.cell HHe.out.2.1) (And.intro (hb.cell HHe.out.2.2.1) (hb.cell HHe.out.2.2.2)))
  clear hp hb b3
  go_wp2_with fail
  refine ⟨hh, ?_⟩
  repeat (first | (refine wpWay_take rfl (by rfl) (by intro w hSw; (try dsimp only at hSw); first | (go_simp; done) | (go_simp; with_reducible rfl)) ?_; try simp only [Act.put, List.setIfInBounds_toArray, List.set_cons_zero, List.set_cons_succ]) | (refine wpWay_skip rfl (by rfl) ?_; try simp only [Act.put, List.setIfInBounds_toArray, List.set_cons_zero, List.set_cons_succ]))
  refine wpWay_ev rfl (fun K hK => ?_) wpWay_stop
  have HH5 := Lib.hid hh
  clear hh
  go_wp2_with fail
  refine ⟨⟨cell_set3 _ _ _ HH5.out.1 (by have := hblk.out; omega), cell_set3 _ _ _ HH5.out.2.1 (by dsimp only; omega), cell_set3 _ _ _ HH5.out.2.2.1 (by dsimp only; omega), cell_set3 _ _ _ HH5.out.2.2.2 (by dsimp only; omega)⟩, ?_⟩
  repeat (first | (refine wpWay_take rfl (by rfl) (by intro w hSw; (try dsimp only at hSw); first | (go_simp; done) | (go_simp; with_reducible rfl)) ?_; try simp only [Act.put, List.setIfInBounds_toArray, List.set_cons_zero, List.set_cons_succ]) | (refine wpWay_skip rfl (by rfl) ?_; try simp only [Act.put, List.setIfInBounds_toArray, List.set_cons_zero, List.set_cons_succ]))
  refine wpWay_done ?_
  have hs3 := ((B4.out.set 0 (.slice xA xn xc)).set 1 (.slice pA pn pc)).set 2 (.slice (some ad) (hs.length - 1) (hs.length - 1))
  have e0 := hs3.cell 0
  have e1 := hs3.cell 1
  have e2 := hs3.cell 2
  simp at e0 e1 e2
  have HBo := Lib.hid (((HB4.out.set (w.heap.size + 1 + 1) 0 (.slice xA xn xc) (by omega)).set (w.heap.size + 1 + 1) 1 (.slice pA pn pc) (by omega)).set (w.heap.size + 1 + 1) 2 (.slice (some ad) (hs.length - 1) (hs.length - 1)) (by omega))
  clear hs3
  go_wp2_with fail
  have hS := (Sub.bl (HBo.out.only G)).trans (Sub.mono (gor_l G w))
  refine bodyPost_ret (v := .tuple #[.agg #[.slice xA xn xc, .slice pA pn pc, .slice (some ad) (hs.length - 1) (hs.length - 1)], .int .i64 0]) (by simp [results, Tryz.results20, go_sem, e0, e1, e2]) rfl ⟨_, rfl, ⟨_, _, _, rfl, LnIs.sub hS HLast.out, ?_, ⟨_, hS.is (hI1 _ HIS.out), ?_⟩⟩, HBo.out⟩
  · have := LnsIs.sub ((sub_set3 (.slice xA xn xc) (.slice pA pn pc) (.slice (some ad) (hs.length - 1) (hs.length - 1)) HGF.out).trans (Sub.mono (fun b hb => by have := HBD.out.size; simp only [gor, cap, Bool.or_eq_true, Bool.and_eq_true, decide_eq_true_eq] at hb; show (G b || decide (w.heap.size ≤ b)) = true; rw [Bool.or_eq_true, decide_eq_true_eq]; rcases hb with ⟨h, _⟩ | h; exact Or.inl h; exact Or.inr (by omega)))) HP.out
    exact this
  · have := LnsRows.sub hS (HROWS.out.take (hs.length - 1))
    have hq : m.redo.length - 1 = hs.length - 1 := by rw [HROWS.out.1]
    change LnsRows _ _ (m.redo.take (m.redo.length - 1))
    rw [hq]; exact this
end Go.Proofs.YtddcjekkimajpaaGreat.ExtW

/- Contract of overdublaw21.Small: it gives a record. -/
namespace Go.Proofs.YtddcjekkimajpaaGreat.ExtW
open Go.RowKit Go.Ov Go.Proofs.YtddcjekkimajpaaGreat.Need

def zrec : Array Value := #[.int .i64 0, .int .i64 0, .int .i64 0, .int .i64 0, .slice none 0 0]
def SmallRes (w : World) (e : Ending) (w' : World) : Prop := ∃ u r', e = .returned u ∧ RecIs w' u r' ∧ Bl w w'
/-- a record in block B, its result's block behind it -/
def SmR (w wc : World) (B : Nat) : Prop := ∃ (k t f o : Int) (A : Option Addr) (n c : Nat) (l : List Ext), Blk wc B #[.int .i64 k, .int .i64 t, .int .i64 f, .int .i64 o, .slice A n c] 46 ∧
  Stab wc (some B) (fun w' => Stab w' (some (B + 1)) fun w'' => extE.Is w'' (.slice A n c) l) ∧ Blk wc (B + 1) zrec 46 ∧ Bl w wc ∧ w.heap.size = B

set_option maxRecDepth 100000 in
set_option maxHeartbeats 2000000 in
theorem small21_any (v : Value) (r : Rec) (n : Int) (w : World) (h : RecIs w v r) (_hn : -9223372036854775808 ≤ n ∧ n ≤ 9223372036854775807) :
    Calls Tryz.prog 27 #[v, .int .i64 n] w (SmallRes w) := by
  have HR := Lib.hid h
  obtain ⟨u, rfl, hl⟩ := h
  have HL := Lib.hid hl
  obtain ⟨A, c, rfl, q1, q2, q3, _⟩ := hl
  have hu := Tryz.underlying46
  by_cases h7 : Int.tmod n 7 = 6
  · have h71 : (Int.tmod n 7 == 6) = true := by rw [h7]; rfl
    clear h7
    go_enter Tryz.func27, Tryz.ntmps27
    go_wp2_with fail
    refine (kcutExt_ex A r.l.length c 4 _ q1 q2 q3 (by decide)).mono ?_
    rintro e w1 ⟨rfl, rfl⟩
    have HT := Lib.hid (Enc.Is.take HL.out 4)
    go_wp2_with fail
    refine bodyPost_ret (v := .agg #[.int .i64 r.kind, .int .i64 r.track, .int .i64 r.fr, .int .i64 r.tt, .slice A (min r.l.length 4) c]) (by simp [results, Tryz.results27, go_sem]) rfl ⟨_, ⟨r.kind, r.track, r.fr, r.tt, r.l.take 4⟩, rfl, ⟨_, rfl, HT.out.bl ?_⟩, ?_⟩
    · exact ((Bl.refl w).alloc _).alloc _
    · exact ((Bl.refl w).alloc _).alloc _
  · have h71 : (Int.tmod n 7 == 6) = false := by simpa using h7
    clear h7
    go_enter Tryz.func27, Tryz.ntmps27
    go_wp2_with fail
    refine (right_any _ r _ (HR.out.bl (((Bl.refl _).alloc _).alloc _))).mono ?_
    rintro e w1 ⟨ur, rfl, ⟨u2, rfl, ho⟩, hb⟩
    obtain ⟨A2, c2, rfl⟩ := ho.slice
    have HW := Lib.hid ((((Bl.refl w).alloc (.cells #[.int .i64 r.kind, .int .i64 r.track, .int .i64 r.fr, .int .i64 r.tt, .slice A r.l.length c] 46)).alloc (.cells zrec 46)).bl hb)
    have HK := Lib.hid (((Blk.new w #[.int .i64 r.kind, .int .i64 r.track, .int .i64 r.fr, .int .i64 r.tt, .slice A r.l.length c] 46).bl ((Bl.refl _).alloc (.cells zrec 46))).bl hb)
    have hz := (Blk.new (w.alloc (.cells #[.int .i64 r.kind, .int .i64 r.track, .int .i64 r.fr, .int .i64 r.tt, .slice A r.l.length c] 46)) zrec 46).bl hb
    rw [show (w.alloc (.cells #[.int .i64 r.kind, .int .i64 r.track, .int .i64 r.fr, .int .i64 r.tt, .slice A r.l.length c] 46)).heap.size = w.heap.size + 1 by simp] at hz
    have HZ := Lib.hid hz
    generalize rightM r = rr at *
    obtain ⟨rk, rt, rf, ro, rl⟩ := rr
    dsimp only at ho
    have hS : Stab w1 (some w.heap.size) (fun w' => Stab w' (some (w.heap.size + 1)) fun w'' => extE.Is w'' (.slice A2 rl.length c2) rl) :=
      (Stab.own2 ho (fun g hg => by injection hg with hg; simp; omega) (by simp)).mono fun w' h => h.mono fun w'' h => h.is
    have HS := Lib.hid hS
    obtain ⟨n2, hn2⟩ : ∃ n2, n2 = rl.length := ⟨_, rfl⟩
    rw [← hn2] at HS
    rw [← hn2]
    clear ho hb hz hS hn2
    have f0 := HK.out.frozen 0
    have f1 := HK.out.frozen 1
    have f2 := HK.out.frozen 2
    have f3 := HK.out.frozen 3
    have f4 := HK.out.frozen 4
    have g0 := HK.out.cell 0
    have g1 := HK.out.cell 1
    have g2 := HK.out.cell 2
    have g3 := HK.out.cell 3
    have g4 := HK.out.cell 4
    have l1 := HK.out.lt
    simp at g0 g1 g2 g3 g4
    go_upto_region 5 with fail
    go_cut [] (fun wc => Hid (SmR w wc w.heap.size))
    case first =>
      go_wp2_with fail
      refine (within_any _ _ _ (by decide)).mono ?_
      rintro e x2 ⟨rfl, rfl⟩
      go_wp2_with fail
      clear f0 f1 f2 f3 f4 g0 g1 g2 g3 g4
      go_meet
      exact Lib.hid ⟨rk, _, rf, ro, A2, n2, c2, rl, by simpa using (((((HK.out.set 0 (.int .i64 rk)).set 1 (.int .i64 rt)).set 2 (.int .i64 rf)).set 3 (.int .i64 ro)).set 4 (.slice A2 n2 c2)).set 1 (.int .i64 (within rt 8)), (((((HS.out.set 0 _).set 1 _).set 2 _).set 3 _).set 4 _).set 1 _, (((((HZ.out.set_else _ _ _ (by omega)).set_else _ _ _ (by omega)).set_else _ _ _ (by omega)).set_else _ _ _ (by omega)).set_else _ _ _ (by omega)).set_else _ _ _ (by omega), (((((HW.out.set _ _ _ (Nat.le_refl _)).set _ _ _ (Nat.le_refl _)).set _ _ _ (Nat.le_refl _)).set _ _ _ (Nat.le_refl _)).set _ _ _ (Nat.le_refl _)).set _ _ _ (Nat.le_refl _), rfl⟩
    case rest =>
    clear f0 f1 f2 f3 f4 g0 g1 g2 g3 g4
    clear HK HS HZ HW
    obtain ⟨wy, hwy⟩ : ∃ wy : World, wy = wc := ⟨_, rfl⟩
    subst hwy
    have hSm := hcut.out
    clear hcut
    obtain ⟨k, t, f, o, A1, n1, c1, l, hk, hs, hz, hw, _⟩ := hSm
    have HK := Lib.hid hk
    have HS := Lib.hid hs
    have HZ := Lib.hid hz
    have HW := Lib.hid hw
    clear hk hs hz hw
    go_upto_region 6 with fail
    go_cut [] (fun wc => Hid (SmR w wc w.heap.size))
    case first =>
      obtain ⟨A', c', e3, q1', q2', q3', _⟩ := id HS.out.here.here
      simp only [Value.slice.injEq] at e3
      obtain ⟨rfl, rfl, rfl⟩ := e3
      have f0 := HK.out.frozen 0
      have f1 := HK.out.frozen 1
      have f2 := HK.out.frozen 2
      have f3 := HK.out.frozen 3
      have f4 := HK.out.frozen 4
      have g0 := HK.out.cell 0
      have g1 := HK.out.cell 1
      have g2 := HK.out.cell 2
      have g3 := HK.out.cell 3
      have g4 := HK.out.cell 4
      have l1 := HK.out.lt
      simp at g0 g1 g2 g3 g4
      go_wp2_with fail
      refine (kcutExt_ex _ _ _ 6 _ q1' q2' q3' (by decide)).mono ?_
      rintro e x2 ⟨rfl, rfl⟩
      go_wp2_with fail
      clear f0 f1 f2 f3 f4 g0 g1 g2 g3 g4
      go_meet
      exact Lib.hid ⟨k, t, f, o, A1, _, c1, l.take 6, by simpa using HK.out.set 4 (.slice A1 (min l.length 6) c1), (HS.out.set 4 _).mono fun w' h => h.mono fun w'' h => Enc.Is.take h 6, HZ.out.set_else _ _ _ (by omega), HW.out.set _ _ _ (Nat.le_refl _), rfl⟩
    case rest =>
    clear HK HS HZ HW
    obtain ⟨wy, hwy⟩ : ∃ wy : World, wy = wc := ⟨_, rfl⟩
    subst hwy
    have hSm := hcut.out
    clear hcut
    obtain ⟨k, t, f, o, A1, n1, c1, l, hk, hs, hz, hw, _⟩ := hSm
    have HK := Lib.hid hk
    have HS := Lib.hid hs
    have HZ := Lib.hid hz
    have HW := Lib.hid hw
    clear hk hs hz hw
    have f0 := HK.out.frozen 0
    have f1 := HK.out.frozen 1
    have f2 := HK.out.frozen 2
    have f3 := HK.out.frozen 3
    have f4 := HK.out.frozen 4
    have g0 := HK.out.cell 0
    have g1 := HK.out.cell 1
    have g2 := HK.out.cell 2
    have g3 := HK.out.cell 3
    have g4 := HK.out.cell 4
    have l1 := HK.out.lt
    simp at g0 g1 g2 g3 g4
    go_upto_if 25 with (fail)
    go_cut [] (fun wc => Hid (SmR w wc w.heap.size))
    case first =>
      by_cases hk4 : 4 ≤ k
      · go_wp2_with fail
        clear f0 f1 f2 f3 f4 g0 g1 g2 g3 g4
        go_meet
        exact Lib.hid ⟨k, 0, f, o, A1, n1, c1, l, by simpa using HK.out.set 1 (.int .i64 0), HS.out.set 1 _, HZ.out.set_else _ _ _ (by omega), HW.out.set _ _ _ (Nat.le_refl _), rfl⟩
      · go_wp2_with fail
        clear f0 f1 f2 f3 f4 g0 g1 g2 g3 g4
        go_meet
        exact Lib.hid ⟨k, t, f, o, A1, n1, c1, l, HK.out, HS.out, HZ.out, HW.out, rfl⟩
    case rest =>
    clear f0 f1 f2 f3 f4 g0 g1 g2 g3 g4
    clear HK HS HZ HW
    obtain ⟨wy, hwy⟩ : ∃ wy : World, wy = wc := ⟨_, rfl⟩
    subst hwy
    have hSm := hcut.out
    clear hcut
    obtain ⟨k, t, f, o, A1, n1, c1, l, hk, hs, hz, hw, _⟩ := hSm
    have HK := Lib.hid hk
    have HS := Lib.hid hs
    have HZ := Lib.hid hz
    have HW := Lib.hid hw
    clear hk hs hz hw
    go_upto_region 9 with fail
    go_cut [34] (fun v34 wc => ∃ q : Bool, v34 = .bool q ∧ wc = wy)
    case first =>
      have f0 := HK.out.frozen 0
      have f1 := HK.out.frozen 1
      have f2 := HK.out.frozen 2
      have f3 := HK.out.frozen 3
      have f4 := HK.out.frozen 4
      have g0 := HK.out.cell 0
      have g1 := HK.out.cell 1
      have g2 := HK.out.cell 2
      have g3 := HK.out.cell 3
      have g4 := HK.out.cell 4
      have l1 := HK.out.lt
      simp at g0 g1 g2 g3 g4
      by_cases hk3 : k = 3
      · subst hk3
        go_wp2_with fail
        go_meet
        exact ⟨_, rfl, rfl⟩
      · have e3 : (k == 3) = false := by simpa using hk3
        clear hk3
        go_wp2_with fail
        go_meet
        exact ⟨_, rfl, rfl⟩
    case rest =>
    obtain ⟨q, rfl, rfl⟩ := hcut
    go_upto_if 34 with (fail)
    go_cut [] (fun wc => Hid (SmR w wc w.heap.size))
    case first =>
      cases q with
      | false =>
        go_wp2_with fail
        go_meet
        exact Lib.hid ⟨k, t, f, o, A1, n1, c1, l, HK.out, HS.out, HZ.out, HW.out, rfl⟩
      | true =>
        go_wp2_with fail
        refine wp_region_ways (S := (fun w' => w'.cell? ⟨w.heap.size, 0, none⟩ = some (.int .i64 k))) [0, 3, 6, 7, 9] (y := .take 0 (.take 3 (.ev 1 (.ev 2 (.ev 4 (.take 7 (.ev 5 (.take 6 (.ev 8 (.take 9 (.ev 10 (.done) (.stop))) (.stop))) (.stop))) (.stop)) (.ev 4 (.ev 2 (.take 7 (.ev 5 (.take 6 (.ev 8 (.take 9 (.ev 10 (.done) (.stop))) (.stop))) (.stop))) (.stop)) (.stop))) (.ev 4 (.ev 1 (.ev 2 (.take 7 (.ev 5 (.take 6 (.ev 8 (.take 9 (.ev 10 (.done) (.stop))) (.stop))) (.stop))) (.stop)) (.stop)) (.stop))))) (by kernel_rfl) (by kernel_rfl) (by kernel_rfl) ?_ (fun hHeld => ?_)
        · exact (HK.out.bl (Bl.refl _).drew).cell 0
        repeat (first | (refine wpWay_take rfl (by rfl) (by intro w hSw; (try dsimp only at hSw); first | (go_simp; done) | (go_simp; with_reducible rfl)) ?_; try simp only [Act.put, List.setIfInBounds_toArray, List.set_cons_zero, List.set_cons_succ]) | (refine wpWay_skip rfl (by rfl) ?_; try simp only [Act.put, List.setIfInBounds_toArray, List.set_cons_zero, List.set_cons_succ]))
        have HKd := Lib.hid (HK.out.bl (Bl.refl _).drew)
        have f0 := HK.out.frozen 0
        have f1 := HK.out.frozen 1
        have f2 := HK.out.frozen 2
        have f3 := HK.out.frozen 3
        have f4 := HK.out.frozen 4
        have g0 := HK.out.cell 0
        have g1 := HK.out.cell 1
        have g2 := HK.out.cell 2
        have g3 := HK.out.cell 3
        have g4 := HK.out.cell 4
        have l1 := HK.out.lt
        simp at g0 g1 g2 g3 g4
        clear hHeld
        have hw := within_bd o 200 (by decide)
        refine wpWay_ev rfl (fun K hK => ?_) ?_
        · go_wp2_with fail
          refine ⟨HKd.out.cell 0, ?_⟩
          repeat (first | (refine wpWay_take rfl (by rfl) (by intro w hSw; (try dsimp only at hSw); first | (go_simp; done) | (go_simp; with_reducible rfl)) ?_; try simp only [Act.put, List.setIfInBounds_toArray, List.set_cons_zero, List.set_cons_succ]) | (refine wpWay_skip rfl (by rfl) ?_; try simp only [Act.put, List.setIfInBounds_toArray, List.set_cons_zero, List.set_cons_succ]))
          refine wpWay_ev rfl (fun K hK => ?_) ?_
          · go_wp2_with fail
            refine (within_any _ _ _ (by decide)).mono ?_
            rintro e x2 ⟨rfl, rfl⟩
            go_wp2_with fail
            refine ⟨HKd.out.cell 0, ?_⟩
            repeat (first | (refine wpWay_take rfl (by rfl) (by intro w hSw; (try dsimp only at hSw); first | (go_simp; done) | (go_simp; with_reducible rfl)) ?_; try simp only [Act.put, List.setIfInBounds_toArray, List.set_cons_zero, List.set_cons_succ]) | (refine wpWay_skip rfl (by rfl) ?_; try simp only [Act.put, List.setIfInBounds_toArray, List.set_cons_zero, List.set_cons_succ]))
            refine wpWay_ev rfl (fun K hK => ?_) wpWay_stop
            go_wp2_with fail
            refine ⟨HKd.out.cell 0, ?_⟩
            repeat (first | (refine wpWay_take rfl (by rfl) (by intro w hSw; (try dsimp only at hSw); first | (go_simp; done) | (go_simp; with_reducible rfl)) ?_; try simp only [Act.put, List.setIfInBounds_toArray, List.set_cons_zero, List.set_cons_succ]) | (refine wpWay_skip rfl (by rfl) ?_; try simp only [Act.put, List.setIfInBounds_toArray, List.set_cons_zero, List.set_cons_succ]))
            refine wpWay_ev rfl (fun K hK => ?_) wpWay_stop
            go_wp2_with fail
            refine (within_any _ _ _ (by decide)).mono ?_
            rintro e x2 ⟨rfl, rfl⟩
            go_wp2_with fail
            refine ⟨HKd.out.cell 0, ?_⟩
            repeat (first | (refine wpWay_take rfl (by rfl) (by intro w hSw; (try dsimp only at hSw); first | (go_simp; done) | (go_simp; with_reducible rfl)) ?_; try simp only [Act.put, List.setIfInBounds_toArray, List.set_cons_zero, List.set_cons_succ]) | (refine wpWay_skip rfl (by rfl) ?_; try simp only [Act.put, List.setIfInBounds_toArray, List.set_cons_zero, List.set_cons_succ]))
            refine wpWay_ev rfl (fun K hK => ?_) wpWay_stop
            go_wp2_with fail
            refine ⟨((HK.out.set 2 _).bl (Bl.refl _).drew).cell 0, ?_⟩
            repeat (first | (refine wpWay_take rfl (by rfl) (by intro w hSw; (try dsimp only at hSw); first | (go_simp; done) | (go_simp; with_reducible rfl)) ?_; try simp only [Act.put, List.setIfInBounds_toArray, List.set_cons_zero, List.set_cons_succ]) | (refine wpWay_skip rfl (by rfl) ?_; try simp only [Act.put, List.setIfInBounds_toArray, List.set_cons_zero, List.set_cons_succ]))
            refine wpWay_ev rfl (fun K hK => ?_) wpWay_stop
            go_wp2_with fail
            refine And.intro ?_ ?_
            · have hq := (((HK.out.set 2 (.int .i64 (within f 60))).set 3 (.int .i64 (60 + within o 200))).bl (Bl.refl _).drew).cell 0
              simpa using hq
            refine wpWay_done ?_
            go_wp2_with fail
            clear f0 f1 f2 f3 f4 g0 g1 g2 g3 g4
            go_meet
            refine Lib.hid ⟨k, t, within f 60, 60 + within o 200, A1, n1, c1, l, ?_, ((HS.out.set 2 _).set 3 _).bl (Bl.refl _).drew, ((HZ.out.set_else _ _ _ (by omega)).set_else _ _ _ (by omega)).bl (Bl.refl _).drew, ((HW.out.set _ _ _ (Nat.le_refl _)).set _ _ _ (Nat.le_refl _)).drew, rfl⟩
            exact ((HK.out.set 2 _).set 3 _).bl (Bl.refl _).drew
          · refine wpWay_ev rfl (fun K hK => ?_) wpWay_stop
            go_wp2_with fail
            refine ⟨HKd.out.cell 0, ?_⟩
            repeat (first | (refine wpWay_take rfl (by rfl) (by intro w hSw; (try dsimp only at hSw); first | (go_simp; done) | (go_simp; with_reducible rfl)) ?_; try simp only [Act.put, List.setIfInBounds_toArray, List.set_cons_zero, List.set_cons_succ]) | (refine wpWay_skip rfl (by rfl) ?_; try simp only [Act.put, List.setIfInBounds_toArray, List.set_cons_zero, List.set_cons_succ]))
            refine wpWay_ev rfl (fun K hK => ?_) wpWay_stop
            go_wp2_with fail
            refine (within_any _ _ _ (by decide)).mono ?_
            rintro e x2 ⟨rfl, rfl⟩
            go_wp2_with fail
            refine ⟨HKd.out.cell 0, ?_⟩
            repeat (first | (refine wpWay_take rfl (by rfl) (by intro w hSw; (try dsimp only at hSw); first | (go_simp; done) | (go_simp; with_reducible rfl)) ?_; try simp only [Act.put, List.setIfInBounds_toArray, List.set_cons_zero, List.set_cons_succ]) | (refine wpWay_skip rfl (by rfl) ?_; try simp only [Act.put, List.setIfInBounds_toArray, List.set_cons_zero, List.set_cons_succ]))
            refine wpWay_ev rfl (fun K hK => ?_) wpWay_stop
            go_wp2_with fail
            refine (within_any _ _ _ (by decide)).mono ?_
            rintro e x2 ⟨rfl, rfl⟩
            go_wp2_with fail
            refine ⟨HKd.out.cell 0, ?_⟩
            repeat (first | (refine wpWay_take rfl (by rfl) (by intro w hSw; (try dsimp only at hSw); first | (go_simp; done) | (go_simp; with_reducible rfl)) ?_; try simp only [Act.put, List.setIfInBounds_toArray, List.set_cons_zero, List.set_cons_succ]) | (refine wpWay_skip rfl (by rfl) ?_; try simp only [Act.put, List.setIfInBounds_toArray, List.set_cons_zero, List.set_cons_succ]))
            refine wpWay_ev rfl (fun K hK => ?_) wpWay_stop
            go_wp2_with fail
            refine ⟨((HK.out.set 2 _).bl (Bl.refl _).drew).cell 0, ?_⟩
            repeat (first | (refine wpWay_take rfl (by rfl) (by intro w hSw; (try dsimp only at hSw); first | (go_simp; done) | (go_simp; with_reducible rfl)) ?_; try simp only [Act.put, List.setIfInBounds_toArray, List.set_cons_zero, List.set_cons_succ]) | (refine wpWay_skip rfl (by rfl) ?_; try simp only [Act.put, List.setIfInBounds_toArray, List.set_cons_zero, List.set_cons_succ]))
            refine wpWay_ev rfl (fun K hK => ?_) wpWay_stop
            go_wp2_with fail
            refine And.intro ?_ ?_
            · have hq := (((HK.out.set 2 (.int .i64 (within f 60))).set 3 (.int .i64 (60 + within o 200))).bl (Bl.refl _).drew).cell 0
              simpa using hq
            refine wpWay_done ?_
            go_wp2_with fail
            clear f0 f1 f2 f3 f4 g0 g1 g2 g3 g4
            go_meet
            refine Lib.hid ⟨k, t, within f 60, 60 + within o 200, A1, n1, c1, l, ?_, ((HS.out.set 2 _).set 3 _).bl (Bl.refl _).drew, ((HZ.out.set_else _ _ _ (by omega)).set_else _ _ _ (by omega)).bl (Bl.refl _).drew, ((HW.out.set _ _ _ (Nat.le_refl _)).set _ _ _ (Nat.le_refl _)).drew, rfl⟩
            exact ((HK.out.set 2 _).set 3 _).bl (Bl.refl _).drew
        · refine wpWay_ev rfl (fun K hK => ?_) wpWay_stop
          go_wp2_with fail
          refine ⟨HKd.out.cell 0, ?_⟩
          repeat (first | (refine wpWay_take rfl (by rfl) (by intro w hSw; (try dsimp only at hSw); first | (go_simp; done) | (go_simp; with_reducible rfl)) ?_; try simp only [Act.put, List.setIfInBounds_toArray, List.set_cons_zero, List.set_cons_succ]) | (refine wpWay_skip rfl (by rfl) ?_; try simp only [Act.put, List.setIfInBounds_toArray, List.set_cons_zero, List.set_cons_succ]))
          refine wpWay_ev rfl (fun K hK => ?_) wpWay_stop
          go_wp2_with fail
          refine ⟨HKd.out.cell 0, ?_⟩
          repeat (first | (refine wpWay_take rfl (by rfl) (by intro w hSw; (try dsimp only at hSw); first | (go_simp; done) | (go_simp; with_reducible rfl)) ?_; try simp only [Act.put, List.setIfInBounds_toArray, List.set_cons_zero, List.set_cons_succ]) | (refine wpWay_skip rfl (by rfl) ?_; try simp only [Act.put, List.setIfInBounds_toArray, List.set_cons_zero, List.set_cons_succ]))
          refine wpWay_ev rfl (fun K hK => ?_) wpWay_stop
          go_wp2_with fail
          refine (within_any _ _ _ (by decide)).mono ?_
          rintro e x2 ⟨rfl, rfl⟩
          go_wp2_with fail
          refine ⟨HKd.out.cell 0, ?_⟩
          repeat (first | (refine wpWay_take rfl (by rfl) (by intro w hSw; (try dsimp only at hSw); first | (go_simp; done) | (go_simp; with_reducible rfl)) ?_; try simp only [Act.put, List.setIfInBounds_toArray, List.set_cons_zero, List.set_cons_succ]) | (refine wpWay_skip rfl (by rfl) ?_; try simp only [Act.put, List.setIfInBounds_toArray, List.set_cons_zero, List.set_cons_succ]))
          refine wpWay_ev rfl (fun K hK => ?_) wpWay_stop
          go_wp2_with fail
          refine (within_any _ _ _ (by decide)).mono ?_
          rintro e x2 ⟨rfl, rfl⟩
          go_wp2_with fail
          refine ⟨HKd.out.cell 0, ?_⟩
          repeat (first | (refine wpWay_take rfl (by rfl) (by intro w hSw; (try dsimp only at hSw); first | (go_simp; done) | (go_simp; with_reducible rfl)) ?_; try simp only [Act.put, List.setIfInBounds_toArray, List.set_cons_zero, List.set_cons_succ]) | (refine wpWay_skip rfl (by rfl) ?_; try simp only [Act.put, List.setIfInBounds_toArray, List.set_cons_zero, List.set_cons_succ]))
          refine wpWay_ev rfl (fun K hK => ?_) wpWay_stop
          go_wp2_with fail
          refine ⟨((HK.out.set 2 _).bl (Bl.refl _).drew).cell 0, ?_⟩
          repeat (first | (refine wpWay_take rfl (by rfl) (by intro w hSw; (try dsimp only at hSw); first | (go_simp; done) | (go_simp; with_reducible rfl)) ?_; try simp only [Act.put, List.setIfInBounds_toArray, List.set_cons_zero, List.set_cons_succ]) | (refine wpWay_skip rfl (by rfl) ?_; try simp only [Act.put, List.setIfInBounds_toArray, List.set_cons_zero, List.set_cons_succ]))
          refine wpWay_ev rfl (fun K hK => ?_) wpWay_stop
          go_wp2_with fail
          refine And.intro ?_ ?_
          · have hq := (((HK.out.set 2 (.int .i64 (within f 60))).set 3 (.int .i64 (60 + within o 200))).bl (Bl.refl _).drew).cell 0
            simpa using hq
          refine wpWay_done ?_
          go_wp2_with fail
          clear f0 f1 f2 f3 f4 g0 g1 g2 g3 g4
          go_meet
          refine Lib.hid ⟨k, t, within f 60, 60 + within o 200, A1, n1, c1, l, ?_, ((HS.out.set 2 _).set 3 _).bl (Bl.refl _).drew, ((HZ.out.set_else _ _ _ (by omega)).set_else _ _ _ (by omega)).bl (Bl.refl _).drew, ((HW.out.set _ _ _ (Nat.le_refl _)).set _ _ _ (Nat.le_refl _)).drew, rfl⟩
          exact ((HK.out.set 2 _).set 3 _).bl (Bl.refl _).drew
    case rest =>
    clear HK HS HZ HW
    obtain ⟨wy, hwy⟩ : ∃ wy : World, wy = wc := ⟨_, rfl⟩
    subst hwy
    have hSm := hcut.out
    clear hcut
    obtain ⟨k, t, f, o, A1, n1, c1, l, hk, hs, hz, hw, _⟩ := hSm
    have HK := Lib.hid hk
    have HS := Lib.hid hs
    have HZ := Lib.hid hz
    have HW := Lib.hid hw
    clear hk hs hz hw
    have z0 := HZ.out.frozen 0
    have z1 := HZ.out.frozen 1
    have z2 := HZ.out.frozen 2
    have z3 := HZ.out.frozen 3
    have z4 := HZ.out.frozen 4
    have y0 := HZ.out.cell 0
    have y1 := HZ.out.cell 1
    have y2 := HZ.out.cell 2
    have y3 := HZ.out.cell 3
    have y4 := HZ.out.cell 4
    have ly := HZ.out.lt
    simp [zrec] at y0 y1 y2 y3 y4
    have f0 := HK.out.frozen 0
    have f1 := HK.out.frozen 1
    have f2 := HK.out.frozen 2
    have f3 := HK.out.frozen 3
    have f4 := HK.out.frozen 4
    have g0 := HK.out.cell 0
    have g1 := HK.out.cell 1
    have g2 := HK.out.cell 2
    have g3 := HK.out.cell 3
    have g4 := HK.out.cell 4
    have l1 := HK.out.lt
    simp at g0 g1 g2 g3 g4
    go_wp2_with fail
    clear f0 f1 f2 f3 f4 g0 g1 g2 g3 g4
    refine bodyPost_ret (v := .agg #[.int .i64 k, .int .i64 t, .int .i64 f, .int .i64 o, .slice A1 n1 c1]) (by simp [results, Tryz.results27, go_sem, y0, y1, y2, y3, y4]) rfl ⟨_, ⟨k, t, f, o, l⟩, rfl, ⟨_, rfl, ?_⟩, ?_⟩
    · exact (((((HS.out.here.set 0 _).set 1 _).set 2 _).set 3 _).set 4 _).here
    · exact ((((HW.out.set _ _ _ (Nat.le_succ _)).set _ _ _ (Nat.le_succ _)).set _ _ _ (Nat.le_succ _)).set _ _ _ (Nat.le_succ _)).set _ _ _ (Nat.le_succ _)
end Go.Proofs.YtddcjekkimajpaaGreat.ExtW

/- How arguments are opened that are records, rows of records, rows of rows of numbers. -/
namespace Go.Ov
open Go.RowKit Go.ChangeShapes Go.WideShapes Go.ChangeAt Go.Deep Go.Proofs

section
variable {H : Type} {enc : TypeId × Value → H} {w : World} {base : Nat} {spare : Nat → Bool} {held : Bool}

set_option maxRecDepth 100000 in
theorem trod_ints {fuel : Nat} {cs : List Value} {x : DataW H × List MemPlace} (h : DataW.trod enc Tryz.prog w base spare held fuel 23 cs = some x) :
    ∃ (h : Head) (l : List Int), cs = [h.v] ∧ h.n = l.length ∧ l.length ≤ h.cap ∧ h.cap ≤ maxLen ∧ (h.A = none → h.cap = 0) ∧ intE.At w h.A l := by
  obtain ⟨A, c, xs, e1, e2, e3, e4, e5, e6⟩ := trod_slice_rel (α := Int) (fun x cs => cs = [.int .i64 x]) Tryz.underlying23 (fun fuel cs x hx => by obtain ⟨n, hn, _⟩ := trod_int Tryz.underlying3 hx; exact ⟨n, hn⟩) h
  refine ⟨⟨A, xs.length, c⟩, xs, e1, rfl, e2, e3, e4, fun i x hx => ?_⟩
  obtain ⟨ad, cs', rfl, h1, rfl⟩ := e5 i x hx
  exact ⟨ad, rfl, h1⟩

set_option maxRecDepth 100000 in
theorem trod_exts {fuel : Nat} {cs : List Value} {x : DataW H × List MemPlace} (h : DataW.trod enc Tryz.prog w base spare held fuel 44 cs = some x) :
    ∃ (h : Head) (l : List Ext), cs = [h.v] ∧ h.n = l.length ∧ extE.Is w h.v l ∧ ∀ x ∈ l, inExt x := by
  obtain ⟨A, c, xs, e1, e2, e3, e4, e5, e6⟩ := trod_slice_rel (α := Ext) (fun x cs => cs = x.vals ∧ inExt x) Tryz.underlying44 (fun fuel cs x hx => trod_ext ⟨_, _, _, _, _, Tryz.underlying81, rfl, rfl, rfl, rfl, rfl, rfl, rfl, rfl, rfl, rfl⟩ Tryz.underlying3 (by kernel_rfl) (by kernel_rfl) hx) h
  refine ⟨⟨A, xs.length, c⟩, xs, e1, rfl, ⟨A, c, rfl, e2, e3, e4, fun i x hx => ?_⟩, fun x hx => ?_⟩
  · obtain ⟨ad, cs', rfl, h1, rfl, _⟩ := e5 i x hx
    rw [show Tryz.prog.cellsOf 81 = 5 by kernel_rfl] at h1
    exact ⟨ad, rfl, h1⟩
  · obtain ⟨i, hi⟩ := List.getElem?_of_mem hx
    obtain ⟨ad, cs', _, _, _, h2⟩ := e5 i x hi
    exact h2

set_option maxRecDepth 100000 in
theorem trod_rec {fuel : Nat} {cs : List Value} {x : DataW H × List MemPlace} (h : DataW.trod enc Tryz.prog w base spare held fuel 46 cs = some x) :
    ∃ (r : Rec) (u : Head), cs = [.int .i64 r.kind, .int .i64 r.track, .int .i64 r.fr, .int .i64 r.tt, u.v] ∧ extE.Is w u.v r.l ∧ inRec r := by
  obtain ⟨xs, n, _, rfl, hl, hlen, hf⟩ := DataW.trod_struct Tryz.underlying46 h
  rw [show Tryz.prog.cellsOf 46 = 5 by kernel_rfl] at hl
  match cs, hl with
  | [c0, c1, c2, c3, c4], _ =>
    have g0 : DataW.trod enc Tryz.prog w base spare held n 3 (([c0, c1, c2, c3, c4].drop 0).take (Tryz.prog.cellsOf 3)) = xs[0]? := hf 0 _ rfl
    have g1 : DataW.trod enc Tryz.prog w base spare held n 3 (([c0, c1, c2, c3, c4].drop 1).take (Tryz.prog.cellsOf 3)) = xs[1]? := hf 1 _ rfl
    have g2 : DataW.trod enc Tryz.prog w base spare held n 3 (([c0, c1, c2, c3, c4].drop 2).take (Tryz.prog.cellsOf 3)) = xs[2]? := hf 2 _ rfl
    have g3 : DataW.trod enc Tryz.prog w base spare held n 3 (([c0, c1, c2, c3, c4].drop 3).take (Tryz.prog.cellsOf 3)) = xs[3]? := hf 3 _ rfl
    have g4 : DataW.trod enc Tryz.prog w base spare held n 44 (([c0, c1, c2, c3, c4].drop 4).take (Tryz.prog.cellsOf 44)) = xs[4]? := hf 4 _ rfl
    have hc1 : Tryz.prog.cellsOf 3 = 1 := by kernel_rfl
    have hc2 : Tryz.prog.cellsOf 44 = 1 := by kernel_rfl
    have hx : xs.length = 5 := hlen
    rw [List.getElem?_eq_getElem (by omega)] at g0 g1 g2 g3 g4
    simp only [hc1, hc2, List.drop_zero, List.drop_succ_cons, List.take_succ_cons, List.take_zero] at g0 g1 g2 g3 g4
    obtain ⟨n0, h0, w0⟩ := trod_int Tryz.underlying3 g0
    obtain ⟨n1, h1, w1⟩ := trod_int Tryz.underlying3 g1
    obtain ⟨n2, h2, w2⟩ := trod_int Tryz.underlying3 g2
    obtain ⟨n3, h3, w3⟩ := trod_int Tryz.underlying3 g3
    obtain ⟨u, l, h4, _, h5, h6⟩ := trod_exts g4
    simp at h0 h1 h2 h3 h4
    subst h0; subst h1; subst h2; subst h3; subst h4
    exact ⟨⟨n0, n1, n2, n3, l⟩, u, rfl, h5, wf_bd w0, wf_bd w1, wf_bd w2, wf_bd w3, h6⟩

instance : Inhabited Head := ⟨⟨none, 0, 0⟩⟩
set_option maxRecDepth 100000 in
/-- a record -/
theorem open_arg_rec {r : Reach} {b0 : Nat} {v : Value} {d : DataW H} {p : List MemPlace} {ts : List TypeId} {ds : List (DataW H)} {j : Nat} (hv : Value.okWide Tryz.prog w r b0 46 v)
    (_ : (DataW.weightsEach Tryz.prog ts ds).all (· ≤ reachBytes) = true) (_ : ts[j]? = some 46) (_ : ds[j]? = some d)
    (h : DataW.Trod enc Tryz.prog w base spare held 46 v d p) : ∃ r, ArgRec w v r := by
  obtain ⟨cs, rfl, hsz⟩ := okWide_struct Tryz.underlying46 hv
  obtain ⟨fuel, hf⟩ := h
  obtain ⟨r, u, e, h1, h2⟩ := trod_rec hf
  refine ⟨r, ⟨u.v, ?_, h1⟩, h2⟩
  have e' : cs.toList = _ := e
  rw [show cs = (cs.toList).toArray by simp, e']

end
end Go.Ov

/- How a row of records comes in as an argument. -/
namespace Go.Ov
open Go.RowKit Go.ChangeShapes Go.WideShapes Go.ChangeAt Go.Deep Go.Proofs

def ArgRecs (w : World) (v : Value) (l : List Rec) : Prop := ∃ A c, v = .slice A l.length c ∧ l.length ≤ c ∧ c ≤ maxLen ∧
  ∀ i r, l[i]? = some r → ∃ ad u, A = some ad ∧ (w.cell? (ad.add (i * 5)) = some (.int .i64 r.kind) ∧ w.cell? ⟨(ad.add (i * 5)).block, (ad.add (i * 5)).off + 1, none⟩ = some (.int .i64 r.track) ∧
    w.cell? ⟨(ad.add (i * 5)).block, (ad.add (i * 5)).off + 2, none⟩ = some (.int .i64 r.fr) ∧ w.cell? ⟨(ad.add (i * 5)).block, (ad.add (i * 5)).off + 3, none⟩ = some (.int .i64 r.tt) ∧
    w.cell? ⟨(ad.add (i * 5)).block, (ad.add (i * 5)).off + 4, none⟩ = some (Head.v u)) ∧ extE.Is w u.v r.l ∧ inRec r
instance : Inhabited Rec := ⟨⟨0, 0, 0, 0, []⟩⟩
section
variable {H : Type} {enc : TypeId × Value → H} {w : World} {base : Nat} {spare : Nat → Bool} {held : Bool}
set_option maxRecDepth 100000 in
theorem open_arg_recs {r : Reach} {b0 : Nat} {v : Value} {d : DataW H} {p : List MemPlace} {ts : List TypeId} {ds : List (DataW H)} {j : Nat} (hv : Value.okWide Tryz.prog w r b0 22 v)
    (_ : (DataW.weightsEach Tryz.prog ts ds).all (· ≤ reachBytes) = true) (_ : ts[j]? = some 22) (_ : ds[j]? = some d)
    (h : DataW.Trod enc Tryz.prog w base spare held 22 v d p) : ∃ ls, ArgRecs w v ls := by
  obtain ⟨A0, n0, c0, rfl⟩ := okWide_slice Tryz.underlying22 hv
  obtain ⟨fuel, hf⟩ := h
  obtain ⟨A, c, xs, e1, e2, e3, e4, e5, e6⟩ := trod_slice_rel (α := Rec × Head) (fun x cs => cs = [.int .i64 x.1.kind, .int .i64 x.1.track, .int .i64 x.1.fr, .int .i64 x.1.tt, x.2.v] ∧ extE.Is w x.2.v x.1.l ∧ inRec x.1)
    Tryz.underlying22 (fun fuel cs x hx => by obtain ⟨r, u, h1⟩ := trod_rec hx; exact ⟨(r, u), h1⟩) hf
  simp [Value.cells] at e1
  obtain ⟨rfl, rfl, rfl⟩ := e1
  refine ⟨xs.map (·.1), A0, c0, by simp, by simpa using e2, e3, fun i x hx => ?_⟩
  rw [List.getElem?_map] at hx
  cases e : xs[i]? with
  | none => rw [e] at hx; cases hx
  | some y =>
    rw [e] at hx
    simp at hx; subst hx
    obtain ⟨ad, cs', rfl, h1, rfl, h2, h3⟩ := e5 i y e
    rw [show Tryz.prog.cellsOf 46 = 5 by kernel_rfl] at h1
    refine ⟨ad, y.2, rfl, ⟨?_, ?_, ?_, ?_, ?_⟩, h2, h3⟩
    · exact h1 0 _ rfl
    · rw [← add_at _ _ 1 (by decide)]; exact h1 1 _ rfl
    · rw [← add_at _ _ 2 (by decide)]; exact h1 2 _ rfl
    · rw [← add_at _ _ 3 (by decide)]; exact h1 3 _ rfl
    · rw [← add_at _ _ 4 (by decide)]; exact h1 4 _ rfl
end
end Go.Ov
