/- Contracts: slices.Equal at extents, slices.EqualFunc at tracks, state.Same. -/
import Derived.Test.YtddcjekkimajpaaStateSplices
namespace Go.Proofs.Ytddcjekkimajpaa.ExtW
open Go.RowKit Go.Ov Go.Proofs.Ytddcjekkimajpaa.Need

set_option maxRecDepth 100000 in
set_option maxHeartbeats 1000000 in
theorem equalExt_any (v u : Value) (a b : List Ext) (w : World) (h : extE.Is w v a) (h' : extE.Is w u b) :
    Calls Try.prog 47 #[v, u] w fun e w' => e = .returned (.bool (decide (a = b))) ∧ Bl w w' := by
  obtain ⟨A, c, rfl, h1, h2, h3, h4⟩ := h
  obtain ⟨A', c', rfl, h1', h2', h3', h4'⟩ := h'
  have HA := Lib.hid h4
  have HA' := Lib.hid h4'
  have hl : a.length ≤ 9223372036854775807 := by unfold maxLen at h2; omega
  have hl' : b.length ≤ 9223372036854775807 := by unfold maxLen at h2'; omega
  have hu := Try.underlying38
  clear h1 h2 h3 h4 h1' h2' h3' h4'
  by_cases hlen : a.length = b.length
  · go_enter Try.func47, Try.ntmps47
    go_wp2
    have HL := Lib.hid hlen
    clear hlen
    go_loopg [13] b.length (fun g i wr => ∃ k : Nat, k ≤ b.length ∧ g = b.length - k ∧ i = .int .i64 k ∧ Hid (a.take k = b.take k) ∧ Bl w wr)
    case atStart => exact ⟨0, by omega, rfl, rfl, Lib.hid rfl, Bl.refl _⟩
    case round =>
      obtain ⟨k, hk, rfl, rfl, heq, hbl⟩ := hrel
      have HB := Lib.hid hbl
      clear hbl
      by_cases hlt : k < b.length
      · have hlta : k < a.length := by have := HL.out; omega
        have hlti : (k : Int) < a.length := by omega
        have hlti2 : (k : Int) < b.length := by omega
        obtain ⟨ad, rfl, c0, c1, c2, c3, c4⟩ := ext_at (HA.out.bl HB.out) k hlta
        obtain ⟨ad', rfl, d0, d1, d2, d3, d4⟩ := ext_at (HA'.out.bl HB.out) k hlt
        have ta := Lib.hid (List.take_succ_eq_append_getElem hlta)
        have tb := Lib.hid (List.take_succ_eq_append_getElem hlt)
        have hne := Lib.hid (fun h : a = b => show a[k]'hlta = b[k]'hlt by simp [h])
        generalize a[k] = x at *
        generalize b[k] = y at *
        obtain ⟨x0, x1, x2, x3, x4⟩ := x
        obtain ⟨y0, y1, y2, y3, y4⟩ := y
        dsimp only at c0 c1 c2 c3 c4 d0 d1 d2 d3 d4
        have hqq := eq_ext x0 x1 x2 x3 x4 y0 y1 y2 y3 y4
        go_wp2_with fail
        go_quiet (fail)
        clear hqq
        cases hq : eqE ⟨x0, x1, x2, x3, x4⟩ ⟨y0, y1, y2, y3, y4⟩
        · go_wp2
          go_ret
          refine ⟨ret_bool ?_, HB.out.drewN _⟩
          symm; rw [decide_eq_false_iff_not]
          intro h; have := hne.out h; unfold eqE at hq; simp [this] at hq
        · have HQ := Lib.hid hq
          clear hq
          go_wp2
          go_roundg (b.length - (k + 1))
          case measure => omega
          case rel =>
            refine ⟨k + 1, by omega, rfl, by go_num, Lib.hid ?_, HB.out.drewN _⟩
            have hxy := HQ.out
            unfold eqE at hxy
            rw [ta.out, tb.out, heq.out, of_decide_eq_true hxy]
      · have hna : ¬ k < a.length := by have := HL.out; omega
        go_wp2
        go_ret
        refine ⟨ret_bool ?_, HB.out⟩
        symm; rw [decide_eq_true_eq]
        have h := heq.out
        have := HL.out
        rwa [List.take_of_length_le (by omega), List.take_of_length_le (by omega)] at h
  · have hd : decide (a = b) = false := decide_eq_false (fun h => hlen (by rw [h]))
    have HD := Lib.hid hd
    clear hd
    go_enter Try.func47, Try.ntmps47
    go_wp2
    go_ret
    exact ⟨ret_bool HD.out.symm, Bl.refl _⟩

set_option maxRecDepth 100000 in
set_option maxHeartbeats 1000000 in
theorem ssame1_any (i j : Int) (t t' : Nat) (m m' : TreeM) (w : World) (h : TreeIs w (.pointer (some ⟨t, 0, none⟩)) m) (h' : TreeIs w (.pointer (some ⟨t', 0, none⟩)) m')
    (hn : m.row.length * 40 ≤ 140737488355328) (hn' : m'.row.length * 40 ≤ 140737488355328) :
    Calls Try.prog 46 #[.agg #[.int .i64 i, .pointer (some ⟨t, 0, none⟩)], .agg #[.int .i64 j, .pointer (some ⟨t', 0, none⟩)]] w fun e w' => e = .returned (.bool (decide (i = j ∧ m.row = m'.row))) ∧ Bl w w' := by
  have HT := Lib.hid h
  have HT' := Lib.hid h'
  have HN := Lib.hid hn
  have HN' := Lib.hid hn'
  have hu := Try.underlying83
  clear h h' hn hn'
  by_cases he : i = j
  · subst he
    go_enter Try.func46, Try.ntmps46
    go_wp2_with fail
    have HB := Lib.hid ((((Bl.refl w).alloc (.cells #[.int .i64 i, .pointer (some ⟨t, 0, none⟩)] 83)).alloc (.cells #[.int .i64 i, .pointer (some ⟨t', 0, none⟩)] 83)).drew)
    have b1 := (Blk.new w #[.int .i64 i, .pointer (some ⟨t, 0, none⟩)] 83).bl (((Bl.refl _).alloc (.cells #[.int .i64 i, .pointer (some ⟨t', 0, none⟩)] 83)).drew)
    have b2 := (Blk.new (w.alloc (.cells #[.int .i64 i, .pointer (some ⟨t, 0, none⟩)] 83)) #[.int .i64 i, .pointer (some ⟨t', 0, none⟩)] 83).bl (Bl.refl _).drew
    refine wp_region_ways (S := (fun w' => w'.cell? ⟨w.heap.size, 0, none⟩ = some (.int .i64 i) ∧ w'.cell? ⟨w.heap.size, 1, none⟩ = some (.pointer (some ⟨t, 0, none⟩)) ∧ w'.cell? ⟨w.heap.size + 1, 0, none⟩ = some (.int .i64 i) ∧ w'.cell? ⟨w.heap.size + 1, 1, none⟩ = some (.pointer (some ⟨t', 0, none⟩)))) [0, 1, 2, 3, 4, 5, 6, 7, 9, 10, 13, 14] (y := .take 0 (.take 1 (.take 2 (.take 3 (.take 4 (.take 5 (.take 6 (.take 7 (.take 9 (.take 10 (.ev 8 (.ev 11 (.ev 12 (.take 13 (.take 14 (.done))) (.stop)) (.stop)) (.stop)))))))))))) (by kernel_rfl) (by kernel_rfl) (by kernel_rfl) ?_ (fun hHeld => ?_)
    · exact ⟨b1.cell 0, b1.cell 1, by simp, by simp⟩
    have HH := Lib.hid hHeld
    repeat (first | (refine wpWay_take rfl (by rfl) (by intro w hSw; (try dsimp only at hSw); first | (go_simp; done) | (go_simp; with_reducible rfl)) ?_; try simp only [Act.put, List.setIfInBounds_toArray, List.set_cons_zero, List.set_cons_succ]) | (refine wpWay_skip rfl (by rfl) ?_; try simp only [Act.put, List.setIfInBounds_toArray, List.set_cons_zero, List.set_cons_succ]))
    clear hHeld b1 b2
    refine wpWay_ev rfl (fun K hK => ?_) wpWay_stop
    go_wp2_with fail
    refine (tall_any _ m _ (HT.out.bl HB.out) HN.out).mono ?_
    rintro e w3 ⟨uw3, rfl, how3, hb⟩
    obtain ⟨Aw3, cw3, rfl⟩ := id how3.slice
    have Hw3 := Lib.hid how3.is
    replace HH := Lib.hid (show _ ∧ _ ∧ _ ∧ _ from ⟨hb.cell HH.out.1, hb.cell HH.out.2.1, hb.cell HH.out.2.2.1, hb.cell HH.out.2.2.2⟩)
    replace HB := Lib.hid (HB.out.bl hb)
    go_wp2_with fail
    refine ⟨HH.out, ?_⟩
    repeat (first | (refine wpWay_take rfl (by rfl) (by intro w hSw; (try dsimp only at hSw); first | (go_simp; done) | (go_simp; with_reducible rfl)) ?_; try simp only [Act.put, List.setIfInBounds_toArray, List.set_cons_zero, List.set_cons_succ]) | (refine wpWay_skip rfl (by rfl) ?_; try simp only [Act.put, List.setIfInBounds_toArray, List.set_cons_zero, List.set_cons_succ]))
    refine wpWay_ev rfl (fun K hK => ?_) wpWay_stop
    go_wp2_with fail
    refine (tall_any _ m' _ (HT'.out.bl HB.out) HN'.out).mono ?_
    rintro e w4 ⟨uw4, rfl, how4, hb⟩
    obtain ⟨Aw4, cw4, rfl⟩ := id how4.slice
    have Hw4 := Lib.hid how4.is
    replace HH := Lib.hid (show _ ∧ _ ∧ _ ∧ _ from ⟨hb.cell HH.out.1, hb.cell HH.out.2.1, hb.cell HH.out.2.2.1, hb.cell HH.out.2.2.2⟩)
    replace HB := Lib.hid (HB.out.bl hb)
    go_wp2_with fail
    refine ⟨HH.out, ?_⟩
    repeat (first | (refine wpWay_take rfl (by rfl) (by intro w hSw; (try dsimp only at hSw); first | (go_simp; done) | (go_simp; with_reducible rfl)) ?_; try simp only [Act.put, List.setIfInBounds_toArray, List.set_cons_zero, List.set_cons_succ]) | (refine wpWay_skip rfl (by rfl) ?_; try simp only [Act.put, List.setIfInBounds_toArray, List.set_cons_zero, List.set_cons_succ]))
    refine wpWay_ev rfl (fun K hK => ?_) wpWay_stop
    go_wp2_with fail
    refine (equalExt_any _ _ m.row m'.row _ (Hw3.out.bl hb) Hw4.out).mono ?_
    rintro e w5 ⟨rfl, hb5⟩
    replace HH := Lib.hid (show _ ∧ _ ∧ _ ∧ _ from ⟨hb5.cell HH.out.1, hb5.cell HH.out.2.1, hb5.cell HH.out.2.2.1, hb5.cell HH.out.2.2.2⟩)
    replace HB := Lib.hid (HB.out.bl hb5)
    go_wp2_with fail
    refine ⟨HH.out, ?_⟩
    repeat (first | (refine wpWay_take rfl (by rfl) (by intro w hSw; (try dsimp only at hSw); first | (go_simp; done) | (go_simp; with_reducible rfl)) ?_; try simp only [Act.put, List.setIfInBounds_toArray, List.set_cons_zero, List.set_cons_succ]) | (refine wpWay_skip rfl (by rfl) ?_; try simp only [Act.put, List.setIfInBounds_toArray, List.set_cons_zero, List.set_cons_succ]))
    refine wpWay_done ?_
    go_wp2_with fail
    go_ret
    exact ⟨ret_bool (by simp), HB.out⟩
  · have hd : (i == j) = false := by rw [beq_eq_false_iff_ne]; exact he
    have hd2 : decide (i = j) = false := decide_eq_false he
    have HE := Lib.hid he
    clear he
    go_enter Try.func46, Try.ntmps46
    go_wp2_with fail
    go_quiet (fail)
    go_wp2_with fail
    go_ret
    exact ⟨ret_bool (by simp [HE.out]), ((((Bl.refl w).alloc _).alloc _).drewN _)⟩

/-- what state.Same answers -/
def rowsOf (s : StM) : List (Int × List Ext) := s.map fun t => (t.1, t.2.row)
def sameS (s s' : StM) : Bool := decide (rowsOf s = rowsOf s')

set_option maxRecDepth 100000 in
set_option maxHeartbeats 1000000 in
theorem eqTrack_any (v v' : Value) (hs hs' : List TH) (s s' : StM) (w : World) (h : trackE.Is w v hs) (h' : trackE.Is w v' hs') (hr : TRows w hs s) (hr' : TRows w hs' s')
    (hv : ∀ t ∈ s, validFrom 0 t.2.row = true) (hv' : ∀ t ∈ s', validFrom 0 t.2.row = true) :
    Calls Try.prog 45 #[v, v', .func (.func 46) #[] #[]] w fun e w' => e = .returned (.bool (sameS s s')) ∧ Bl w w' := by
  obtain ⟨A, c, rfl, h1, h2, h3, h4⟩ := h
  obtain ⟨A', c', rfl, h1', h2', h3', h4'⟩ := h'
  have HA := Lib.hid h4
  have HA' := Lib.hid h4'
  have HR := Lib.hid hr
  have HR' := Lib.hid hr'
  have HLS := Lib.hid hr.1
  have HLS' := Lib.hid hr'.1
  have hl : hs.length ≤ 9223372036854775807 := by unfold maxLen at h2; omega
  have hl' : hs'.length ≤ 9223372036854775807 := by unfold maxLen at h2'; omega
  have hu := Try.underlying83
  have HV := Lib.hid hv
  have HV' := Lib.hid hv'
  clear h1 h2 h3 h4 h1' h2' h3' h4' hr hr' hv hv'
  by_cases hlen : hs.length = hs'.length
  · go_enter Try.func45, Try.ntmps45
    go_wp2_with fail
    have HL := Lib.hid hlen
    clear hlen
    go_loopg [17] hs.length (fun g i wr => ∃ k : Nat, k ≤ hs.length ∧ g = hs.length - k ∧ i = .int .i64 k ∧ Hid (rowsOf (s.take k) = rowsOf (s'.take k)) ∧ Hid (Bl w wr))
    case atStart => exact ⟨0, by omega, rfl, rfl, Lib.hid rfl, Lib.hid (Bl.refl _)⟩
    case round =>
      obtain ⟨k, hk, rfl, rfl, HQ, HB⟩ := hrel
      by_cases hlt : k < hs.length
      · have hlt' : k < hs'.length := by have := HL.out; omega
        have hki : (k : Int) < hs.length := by omega
        have hki' : (k : Int) < hs'.length := by omega
        have hks : k < s.length := by have := HLS.out; omega
        have hks' : k < s'.length := by have := HLS'.out; omega
        obtain ⟨ad, rfl, c0, c1⟩ := track_at (HA.out.bl HB.out) k hlt
        obtain ⟨ad', rfl, d0, d1⟩ := track_at (HA'.out.bl HB.out) k hlt'
        obtain ⟨_, e0, HT⟩ := (HR.out.bl HB.out).at k hks
        obtain ⟨_, e0', HT'⟩ := (HR'.out.bl HB.out).at k hks'
        have ht := Lib.hid (List.take_succ_eq_append_getElem hks)
        have ht' := Lib.hid (List.take_succ_eq_append_getElem hks')
        have HX := Lib.hid (HV.out _ (List.getElem_mem hks))
        have HX' := Lib.hid (HV'.out _ (List.getElem_mem hks'))
        have hne := Lib.hid (fun h : rowsOf s = rowsOf s' => show s[k].1 = s'[k].1 ∧ s[k].2.row = s'[k].2.row by
          have h0 : (rowsOf s)[k]? = (rowsOf s')[k]? := by rw [h]
          simpa [rowsOf, List.getElem?_eq_getElem hks, List.getElem?_eq_getElem hks'] using h0)
        generalize s[k] = x at *
        generalize s'[k] = x' at *
        generalize hs[k] = y at *
        generalize hs'[k] = y' at *
        obtain ⟨xi, m⟩ := x
        obtain ⟨xi', m'⟩ := x'
        obtain ⟨yi, yb⟩ := y
        obtain ⟨yi', yb'⟩ := y'
        dsimp only at c0 c1 d0 d1 e0 e0' HT HT' HX HX' hne
        subst e0
        subst e0'
        have hb1 := World.block_lt_of_cell? _ _ d0
        have hb3 := World.block_lt_of_cell? _ _ d1
        have hx1 := valid_len m.row HX.out
        have hx1' := valid_len m'.row HX'.out
        go_wp2_with fail
        refine (ssame1_any yi yi' yb yb' m m' _ (HT.bl (((Bl.refl _).alloc _).alloc _)) (HT'.bl (((Bl.refl _).alloc _).alloc _)) (by omega) (by omega)).mono ?_
        rintro e w1 ⟨rfl, hb⟩
        have hb2 := Bl.bl (((HB.out).alloc (.cells #[.int .i64 yi, .pointer (some ⟨yb, 0, none⟩)] 83)).alloc (.cells #[.int .i64 yi', .pointer (some ⟨yb', 0, none⟩)] 83)) hb
        have HB1 := Lib.hid hb2
        clear hb hb2 HT HT' hb1
        by_cases hq : yi = yi' ∧ m.row = m'.row
        · have hd : decide (yi = yi' ∧ m.row = m'.row) = true := decide_eq_true hq
          have HQ1 := Lib.hid hq
          clear hq
          go_wp2_with fail
          go_roundg (hs.length - (k + 1))
          case measure => omega
          case rel => exact ⟨k + 1, by omega, rfl, by go_num, Lib.hid (by rw [ht.out, ht'.out]; have := HQ.out; simp only [rowsOf] at this ⊢; rw [List.map_append, List.map_append, this, List.map_singleton, List.map_singleton, HQ1.out.1, HQ1.out.2]), HB1⟩
        · have hd : decide (yi = yi' ∧ m.row = m'.row) = false := decide_eq_false hq
          have HQ1 := Lib.hid hq
          clear hq
          go_wp2_with fail
          go_ret
          exact ⟨ret_bool (decide_eq_false (fun h => HQ1.out (hne.out h))).symm, HB1.out⟩
      · have hn2 : ¬ (k : Int) < hs'.length := by have := HL.out; omega
        go_wp2_with fail
        go_ret
        refine ⟨ret_bool ?_, HB.out⟩
        symm; unfold sameS; rw [decide_eq_true_eq]
        have h := HQ.out
        have := HL.out
        have := HLS.out
        have := HLS'.out
        rwa [List.take_of_length_le (by omega), List.take_of_length_le (by omega)] at h
  · have hd : sameS s s' = false := decide_eq_false (fun h => hlen (by have := congrArg List.length h; simp [rowsOf] at this; have := HLS.out; have := HLS'.out; omega))
    have HD := Lib.hid hd
    clear hd
    go_enter Try.func45, Try.ntmps45
    go_wp2_with fail
    go_ret
    exact ⟨ret_bool HD.out.symm, Bl.refl _⟩

set_option maxRecDepth 100000 in
set_option maxHeartbeats 1000000 in
theorem ssame_any (v v' : Value) (s s' : StM) (w : World) (h : StateIs w v s) (h' : StateIs w v' s') (hv : ∀ t ∈ s, validFrom 0 t.2.row = true) (hv' : ∀ t ∈ s', validFrom 0 t.2.row = true) :
    Calls Try.prog 21 #[v, v'] w fun e w' => e = .returned (.bool (sameS s s')) ∧ Bl w w' := by
  obtain ⟨b, u, hs, rfl, c0, h1, h2⟩ := h
  obtain ⟨b', u', hs', rfl, c0', h1', h2'⟩ := h'
  simp only [Head.v] at c0 c0'
  have H1 := Lib.hid h1
  have H1' := Lib.hid h1'
  have H2 := Lib.hid h2
  have H2' := Lib.hid h2'
  have HV := Lib.hid hv
  have HV' := Lib.hid hv'
  have hu := Try.underlying76
  have d0 := ((Bl.refl w).drew).cell c0
  have d0' := ((Bl.refl w).drew).cell c0'
  clear h1 h1' h2 h2' hv hv' c0 c0'
  go_enter Try.func21, Try.ntmps21
  go_wp2_with fail
  refine wp_region_ways (S := (fun w' => w'.cell? ⟨b, 0, none⟩ = some (.slice u.A u.n u.cap) ∧ w'.cell? ⟨b', 0, none⟩ = some (.slice u'.A u'.n u'.cap))) [0, 1, 2, 3, 4, 5, 6, 7, 9] (y := .take 0 (.take 1 (.take 2 (.take 3 (.take 4 (.take 5 (.take 6 (.take 7 (.ev 8 (.take 9 (.done)) (.stop)))))))))) (by kernel_rfl) (by kernel_rfl) (by kernel_rfl) ?_ (fun hHeld => ?_)
  · exact ⟨d0, d0'⟩
  have HH := Lib.hid hHeld
  repeat (first | (refine wpWay_take rfl (by rfl) (by intro w hSw; (try dsimp only at hSw); first | (go_simp; done) | (go_simp; with_reducible rfl)) ?_; try simp only [Act.put, List.setIfInBounds_toArray, List.set_cons_zero, List.set_cons_succ]) | (refine wpWay_skip rfl (by rfl) ?_; try simp only [Act.put, List.setIfInBounds_toArray, List.set_cons_zero, List.set_cons_succ]))
  clear hHeld d0 d0'
  refine wpWay_ev rfl (fun K hK => ?_) wpWay_stop
  go_wp2_with fail
  refine (eqTrack_any _ _ hs hs' s s' _ (H1.out.bl (Bl.refl _).drew) (H1'.out.bl (Bl.refl _).drew) (H2.out.bl (Bl.refl _).drew) (H2'.out.bl (Bl.refl _).drew) HV.out HV'.out).mono ?_
  rintro e w1 ⟨rfl, hb⟩
  go_wp2_with fail
  refine ⟨⟨hb.cell HH.out.1, hb.cell HH.out.2⟩, ?_⟩
  repeat (first | (refine wpWay_take rfl (by rfl) (by intro w hSw; (try dsimp only at hSw); first | (go_simp; done) | (go_simp; with_reducible rfl)) ?_; try simp only [Act.put, List.setIfInBounds_toArray, List.set_cons_zero, List.set_cons_succ]) | (refine wpWay_skip rfl (by rfl) ?_; try simp only [Act.put, List.setIfInBounds_toArray, List.set_cons_zero, List.set_cons_succ]))
  refine wpWay_done ?_
  go_wp2_with fail
  go_ret
  exact ⟨rfl, ((Bl.refl w).drew).bl hb⟩
end Go.Proofs.Ytddcjekkimajpaa.ExtW
