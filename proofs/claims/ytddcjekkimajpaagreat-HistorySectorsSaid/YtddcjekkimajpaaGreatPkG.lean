/- Several texts joined (see each one's head). -/
import Derived.Test.YtddcjekkimajpaaGreatPkF
import Derived.Test.YtddcjekkimajpaaGreatPkD
/- The walk of overdublaw21.StatePlays. -/
namespace Go.Proofs.YtddcjekkimajpaaGreat.ExtW
open Go.RowKit Go.Ov Go.Proofs.YtddcjekkimajpaaGreat.Need

theorem sameS_refl (s : StM) : sameS s s = true := by unfold sameS; simp
theorem StRes.tup {w : World} {e : Ending} {p : StM × Int} (h : StRes w e p) : ∃ v, e = .returned (.tuple #[v, .int .i64 p.2]) ∧ (p.2 = 0 → StateIs w v p.1) ∧ (p.2 ≠ 0 → v = .pointer none) := by
  by_cases hz : p.2 = 0
  · obtain ⟨u, rfl, hs⟩ := h.1 hz
    exact ⟨u, by rw [hz], fun _ => hs, fun h => absurd hz h⟩
  · exact ⟨_, h.2 hz, fun h => absurd h hz, fun _ => rfl⟩
theorem LnRes.tup {w : World} {e : Ending} {p : LnM × Int} (h : LnRes w e p) : ∃ v, e = .returned (.tuple #[v, .int .i64 p.2]) ∧ (p.2 = 0 → LnIs w v p.1) := by
  by_cases hz : p.2 = 0
  · obtain ⟨u, rfl, hs⟩ := h.1 hz
    exact ⟨u, by rw [hz], fun _ => hs⟩
  · exact ⟨_, h.2 hz, fun h => absurd h hz⟩
/-- behind the two calls: what they gave -/
def PlayJ (w wc : World) (v5 v6 v7 v8 v12 v13 v14 v15 : Value) (s : StM) (us : List Nat) (hs : List Head) (S : List StM) : Prop :=
  ∃ (G : Nat → Bool) (p : StM × Int), v13 = .int .i64 p.2 ∧ v15 = .int .i64 p.2 ∧ PlayR w wc G v5 v6 v7 v8 s us hs S 0 0 ∧
    (p.2 = 0 → StateIs (only wc G) v12 p.1 ∧ LnIs (only wc G) v14 (rowsOf p.1) ∧ SOT p.1) ∧ (p.2 ≠ 0 → v12 = .pointer none)

end Go.Proofs.YtddcjekkimajpaaGreat.ExtW

/- ref20's History.Apply: a change of what is now; then the whole of it. -/
namespace Go.Proofs.YtddcjekkimajpaaGreat.ExtW
open Go.RowKit Go.Ov Go.Proofs.YtddcjekkimajpaaGreat.Need

def chgM (m : HistM) (r : Rec) : HistM × Int := if (applyR m.now r).2 = 0 then (stepH m (applyR m.now r).1, 0) else (m, (applyR m.now r).2)
theorem chgM_ok {m : HistM} {r : Rec} {s : StM} (h : applyR m.now r = (s, 0)) : chgM m r = (stepH m s, 0) := by unfold chgM; rw [h]; rfl
theorem chgM_no {m : HistM} {r : Rec} {s : StM} {e : Int} (h : applyR m.now r = (s, e)) (he : ¬ e = 0) : chgM m r = (m, e) := by unfold chgM; rw [h]; exact if_neg he
set_option maxRecDepth 100000 in
set_option maxHeartbeats 1000000 in
theorem hap20_change (G : Nat → Bool) (m : HistM) (hv rv : Value) (r : Rec) (w : World) (h : RHIs (only w G) hv m) (hr : RecIs w rv r) (hk : r.kind ≤ 3) (hval : validRec r = true) (hs : SOK m.now) (hn : m.undo.length ≤ 4) :
    Calls Tryz.prog 20 #[hv, rv] w fun e w' => ∃ u, e = .returned (.tuple #[u, .int .i64 (chgM m r).2]) ∧ RHIs (only w' (gor G w)) u (chgM m r).1 ∧ Bl w w' := by
  have HKK := Lib.hid hk
  have HN := Lib.hid hn
  have HSOK := Lib.hid hs
  clear hk hn hs
  have HR := Lib.hid hr
  have HH := Lib.hid h
  have HV := Lib.hid hval
  obtain ⟨a, b, c, rfl, h1, h2, h3⟩ := h
  obtain ⟨u2, rfl, hl⟩ := hr
  obtain ⟨A, nl, ca, rfl⟩ : ∃ A' n' c', u2 = .slice A' n' c' := by obtain ⟨A', c', e', _⟩ := hl; exact ⟨A', _, c', e'⟩
  obtain ⟨Aa, na, cca, rfl⟩ : ∃ A' n' c', a = .slice A' n' c' := by obtain ⟨A', c', e'⟩ := h1.slice; exact ⟨A', _, c', e'⟩
  obtain ⟨Ab, nb, ccb, rfl⟩ : ∃ A' n' c', b = .slice A' n' c' := by obtain ⟨A', c', e'⟩ := h2.slice; exact ⟨A', _, c', e'⟩
  obtain ⟨Ac, nc, ccc, rfl⟩ : ∃ A' n' c', c = .slice A' n' c' := by obtain ⟨A', c', e'⟩ := h3.slice; exact ⟨A', _, c', e'⟩
  have H1 := Lib.hid h1
  have H2 := Lib.hid h2
  have H3 := Lib.hid h3
  have HNB := Lib.hid (show nb = m.undo.length by obtain ⟨A', c', e'⟩ := h2.slice; simp at e'; exact e'.2.1)
  have HNC := Lib.hid (show nc = m.redo.length by obtain ⟨A', c', e'⟩ := h3.slice; simp at e'; exact e'.2.1)
  obtain ⟨kk, t, f, o, l⟩ := r
  have hur := Tryz.underlying46
  have huh := Tryz.underlying30
  clear h1 h2 h3 hval hl
  go_enter Tryz.func20, Tryz.ntmps20
  go_wp2_with fail
  refine (rvalidR_any _ ⟨kk, t, f, o, l⟩ _ (HR.out.bl ((((Bl.refl _).alloc _).alloc _).alloc _))).mono ?_
  rintro e w1 ⟨rfl, hb⟩
  rw [HV.out]
  have b1 := (((Blk.new w #[.slice Aa na cca, .slice Ab nb ccb, .slice Ac nc ccc] 30).bl ((Bl.refl _).alloc _)).bl ((Bl.refl _).alloc _)).bl hb
  have b2 := ((Blk.new (w.alloc (.cells #[.slice Aa na cca, .slice Ab nb ccb, .slice Ac nc ccc] 30)) #[.int .i64 kk, .int .i64 t, .int .i64 f, .int .i64 o, .slice A nl ca] 46).bl ((Bl.refl _).alloc _)).bl hb
  have b3 := (Blk.new ((w.alloc (.cells #[.slice Aa na cca, .slice Ab nb ccb, .slice Ac nc ccc] 30)).alloc (.cells #[.int .i64 kk, .int .i64 t, .int .i64 f, .int .i64 o, .slice A nl ca] 46)) #[.slice none 0 0, .slice none 0 0, .slice none 0 0] 30).bl hb
  rw [alloc_size] at b2 b3
  rw [alloc_size] at b3
  have HB := Lib.hid (((((Bl.refl w).alloc (.cells #[.slice Aa na cca, .slice Ab nb ccb, .slice Ac nc ccc] 30)).alloc (.cells #[.int .i64 kk, .int .i64 t, .int .i64 f, .int .i64 o, .slice A nl ca] 46)).alloc (.cells #[.slice none 0 0, .slice none 0 0, .slice none 0 0] 30)).bl hb)
  have B1 := Lib.hid b1
  have B2 := Lib.hid b2
  have B3 := Lib.hid b3
  have c0 := b1.cell 0
  have c1 := b1.cell 1
  have c2 := b1.cell 2
  have f0 := b3.frozen 0
  have f1 := b3.frozen 1
  have f2 := b3.frozen 2
  have z0 := b3.cell 0
  have z1 := b3.cell 1
  have z2 := b3.cell 2
  have d0 := b2.cell 0
  have d1 := b2.cell 1
  have d2 := b2.cell 2
  have d3 := b2.cell 3
  have d4 := b2.cell 4
  simp at c0 c1 c2 z0 z1 z2 d0 d1 d2 d3 d4
  clear hb b1 b2 b3
  have e4 : (kk == 4) = false := by rw [beq_eq_false_iff_ne]; have : kk ≤ 3 := HKK.out; omega
  have e5 : (kk == 5) = false := by rw [beq_eq_false_iff_ne]; have : kk ≤ 3 := HKK.out; omega
  go_wp2_with fail
  have HAp := Lib.hid (apply_eq HSOK.out.2 ⟨kk, t, f, o, l⟩)
  refine (lapply_G (cap G w) _ _ (rowsOf m.now) ⟨kk, t, f, o, l⟩ _ (LnIs.sub ((Sub.cap w G).trans (Sub.bl (HB.out.only _))) H1.out) (HR.out.bl HB.out) (by rw [rowsOf_len]; have := HSOK.out.1.1; omega) (fun t ht => by obtain ⟨z, hz, rfl⟩ := List.mem_map.1 ht; exact HSOK.out.1.2 z hz)).mono ?_
  rintro e w2 ⟨hres, hb⟩
  rw [HAp.out] at hres
  obtain ⟨v2, rfl, hln⟩ := LnRes.tup hres
  dsimp only at hln
  obtain ⟨p, hp⟩ : ∃ p, p = applyR m.now ⟨kk, t, f, o, l⟩ := ⟨_, rfl⟩
  rw [← hp] at hln
  rw [← hp]
  have HLN := Lib.hid hln
  have HB2 := Lib.hid (HB.out.bl hb)
  have hsz1 := HB.out.size
  have b3 := B3.out.bl hb
  have b1 := B1.out.bl hb
  have B32 := Lib.hid b3
  have c0 := b1.cell 0
  have c1 := b1.cell 1
  have c2 := b1.cell 2
  have f0 := b3.frozen 0
  have f1 := b3.frozen 1
  have f2 := b3.frozen 2
  have z0 := b3.cell 0
  have z1 := b3.cell 1
  have z2 := b3.cell 2
  simp at c0 c1 c2 z0 z1 z2
  obtain ⟨p1, p2⟩ := p
  have HPe := Lib.hid hp
  clear hres hln hb b3 b1 hp
  have HPe' := Lib.hid (show applyR m.now ⟨kk, t, f, o, l⟩ = (p1, p2) from HPe.out.symm)
  clear HPe
  dsimp only at HLN ⊢
  by_cases hz : p2 = 0
  · have hv2 := HLN.out hz
    obtain ⟨A2, n2, cc2, rfl⟩ : ∃ A' n' c', v2 = .slice A' n' c' := by obtain ⟨A', c', e'⟩ := hv2.slice; exact ⟨A', _, c', e'⟩
    have HV2 := Lib.hid hv2
    clear hv2 HLN
    subst hz
    go_wp2_with fail
    refine (rpush_G (cap G w) _ _ m.undo m.now _ (LnsIs.sub ((Sub.cap w G).trans (Sub.bl (HB2.out.only _))) H2.out) (LnIs.sub ((Sub.cap w G).trans (Sub.bl (HB2.out.only _))) H1.out) HN.out).mono ?_
    rintro e w3 ⟨pv, rfl, hp, hb⟩
    obtain ⟨pA, pn, pc, rfl⟩ : ∃ A' n' c', pv = .slice A' n' c' := by obtain ⟨A', c', e'⟩ := hp.slice; exact ⟨A', _, c', e'⟩
    have hgf : ∀ w9 : World, w.heap.size + 1 + 1 < w9.heap.size → gor (cap G w) w9 (w.heap.size + 1 + 1) = false := by
      intro w9 h9
      unfold gor cap
      rw [decide_eq_false (by omega), decide_eq_false (by omega)]; simp
    have HGF := Lib.hid (hgf w2 B32.out.lt)
    have HGF1 := Lib.hid (hgf w1 B3.out.lt)
    have HP := Lib.hid hp
    have HV3 := Lib.hid (LnIs.sub (Sub.bl (hb.only _)) HV2.out)
    have HB3 := Lib.hid (HB2.out.bl hb)
    have hsz2 := HB2.out.size
    have b3 := B32.out.bl hb
    have B43 := Lib.hid b3
    clear hgf hp hb HV2 c0 c1 c2 f0 f1 f2 z0 z1 z2
    have z0 := b3.cell 0
    have z1 := b3.cell 1
    have z2 := b3.cell 2
    have f0 := b3.frozen 0
    have f1 := b3.frozen 1
    have f2 := b3.frozen 2
    simp at z0 z1 z2
    clear b3
    go_wp2_with fail
    have hs3 := ((B43.out.set 0 (.slice A2 n2 cc2)).set 1 (.slice pA pn pc)).set 2 (.slice none 0 0)
    have e0 := hs3.cell 0
    have e1 := hs3.cell 1
    have e2 := hs3.cell 2
    simp at e0 e1 e2
    have HBo := Lib.hid (((HB3.out.set (w.heap.size + 1 + 1) 0 (.slice A2 n2 cc2) (by omega)).set (w.heap.size + 1 + 1) 1 (.slice pA pn pc) (by omega)).set (w.heap.size + 1 + 1) 2 (.slice none 0 0) (by omega))
    clear hs3
    have mono' : ∀ w9 : World, w.heap.size ≤ w9.heap.size → ∀ b, gor (cap G w) w9 b = true → gor G w b = true := by
      intro w9 h9 b hb
      simp only [gor, cap, Bool.or_eq_true, Bool.and_eq_true, decide_eq_true_eq] at hb
      show (G b || decide (w.heap.size ≤ b)) = true
      rw [Bool.or_eq_true, decide_eq_true_eq]
      rcases hb with ⟨h, _⟩ | h
      · exact Or.inl h
      · exact Or.inr (by omega)
    have hpu := LnsIs.sub ((sub_set3 (.slice A2 n2 cc2) (.slice pA pn pc) (.slice none 0 0) HGF.out).trans (Sub.mono (mono' w2 hsz2))) HP.out
    have hno := LnIs.sub ((sub_set3 (.slice A2 n2 cc2) (.slice pA pn pc) (.slice none 0 0) HGF1.out).trans (Sub.mono (mono' w1 hsz1))) HV3.out
    refine bodyPost_ret (v := .tuple #[.agg #[.slice A2 n2 cc2, .slice pA pn pc, .slice none 0 0], .int .i64 0]) (by simp [results, Tryz.results20, go_sem, e0, e1, e2]) rfl ?_
    rw [chgM_ok HPe'.out]
    exact ⟨_, rfl, ⟨_, _, _, rfl, hno, hpu, LnsIs.nil _⟩, HBo.out⟩
  · have hzb : (p2 == 0) = false := by rw [beq_eq_false_iff_ne]; exact hz
    have HZ := Lib.hid hz
    clear hz
    have hs3 := ((B32.out.set 0 (.slice Aa na cca)).set 1 (.slice Ab nb ccb)).set 2 (.slice Ac nc ccc)
    have e0 := hs3.cell 0
    have e1 := hs3.cell 1
    have e2 := hs3.cell 2
    simp at e0 e1 e2
    have HBo := Lib.hid (((HB2.out.set (w.heap.size + 1 + 1) 0 (.slice Aa na cca) (by omega)).set (w.heap.size + 1 + 1) 1 (.slice Ab nb ccb) (by omega)).set (w.heap.size + 1 + 1) 2 (.slice Ac nc ccc) (by omega))
    clear hs3
    go_wp2_with fail
    refine bodyPost_ret (v := .tuple #[.agg #[.slice Aa na cca, .slice Ab nb ccb, .slice Ac nc ccc], .int .i64 p2]) (by simp [results, Tryz.results20, go_sem, e0, e1, e2]) rfl ?_
    rw [chgM_no HPe'.out HZ.out]
    exact ⟨_, rfl, ⟨_, _, _, rfl, LnIs.sub ((Sub.bl (HBo.out.only G)).trans (Sub.mono (gor_l G w))) H1.out, LnsIs.sub ((Sub.bl (HBo.out.only G)).trans (Sub.mono (gor_l G w))) H2.out, LnsIs.sub ((Sub.bl (HBo.out.only G)).trans (Sub.mono (gor_l G w))) H3.out⟩, HBo.out⟩

/-- a history that may come about -/
def HOK (m : HistM) : Prop := SOT m.now ∧ (∀ s ∈ m.undo, SOT s) ∧ (∀ s ∈ m.redo, SOT s) ∧ m.undo.length ≤ 4 ∧ m.redo.length ≤ 4
theorem hap20_any (G : Nat → Bool) (m : HistM) (hv rv : Value) (r : Rec) (w : World) (h : RHIs (only w G) hv m) (hr : RecIs w rv r) (hm : HOK m) :
    Calls Tryz.prog 20 #[hv, rv] w fun e w' => ∃ u, e = .returned (.tuple #[u, .int .i64 (applyH m r).2]) ∧ RHIs (only w' (gor G w)) u (applyH m r).1 ∧ Bl w w' := by
  obtain ⟨h1, _, _, h2, h3⟩ := hm
  unfold applyH
  by_cases hv : validRec r = false
  · rw [if_pos hv]; exact hap20_bad G m _ rv r w h hr hv
  · rw [if_neg hv]
    have hv' : validRec r = true := by simpa using hv
    by_cases h4 : r.kind = 4
    · rw [if_pos h4]
      by_cases hu : 0 < m.undo.length
      · rw [dif_pos hu]; exact hap20_undo G m _ rv r w h hr h4 hv' hu h2 h3
      · rw [dif_neg hu]; exact hap20_undo0 G m _ rv r w h hr h4 hv' (by omega)
    · rw [if_neg h4]
      by_cases h5 : r.kind = 5
      · rw [if_pos h5]
        by_cases hu : 0 < m.redo.length
        · rw [dif_pos hu]; exact hap20_redo G m _ rv r w h hr h5 hv' hu h3 h2
        · rw [dif_neg hu]; exact hap20_redo0 G m _ rv r w h hr h5 hv' (by omega)
      · rw [if_neg h5]
        exact hap20_change G m _ rv r w h hr (valid_kind hv' h4 h5) hv' h1.1 h2
end Go.Proofs.YtddcjekkimajpaaGreat.ExtW

/- Contracts of package history: all, Sectors. -/
namespace Go.Ov
open Go.RowKit
/-- all states of a history -/
def allH (m : HistM) : List StM := m.now :: m.undo ++ m.redo
theorem SRows.append {w : World} {bs cs : List Nat} {s t : List StM} (h : SRows w bs s) (h2 : SRows w cs t) : SRows w (bs ++ cs) (s ++ t) := by
  refine ⟨by simp [h.1, h2.1], fun i x y hx hy => ?_⟩
  have hl := h.1
  by_cases hi : i < s.length
  · rw [List.getElem?_append_left hi] at hx
    rw [List.getElem?_append_left (by omega)] at hy
    exact h.2 i x y hx hy
  · rw [List.getElem?_append_right (by omega)] at hx hy
    rw [hl] at hy
    exact h2.2 _ x y hx hy
theorem SRows.cons {w : World} {bs : List Nat} {s : List StM} {b : Nat} {x : StM} (hx : StateIs w (.pointer (some ⟨b, 0, none⟩)) x) (h : SRows w bs s) : SRows w (b :: bs) (x :: s) := by
  have := SRows.append ((SRows.nil w).snoc hx) h
  simpa using this
end Go.Ov
namespace Go.Proofs.YtddcjekkimajpaaGreat.ExtW
open Go.RowKit Go.Ov Go.Proofs.YtddcjekkimajpaaGreat.Need

set_option maxRecDepth 100000 in
set_option maxHeartbeats 1000000 in
theorem hall_any (B : Nat) (m : HistM) (w : World) (h : HistIs 59 w B m) (hn : m.undo.length ≤ 4) (hn' : m.redo.length ≤ 4) :
    Calls Tryz.prog 31 #[.pointer (some ⟨B, 0, none⟩)] w fun e w' => ∃ u bs, e = .returned u ∧ ptrE.Is w' u bs ∧ SRows w' bs (allH m) ∧ Bl w w' := by
  obtain ⟨n, u, q, us, rs, h0, h1, h2, h3, h4, h5⟩ := h
  have HBk := Lib.hid h0
  have hl1 : us.length ≤ 4 := by have := h4.1; omega
  have hl2 : rs.length ≤ 4 := by have := h5.1; omega
  have HL1 := Lib.hid hl1
  have HL2 := Lib.hid hl2
  have HALL := Lib.hid (SRows.cons h1 (h4.append h5))
  obtain ⟨uA, un, uc⟩ := u
  obtain ⟨qA, qn, qc⟩ := q
  have HU := Lib.hid h2.1
  have HR := Lib.hid h3.1
  have c0 := h0.cell 0
  have c1 := h0.cell 1
  have c2 := h0.cell 2
  have hB := h0.lt
  simp [histC, Head.v] at c0 c1 c2
  simp only [Head.v] at HU HR
  have huh := Tryz.underlying59
  clear h0 h1 h2 h3 h4 h5 hn hn' hl1 hl2
  go_enter Tryz.func31, Tryz.ntmps31
  go_wp2_with fail
  refine wp_region_ways (S := (fun w' => w'.cell? ⟨B, 0, none⟩ = some (.pointer (some ⟨n, 0, none⟩)) ∧ w'.cell? ⟨B, 1, none⟩ = some (.slice uA un uc) ∧ w'.cell? ⟨B, 2, none⟩ = some (.slice qA qn qc))) [0, 1, 2, 3, 5, 6, 7, 8, 10, 11, 12, 13, 15] (y := .take 0 (.take 1 (.take 2 (.take 3 (.take 5 (.take 6 (.take 7 (.take 8 (.take 10 (.take 11 (.take 12 (.take 13 (.ev 4 (.ev 9 (.ev 14 (.take 15 (.done)) (.stop)) (.stop)) (.stop)))))))))))))) (by kernel_rfl) (by kernel_rfl) (by kernel_rfl) ?_ (fun hHeld => ?_)
  · exact ⟨((Bl.refl w).drew).cell c0, ((Bl.refl w).drew).cell c1, ((Bl.refl w).drew).cell c2⟩
  have HH := Lib.hid hHeld
  repeat (first | (refine wpWay_take rfl (by rfl) (by intro w hSw; (try dsimp only at hSw); first | (go_simp; done) | (go_simp; with_reducible rfl)) ?_; try simp only [Act.put, List.setIfInBounds_toArray, List.set_cons_zero, List.set_cons_succ]) | (refine wpWay_skip rfl (by rfl) ?_; try simp only [Act.put, List.setIfInBounds_toArray, List.set_cons_zero, List.set_cons_succ]))
  clear hHeld
  refine wpWay_ev rfl (fun K hK => ?_) wpWay_stop
  go_wp2_with fail
  have HOwn := Lib.hid (show ptrE.Own 33 (w.alloc (.cells #[.pointer (some ⟨n, 0, none⟩)] 33)).drew w.heap.size (.slice (some ⟨w.heap.size, 0, none⟩) 1 1) [n] from (Enc.Own.lit (E := ptrE) w w.heap.size [n] #[.pointer (some ⟨n, 0, none⟩)] rfl 1 rfl (Nat.le_refl _) (by decide) rfl).bl (Bl.refl _).drew)
  have hb1 := ((Bl.refl w).alloc (.cells #[.pointer (some ⟨n, 0, none⟩)] 33)).drew
  refine ⟨⟨hb1.cell c0, hb1.cell c1, hb1.cell c2⟩, ?_⟩
  repeat (first | (refine wpWay_take rfl (by rfl) (by intro w hSw; (try dsimp only at hSw); first | (go_simp; done) | (go_simp; with_reducible rfl)) ?_; try simp only [Act.put, List.setIfInBounds_toArray, List.set_cons_zero, List.set_cons_succ]) | (refine wpWay_skip rfl (by rfl) ?_; try simp only [Act.put, List.setIfInBounds_toArray, List.set_cons_zero, List.set_cons_succ]))
  refine wpWay_ev rfl (fun K hK => ?_) wpWay_stop
  go_wp2_with (at_builtin; refine Enc.Own.append (E := ptrE) rfl (.tmp 7) (.tmp 11) 37 rfl w.heap.size 33 (.pointer none) 1 8 Tryz.underlying37 infoPtr rfl rfl (by decide) (by decide) _ [n] rfl HOwn.out _ us rfl (HU.out.bl hb1) ?hlen ?hbase ?_; (case hlen => have := HL1.out; simp only [List.length_cons, List.length_nil]; omega); (case hbase => exact hb1.size); intro u1 w6 ho6 hg6)
  have hb6 := hb1.grown hg6 (fun k hk => (Enc.Own.lt HOwn.out k hk).1)
  refine ⟨⟨hb6.cell c0, hb6.cell c1, hb6.cell c2⟩, ?_⟩
  repeat (first | (refine wpWay_take rfl (by rfl) (by intro w hSw; (try dsimp only at hSw); first | (go_simp; done) | (go_simp; with_reducible rfl)) ?_; try simp only [Act.put, List.setIfInBounds_toArray, List.set_cons_zero, List.set_cons_succ]) | (refine wpWay_skip rfl (by rfl) ?_; try simp only [Act.put, List.setIfInBounds_toArray, List.set_cons_zero, List.set_cons_succ]))
  have HO6 := Lib.hid ho6
  obtain ⟨A6, c6, rfl⟩ := ho6.slice
  refine wpWay_ev rfl (fun K hK => ?_) wpWay_stop
  go_wp2_with (at_builtin; refine Enc.Own.append (E := ptrE) rfl (.tmp 12) (.tmp 16) 37 rfl w.heap.size 33 (.pointer none) 1 8 Tryz.underlying37 infoPtr rfl rfl (by decide) (by decide) _ _ rfl HO6.out _ rs rfl (HR.out.bl hb6) ?hlen ?hbase ?_; (case hlen => have := HL1.out; have := HL2.out; simp only [List.length_append, List.length_cons, List.length_nil]; omega); (case hbase => exact hb6.size); intro u2 w7 ho7 hg7)
  have hb7 := hb6.grown hg7 (fun k hk => (Enc.Own.lt HO6.out k hk).1)
  refine ⟨⟨hb7.cell c0, hb7.cell c1, hb7.cell c2⟩, ?_⟩
  repeat (first | (refine wpWay_take rfl (by rfl) (by intro w hSw; (try dsimp only at hSw); first | (go_simp; done) | (go_simp; with_reducible rfl)) ?_; try simp only [Act.put, List.setIfInBounds_toArray, List.set_cons_zero, List.set_cons_succ]) | (refine wpWay_skip rfl (by rfl) ?_; try simp only [Act.put, List.setIfInBounds_toArray, List.set_cons_zero, List.set_cons_succ]))
  refine wpWay_done ?_
  have HO7 := Lib.hid ho7
  obtain ⟨A7, c7, rfl⟩ := ho7.slice
  have HB7 := Lib.hid hb7
  clear ho6 ho7 hg6 hg7 hb6 hb7 hb1 c0 c1 c2
  go_wp2
  go_ret
  exact ⟨_, _, rfl, by simpa using HO7.out.is, by have := HALL.out.bl HB7.out; simpa [allH] using this, HB7.out⟩

/-- the sectors of states, one behind the other -/
def secS (l : List StM) : List Int := l.flatMap fun s => secO (rowsOf s)
/-- .. each state's in order, once -/
def accS (l : List StM) : List Int := l.flatMap fun s => sortedM (secO (rowsOf s))
theorem accS_take (l : List StM) (k : Nat) (h : k < l.length) : accS (l.take (k + 1)) = accS (l.take k) ++ sortedM (secO (rowsOf l[k])) := by
  unfold accS; rw [List.take_succ_eq_append_getElem h, List.flatMap_append]; simp
theorem secO_len {s : StM} (h : SOK s) : (secO (rowsOf s)).length ≤ 6000 := by rw [← allOf_sec, List.length_map]; exact allOf_len h
theorem accS_len {l : List StM} (h : ∀ s ∈ l, SOK s) : ∀ k, (accS (l.take k)).length ≤ 6000 * k := by
  intro k
  induction k with
  | zero => simp [accS]
  | succ k ih =>
    by_cases hk : k < l.length
    · rw [accS_take l k hk, List.length_append]
      have := secO_len (h _ (List.getElem_mem hk))
      have := sortedM_len (secO (rowsOf l[k]))
      omega
    · rw [List.take_of_length_le (by omega)]
      rw [List.take_of_length_le (by omega)] at ih
      omega
theorem accS_sorted (l : List StM) : sortedM (accS l) = sortedM (secS l) := by
  obtain ⟨h1, h2⟩ := sortedM_spec (accS l)
  obtain ⟨g1, g2⟩ := sortedM_spec (secS l)
  refine strict_ext _ _ h1 g1 fun x => ?_
  rw [h2, g2]
  unfold accS secS
  simp only [List.mem_flatMap]
  exact ⟨fun ⟨s, hs, hx⟩ => ⟨s, hs, ((sortedM_spec _).2 x).1 hx⟩, fun ⟨s, hs, hx⟩ => ⟨s, hs, ((sortedM_spec _).2 x).2 hx⟩⟩

set_option maxRecDepth 100000 in
set_option maxHeartbeats 1000000 in
theorem hsect_any (B : Nat) (m : HistM) (w : World) (h : HistIs 59 w B m) (hm : ∀ s ∈ allH m, SOK s) (hn : m.undo.length ≤ 4) (hn' : m.redo.length ≤ 4) :
    Calls Tryz.prog 13 #[.pointer (some ⟨B, 0, none⟩)] w fun e w' => ∃ u, e = .returned u ∧ intE.Is w' u (sortedM (secS (allH m))) ∧ Bl w w' := by
  have HH := Lib.hid h
  have hl : (allH m).length ≤ 9 := by simp [allH]; omega
  have HN := Lib.hid hn
  have HN' := Lib.hid hn'
  obtain ⟨L, hL⟩ : ∃ L, L = allH m := ⟨_, rfl⟩
  have HLE := Lib.hid hL
  rw [← hL] at hm hl ⊢
  have HM := Lib.hid hm
  clear h hm hn hn' hL
  go_enter Tryz.func13, Tryz.ntmps13
  go_wp2_with fail
  refine (hall_any B m _ HH.out HN.out HN'.out).mono ?_
  rintro e w1 ⟨u, bs, rfl, hi, hr, hb⟩
  rw [← HLE.out] at hr
  obtain ⟨A, c, rfl, _, _, _, hat⟩ := id hi
  have HA := Lib.hid hat
  have HR := Lib.hid hr
  have HL := Lib.hid hr.1
  have HB1 := Lib.hid hb
  have hbl : bs.length ≤ 9 := by rw [hr.1]; exact hl
  clear hi hr hat hb hl
  go_wp2_with fail
  go_loopg [9, 3, 5, 11, 12, 13, 14, 15, 16] bs.length (fun g i v3 v5 v11 v12 v13 v14 v15 v16 wr => ∃ k : Nat, k ≤ bs.length ∧ g = bs.length - k ∧ i = .int .i64 k ∧ Hid (intE.Own 3 wr w1.heap.size v3 (accS (L.take k))) ∧ Hid (Bl w1 wr))
  case atStart => exact ⟨0, by omega, rfl, rfl, Lib.hid (Enc.Own.nil _ _ _), Lib.hid (Bl.refl _)⟩
  case round =>
    obtain ⟨k, hk, rfl, rfl, HO, HB⟩ := hrel
    have hlen := accS_len HM.out k
    by_cases hlt : k < bs.length
    · have hlt2 : k < L.length := by have := HL.out; omega
      obtain ⟨ad, rfl, k0⟩ := ptr_at (HA.out.bl HB.out) k hlt
      have HST := Lib.hid ((HR.out.2 k L[k] bs[k] (List.getElem?_eq_getElem hlt2) (List.getElem?_eq_getElem hlt)).bl HB.out)
      have HOK := Lib.hid (HM.out L[k] (List.getElem_mem hlt2))
      have HS := Lib.hid (accS_take L k hlt2)
      have hsec := secO_len HOK.out
      have hsl := sortedM_len (secO (rowsOf L[k]))
      generalize bs[k] = b at *
      generalize L[k] = s at *
      obtain ⟨X, hX⟩ : ∃ X, X = accS (L.take k) := ⟨_, rfl⟩
      obtain ⟨Y, hY⟩ : ∃ Y, Y = sortedM (secO (rowsOf s)) := ⟨_, rfl⟩
      rw [← hX] at HO hlen HS
      rw [← hY] at hsl HS
      have HY := Lib.hid hY
      clear hX hY
      obtain ⟨A3, c3, rfl⟩ := HO.out.slice
      go_wp2_with fail
      refine (ssectors_any _ s _ HST.out (by have := HOK.out.1.1; omega) (by have := allOf_len HOK.out; omega)).mono ?_
      rintro e w2 ⟨u2, rfl, ho, hb⟩
      rw [← HY.out] at ho
      have HU := Lib.hid ho
      have HB2 := Lib.hid (HB.out.bl hb)
      have HO2 := Lib.hid (HO.out.bl hb)
      have hbase := HB2.out.size
      obtain ⟨A5, c5, rfl, _⟩ := ho
      clear hb HO HY
      go_wp2_with (at_builtin; refine Enc.Own.append (E := intE) rfl (.tmp 13) (.tmp 15) 23 rfl w1.heap.size 3 (.int .i64 0) 1 8 Tryz.underlying23 infoIntT rfl rfl (by decide) (by decide) _ _ rfl HO2.out _ _ rfl HU.out ?hlen ?hbase ?_; (case hlen => omega); (case hbase => exact hbase); intro v1 w4 ho hg)
      have HB4 := Lib.hid (HB2.out.grown hg (fun k hk => (Enc.Own.lt HO2.out k hk).1))
      have HO4 := Lib.hid (show intE.Own 3 w4 w1.heap.size v1 (accS (L.take (k + 1))) by rw [HS.out]; exact ho)
      clear ho hg
      go_wp2_with fail
      go_roundg (bs.length - (k + 1))
      case measure => omega
      case rel => exact ⟨k + 1, by omega, rfl, by go_num, HO4, HB4⟩
    · have HO2 := Lib.hid (show intE.Own 3 wr w1.heap.size _ (accS L) by have := HO.out; rw [List.take_of_length_le (by have := HL.out; omega)] at this; exact this)
      have hl2 : (accS L).length ≤ 60000 := by rw [List.take_of_length_le (by have := HL.out; omega)] at hlen; omega
      have HLe := Lib.hid hl2
      obtain ⟨X, hX⟩ : ∃ X, X = accS L := ⟨_, rfl⟩
      rw [← hX] at HO2 HLe
      have HX := Lib.hid (show sortedM X = sortedM (secS L) by rw [hX]; exact accS_sorted L)
      clear HO hlen hl2 hX
      go_wp2_with fail
      refine (sort_any _ _ _ _ _ HO2.out (by have := HLe.out; omega)).mono ?_
      rintro e w2 ⟨rfl, ho, hb⟩
      have HO3 := Lib.hid ho
      have HB2 := Lib.hid (hb w1 HB.out (Nat.le_refl _))
      clear ho hb
      go_wp2_with fail
      refine (compact_any _ _ _ _ _ HO3.out (by have := HLe.out; rw [List.length_mergeSort]; omega) (compact_len _)).mono ?_
      rintro e w3 ⟨u, rfl, ho, hb⟩
      have HO4 := Lib.hid ho
      have HB3 := Lib.hid (hb w1 HB2.out (Nat.le_refl _))
      clear ho hb
      go_wp2
      go_ret
      exact ⟨_, rfl, by rw [← HX.out]; exact HO4.out.is, HB1.out.bl HB3.out⟩
end Go.Proofs.YtddcjekkimajpaaGreat.ExtW

/- Contract of ref20's History.Sectors. -/
namespace Go.Proofs.YtddcjekkimajpaaGreat.ExtW
open Go.RowKit Go.Ov Go.Proofs.YtddcjekkimajpaaGreat.Need

theorem secS_take (l : List StM) (k : Nat) (h : k < l.length) : secS (l.take (k + 1)) = secS (l.take k) ++ secO (rowsOf l[k]) := by
  unfold secS; rw [List.take_succ_eq_append_getElem h, List.flatMap_append]; simp
theorem secS_len {l : List StM} (h : ∀ s ∈ l, SOK s) : ∀ k, (secS (l.take k)).length ≤ 6000 * k := by
  intro k
  induction k with
  | zero => simp [secS]
  | succ k ih =>
    by_cases hk : k < l.length
    · rw [secS_take l k hk, List.length_append]
      have := secO_len (h _ (List.getElem_mem hk))
      omega
    · rw [List.take_of_length_le (by omega)]
      rw [List.take_of_length_le (by omega)] at ih
      omega

set_option maxRecDepth 100000 in
set_option maxHeartbeats 2000000 in
theorem hsect20_any (v : Value) (m : HistM) (w : World) (h : RHIs w v m) (hm : ∀ s ∈ allH m, SOK s) (hn : m.undo.length ≤ 4) (hn' : m.redo.length ≤ 4) :
    Calls Tryz.prog 50 #[v] w fun e w' => ∃ u, e = .returned u ∧ intE.Is w' u (sortedM (secS (allH m))) ∧ Bl w w' := by
  obtain ⟨a, b, c, rfl, h1, h2, h3⟩ := h
  obtain ⟨Aa, na, cca, rfl⟩ : ∃ A' n' c', a = .slice A' n' c' := by obtain ⟨A', c', e'⟩ := h1.slice; exact ⟨A', _, c', e'⟩
  obtain ⟨hs2, hI2, hr2⟩ := h2
  obtain ⟨hs3, hI3, hr3⟩ := h3
  obtain ⟨Ab, ccb, rfl, _⟩ := id hI2
  obtain ⟨Ac, ccc, rfl, _⟩ := id hI3
  have H1 := Lib.hid h1
  have H2 := Lib.hid hI2
  have H3 := Lib.hid hI3
  have HM := Lib.hid hm
  have hl2 : hs2.length ≤ 4 := by rw [hr2.1]; exact hn
  have hl3 : hs3.length ≤ 4 := by rw [hr3.1]; exact hn'
  have HL2 := Lib.hid hl2
  have HL3 := Lib.hid hl3
  have HRS := Lib.hid (hr2.append hr3)
  have HOK := Lib.hid (hm m.now (by simp [allH]))
  have huh := Tryz.underlying30
  clear h1 hI2 hI3 hr2 hr3 hm hn hn' hl2 hl3
  go_enter Tryz.func50, Tryz.ntmps50
  go_wp2_with fail
  have b1 := (Blk.new w #[.slice Aa na cca, .slice Ab hs2.length ccb, .slice Ac hs3.length ccc] 30)
  refine (lsectors_any _ (rowsOf m.now) _ (H1.out.bl ((Bl.refl _).alloc _)) (by rw [rowsOf_len]; have := HOK.out.1.1; omega) (by have := secO_len HOK.out; omega)).mono ?_
  rintro e w1 ⟨u, rfl, ho, hb⟩
  have HB := Lib.hid (((Bl.refl w).alloc (.cells #[.slice Aa na cca, .slice Ab hs2.length ccb, .slice Ac hs3.length ccc] 30)).bl hb)
  have B1 := Lib.hid (b1.bl hb)
  have c1 := (b1.bl hb).cell 1
  have c2 := (b1.bl hb).cell 2
  simp at c1 c2
  have HU := Lib.hid ho
  obtain ⟨Au, cu, rfl, _⟩ := ho
  clear hb b1
  go_wp2_with fail
  refine wp_region_ways (S := (fun w' => w'.cell? ⟨w.heap.size, 1, none⟩ = some (.slice Ab hs2.length ccb) ∧ w'.cell? ⟨w.heap.size, 2, none⟩ = some (.slice Ac hs3.length ccc))) [0, 1, 3, 4, 6] (y := .take 0 (.take 1 (.take 3 (.take 4 (.ev 2 (.ev 5 (.take 6 (.done)) (.stop)) (.stop)))))) (by kernel_rfl) (by kernel_rfl) (by kernel_rfl) ?_ (fun hHeld => ?_)
  · exact ⟨((Bl.refl w1).drew).cell c1, ((Bl.refl w1).drew).cell c2⟩
  have HH := Lib.hid hHeld
  repeat (first | (refine wpWay_take rfl (by rfl) (by intro w hSw; (try dsimp only at hSw); first | (go_simp; done) | (go_simp; with_reducible rfl)) ?_; try simp only [Act.put, List.setIfInBounds_toArray, List.set_cons_zero, List.set_cons_succ]) | (refine wpWay_skip rfl (by rfl) ?_; try simp only [Act.put, List.setIfInBounds_toArray, List.set_cons_zero, List.set_cons_succ]))
  clear hHeld
  have hd := HB.out.drew
  refine wpWay_ev rfl (fun K hK => ?_) wpWay_stop
  go_wp2_with (at_builtin; refine Enc.Own.append (E := headE) rfl (.const (.slice none 0 0)) (.tmp 12) 28 rfl w1.heap.size 27 (.slice none 0 0) 1 24 Tryz.underlying28 infoLines rfl rfl (by decide) (by decide) _ [] rfl (Enc.Own.nil _ _ _) _ hs2 rfl (H2.out.bl hd) ?hlen ?hbase ?_; (case hlen => have := HL2.out; simp only [List.length_nil]; omega); (case hbase => exact Nat.le_refl _); intro u1 w6 ho6 hg6)
  have hb6 := ((Bl.refl w1).drew).grown hg6 (fun k hk => by cases hk)
  refine ⟨⟨hb6.cell c1, hb6.cell c2⟩, ?_⟩
  repeat (first | (refine wpWay_take rfl (by rfl) (by intro w hSw; (try dsimp only at hSw); first | (go_simp; done) | (go_simp; with_reducible rfl)) ?_; try simp only [Act.put, List.setIfInBounds_toArray, List.set_cons_zero, List.set_cons_succ]) | (refine wpWay_skip rfl (by rfl) ?_; try simp only [Act.put, List.setIfInBounds_toArray, List.set_cons_zero, List.set_cons_succ]))
  have HO6 := Lib.hid ho6
  obtain ⟨A6, c6, rfl⟩ := ho6.slice
  refine wpWay_ev rfl (fun K hK => ?_) wpWay_stop
  go_wp2_with (at_builtin; refine Enc.Own.append (E := headE) rfl (.tmp 13) (.tmp 15) 28 rfl w1.heap.size 27 (.slice none 0 0) 1 24 Tryz.underlying28 infoLines rfl rfl (by decide) (by decide) _ _ rfl HO6.out _ hs3 rfl (H3.out.bl (HB.out.bl hb6)) ?hlen ?hbase ?_; (case hlen => have := HL2.out; have := HL3.out; simp only [List.length_append, List.length_nil]; omega); (case hbase => exact hb6.size); intro u2 w7 ho7 hg7)
  have hb7 := hb6.grown hg7 (fun k hk => (Enc.Own.lt HO6.out k hk).1)
  refine ⟨⟨hb7.cell c1, hb7.cell c2⟩, ?_⟩
  repeat (first | (refine wpWay_take rfl (by rfl) (by intro w hSw; (try dsimp only at hSw); first | (go_simp; done) | (go_simp; with_reducible rfl)) ?_; try simp only [Act.put, List.setIfInBounds_toArray, List.set_cons_zero, List.set_cons_succ]) | (refine wpWay_skip rfl (by rfl) ?_; try simp only [Act.put, List.setIfInBounds_toArray, List.set_cons_zero, List.set_cons_succ]))
  refine wpWay_done ?_
  have hi7 := ho7.is
  obtain ⟨A7, c7, rfl⟩ := ho7.slice
  rw [List.nil_append] at hi7 ⊢
  obtain ⟨hs, hhs⟩ : ∃ hs, hs = hs2 ++ hs3 := ⟨_, rfl⟩
  obtain ⟨L, hL⟩ : ∃ L, L = m.undo ++ m.redo := ⟨_, rfl⟩
  rw [← hhs] at hi7
  have HRS7 := Lib.hid (show LnsRows w hs L by rw [hhs, hL]; exact HRS.out)
  rw [← hhs]
  have HB7 := Lib.hid (HB.out.bl hb7)
  have HU7 := Lib.hid (HU.out.bl hb7)
  have HALL := Lib.hid (show allH m = m.now :: L by rw [hL]; simp [allH])
  have hl : hs.length ≤ 8 := by have := HL2.out; have := HL3.out; rw [hhs, List.length_append]; omega
  have HL := Lib.hid HRS7.out.1
  obtain ⟨_, _, e7, _, _, _, hA⟩ := hi7
  simp at e7
  obtain ⟨rfl, rfl⟩ := e7
  have HA := Lib.hid hA
  clear ho6 ho7 hg6 hg7 hb6 hb7 hd c1 c2 hhs hL HH HRS HU HO6 hA
  have HML := Lib.hid (show ∀ s ∈ L, SOK s from fun s hs => HM.out s (by rw [HALL.out]; simp [hs]))
  obtain ⟨S0, hS0⟩ : ∃ S0, S0 = secO (rowsOf m.now) := ⟨_, rfl⟩
  rw [← hS0] at HU7
  rw [← hS0]
  have HS0 := Lib.hid (show secS (allH m) = S0 ++ secS L by rw [HALL.out, hS0]; simp [secS])
  have hS0l : S0.length ≤ 6000 := by rw [hS0]; exact secO_len HOK.out
  clear hS0
  generalize hn0 : (sortedM S0).length = n0 at *
  have hn0' : n0 ≤ 6000 := by rw [← hn0]; have := sortedM_len S0; omega
  have HN0 := Lib.hid hn0
  clear hn0
  go_wp2_with fail
  go_loopg [19, 3, 5, 6, 7, 21, 22, 23, 24, 25, 26, 27, 28, 29, 30, 31, 32, 33, 34, 35, 36, 37, 38] hs.length (fun g i v3 v5 v6 v7 v21 v22 v23 v24 v25 v26 v27 v28 v29 v30 v31 v32 v33 v34 v35 v36 v37 v38 wr => ∃ k : Nat, k ≤ hs.length ∧ g = hs.length - k ∧ i = .int .i64 k ∧ Hid (intE.Is wr v3 (sortedM (S0 ++ secS (L.take k)))) ∧ Hid (Bl w7 wr))
  case atStart => exact ⟨0, by omega, rfl, rfl, Lib.hid (by have := HU7.out; simpa [secS] using this), Lib.hid (Bl.refl _)⟩
  case round =>
    obtain ⟨k, hk, rfl, rfl, HO, HB⟩ := hrel
    by_cases hlt : k < hs.length
    · have hlt2 : k < L.length := by have := HL.out; omega
      obtain ⟨ad, rfl, d0⟩ := head_at (HA.out.bl HB.out) k hlt
      obtain ⟨_, hR⟩ := (LnsRows.sub (Sub.bl (HB7.out.bl HB.out)) HRS7.out).at k hlt2
      have HX := Lib.hid hR
      have HT := Lib.hid (secS_take L k hlt2)
      have hal := secS_len HML.out k
      have HOKs := Lib.hid (HML.out L[k] (List.getElem_mem hlt2))
      clear hR
      generalize L[k] = s at *
      generalize hs[k] = hh at *
      obtain ⟨hA1, hn1, hc1⟩ := hh
      simp only [Head.v] at d0 HX
      have hsec := secO_len HOKs.out
      go_wp2_with fail
      refine (lsectors_any _ (rowsOf s) _ HX.out (by rw [rowsOf_len]; have := HOKs.out.1.1; omega) (by omega)).mono ?_
      rintro e w8 ⟨u, rfl, ho, hb⟩
      obtain ⟨A5, c5, rfl, _⟩ := id ho
      have HU := Lib.hid ho
      have HB1 := Lib.hid (HB.out.bl hb)
      have HO1 := Lib.hid (HO.out.bl hb)
      have hsl := sortedM_len (secO (rowsOf s))
      have HS := Lib.hid (sortedM_spec (S0 ++ secS (L.take k))).1
      have hsl2 := sortedM_len (S0 ++ secS (L.take k))
      rw [List.length_append] at hsl2
      obtain ⟨R, hRe⟩ : ∃ R, R = sortedM (secO (rowsOf s)) := ⟨_, rfl⟩
      obtain ⟨a, hae⟩ : ∃ a, a = sortedM (S0 ++ secS (L.take k)) := ⟨_, rfl⟩
      rw [← hRe] at HU hsl
      rw [← hRe]
      rw [← hae] at HO1 HS hsl2
      have HRe := Lib.hid hRe
      have Hae := Lib.hid hae
      clear ho hb hRe hae HO
      go_wp2_with fail
      go_loopg [29, 3, 7] R.length (fun g i v3 v7 wr => ∃ j : Nat, j ≤ R.length ∧ g = R.length - j ∧ i = .int .i64 j ∧ Hid (intE.Is wr v3 ((R.take j).foldl riseM a)) ∧ Hid (Bl w8 wr))
      case atStart => exact ⟨0, by omega, rfl, rfl, HO1, Lib.hid (Bl.refl _)⟩
      case round =>
        obtain ⟨j, hj, rfl, rfl, HO2, HB2⟩ := hrel
        by_cases hltj : j < R.length
        · obtain ⟨_, _, e5, _, _, _, hat⟩ := HU.out
          simp at e5
          obtain ⟨rfl, e6⟩ := e5
          clear e6
          obtain ⟨ad5, rfl, d5⟩ := int_at (hat.bl HB2.out) j hltj
          have HF := Lib.hid (List.take_succ_eq_append_getElem hltj)
          have hfl := fold_len R a HS.out j
          generalize R[j] = x at *
          obtain ⟨A3, c3, rfl, _⟩ := id HO2.out
          clear hat
          go_wp2_with fail
          refine (rise_any _ _ x _ HO2.out (by omega)).mono ?_
          rintro e w3 ⟨u3, rfl, h3, hb⟩
          have HB3 := Lib.hid (HB2.out.bl hb)
          have H3 := Lib.hid (show intE.Is w3 u3 ((R.take (j + 1)).foldl riseM a) by rw [HF.out, List.foldl_append]; exact h3)
          clear h3 hb
          go_wp2_with fail
          go_roundg (R.length - (j + 1))
          case measure => omega
          case rel => exact ⟨j + 1, by omega, rfl, by go_num, H3, HB3⟩
        · have HE := Lib.hid (show intE.Is wr _ (sortedM (S0 ++ secS (L.take (k + 1)))) by
            have := HO2.out
            rw [List.take_of_length_le (by omega), HRe.out, Hae.out, sorted_fold, List.append_assoc, ← HT.out] at this
            exact this)
          go_wp2_with fail
          go_roundg (hs.length - (k + 1))
          case measure => omega
          case rel => exact ⟨k + 1, by omega, rfl, by go_num, HE, Lib.hid (HB1.out.bl HB2.out)⟩
    · have HE := Lib.hid (show intE.Is wr _ (sortedM (secS (allH m))) by
        have := HO.out
        rw [List.take_of_length_le (by have := HL.out; omega), ← HS0.out] at this
        exact this)
      go_wp2_with fail
      go_ret
      exact ⟨_, rfl, HE.out, HB7.out.bl HB.out⟩
end Go.Proofs.YtddcjekkimajpaaGreat.ExtW

/- Contracts of package history: same, Same, Clone (slices.EqualFunc at rows of states). -/
namespace Go.Proofs.YtddcjekkimajpaaGreat.ExtW
open Go.RowKit Go.Ov Go.Proofs.YtddcjekkimajpaaGreat.Need

def sameSs (a b : List StM) : Bool := decide (a.map rowsOf = b.map rowsOf)
def sameH (m m' : HistM) : Bool := (sameS m.now m'.now && sameSs m.undo m'.undo) && sameSs m.redo m'.redo
theorem hsames1_any (v v' : Value) (s s' : StM) (w : World) (h : StateIs w v s) (h' : StateIs w v' s') (hv : ∀ t ∈ s, validFrom 0 t.2.row = true) (hv' : ∀ t ∈ s', validFrom 0 t.2.row = true) :
    Calls Tryz.prog 77 #[v, v'] w fun e w' => e = .returned (.bool (sameS s s')) ∧ Bl w w' := by
  have H := Lib.hid h
  have H' := Lib.hid h'
  have HV := Lib.hid hv
  have HV' := Lib.hid hv'
  obtain ⟨b, _, _, rfl, _⟩ := h
  obtain ⟨b', _, _, rfl, _⟩ := h'
  clear hv hv'
  go_enter Tryz.func77, Tryz.ntmps77
  go_wp2_with fail
  refine (ssame_any _ _ s s' _ H.out H'.out HV.out HV'.out).mono ?_
  rintro e w1 ⟨rfl, hb⟩
  go_wp2_with fail
  go_ret
  exact ⟨rfl, hb⟩

set_option maxRecDepth 100000 in
set_option maxHeartbeats 1000000 in
theorem eqState_any (v v' : Value) (hs hs' : List Nat) (S S' : List StM) (w : World) (h : ptrE.Is w v hs) (h' : ptrE.Is w v' hs') (hr : SRows w hs S) (hr' : SRows w hs' S')
    (hv : ∀ s ∈ S, ∀ t ∈ s, validFrom 0 t.2.row = true) (hv' : ∀ s ∈ S', ∀ t ∈ s, validFrom 0 t.2.row = true) :
    Calls Tryz.prog 76 #[v, v', .func (.func 77) #[] #[]] w fun e w' => e = .returned (.bool (sameSs S S')) ∧ Bl w w' := by
  obtain ⟨A, c, rfl, h1, h2, h3, h4⟩ := h
  obtain ⟨A', c', rfl, h1', h2', h3', h4'⟩ := h'
  have HA := Lib.hid h4
  have HA' := Lib.hid h4'
  have HR := Lib.hid hr
  have HR' := Lib.hid hr'
  have HLS := Lib.hid hr.1
  have HLS' := Lib.hid hr'.1
  have hl : hs.length ≤ 9223372036854775807 := by unfold maxLen at h2; omega
  have hl' : hs'.length ≤ 9223372036854775807 := by unfold maxLen at h2'; omega
  have HV := Lib.hid hv
  have HV' := Lib.hid hv'
  clear h1 h2 h3 h4 h1' h2' h3' h4' hr hr' hv hv'
  by_cases hlen : hs.length = hs'.length
  · go_enter Tryz.func76, Tryz.ntmps76
    go_wp2_with fail
    have HL := Lib.hid hlen
    clear hlen
    go_loopg [17] hs.length (fun g i wr => ∃ k : Nat, k ≤ hs.length ∧ g = hs.length - k ∧ i = .int .i64 k ∧ Hid ((S.take k).map rowsOf = (S'.take k).map rowsOf) ∧ Hid (Bl w wr))
    case atStart => exact ⟨0, by omega, rfl, rfl, Lib.hid rfl, Lib.hid (Bl.refl _)⟩
    case round =>
      obtain ⟨k, hk, rfl, rfl, HQ, HB⟩ := hrel
      by_cases hlt : k < hs.length
      · have hlt' : k < hs'.length := by have := HL.out; omega
        have hki : (k : Int) < hs.length := by omega
        have hki' : (k : Int) < hs'.length := by omega
        have hks : k < S.length := by have := HLS.out; omega
        have hks' : k < S'.length := by have := HLS'.out; omega
        obtain ⟨ad, rfl, c0⟩ := ptr_at (HA.out.bl HB.out) k hlt
        obtain ⟨ad', rfl, d0⟩ := ptr_at (HA'.out.bl HB.out) k hlt'
        have HT := Lib.hid ((HR.out.2 k _ _ (List.getElem?_eq_getElem hks) (List.getElem?_eq_getElem hlt)).bl HB.out)
        have HT' := Lib.hid ((HR'.out.2 k _ _ (List.getElem?_eq_getElem hks') (List.getElem?_eq_getElem hlt')).bl HB.out)
        have ht := Lib.hid (List.take_succ_eq_append_getElem hks)
        have ht' := Lib.hid (List.take_succ_eq_append_getElem hks')
        have HX := Lib.hid (HV.out _ (List.getElem_mem hks))
        have HX' := Lib.hid (HV'.out _ (List.getElem_mem hks'))
        have hne := Lib.hid (fun h : S.map rowsOf = S'.map rowsOf => show rowsOf S[k] = rowsOf S'[k] by
          have h0 : (S.map rowsOf)[k]? = (S'.map rowsOf)[k]? := by rw [h]
          simpa [List.getElem?_eq_getElem hks, List.getElem?_eq_getElem hks'] using h0)
        generalize S[k] = x at *
        generalize S'[k] = x' at *
        generalize hs[k] = y at *
        generalize hs'[k] = y' at *
        go_wp2_with fail
        refine (hsames1_any _ _ x x' _ HT.out HT'.out HX.out HX'.out).mono ?_
        rintro e w1 ⟨rfl, hb⟩
        have HB1 := Lib.hid (HB.out.bl hb)
        clear hb HT HT'
        cases hq : sameS x x'
        · have HQ1 := Lib.hid (show ¬ rowsOf x = rowsOf x' from by unfold sameS at hq; exact of_decide_eq_false hq)
          clear hq
          go_wp2_with fail
          go_ret
          exact ⟨ret_bool (decide_eq_false (fun h => HQ1.out (hne.out h))).symm, HB1.out⟩
        · have HQ1 := Lib.hid (show rowsOf x = rowsOf x' from by unfold sameS at hq; exact of_decide_eq_true hq)
          clear hq
          go_wp2_with fail
          go_roundg (hs.length - (k + 1))
          case measure => omega
          case rel => exact ⟨k + 1, by omega, rfl, by go_num, Lib.hid (by rw [ht.out, ht'.out, List.map_append, List.map_append, HQ.out, List.map_singleton, List.map_singleton, HQ1.out]), HB1⟩
      · have hn2 : ¬ (k : Int) < hs'.length := by have := HL.out; omega
        go_wp2_with fail
        go_ret
        refine ⟨ret_bool ?_, HB.out⟩
        symm; unfold sameSs; rw [decide_eq_true_eq]
        have h := HQ.out
        have := HL.out
        have := HLS.out
        have := HLS'.out
        rwa [List.take_of_length_le (by omega), List.take_of_length_le (by omega)] at h
  · have hd : sameSs S S' = false := decide_eq_false (fun h => hlen (by have := congrArg List.length h; simp at this; have := HLS.out; have := HLS'.out; omega))
    have HD := Lib.hid hd
    clear hd
    go_enter Tryz.func76, Tryz.ntmps76
    go_wp2_with fail
    go_ret
    exact ⟨ret_bool HD.out.symm, Bl.refl _⟩

theorem hsames_any (v v' : Value) (hs hs' : List Nat) (S S' : List StM) (w : World) (h : ptrE.Is w v hs) (h' : ptrE.Is w v' hs') (hr : SRows w hs S) (hr' : SRows w hs' S')
    (hv : ∀ s ∈ S, ∀ t ∈ s, validFrom 0 t.2.row = true) (hv' : ∀ s ∈ S', ∀ t ∈ s, validFrom 0 t.2.row = true) :
    Calls Tryz.prog 49 #[v, v'] w fun e w' => e = .returned (.bool (sameSs S S')) ∧ Bl w w' := by
  have H := Lib.hid h
  have H' := Lib.hid h'
  have HR := Lib.hid hr
  have HR' := Lib.hid hr'
  have HV := Lib.hid hv
  have HV' := Lib.hid hv'
  obtain ⟨A, c, rfl, _⟩ := h
  obtain ⟨A', c', rfl, _⟩ := h'
  clear hr hr' hv hv'
  go_enter Tryz.func49, Tryz.ntmps49
  go_wp2_with fail
  refine (eqState_any _ _ hs hs' S S' _ H.out H'.out HR.out HR'.out HV.out HV'.out).mono ?_
  rintro e w1 ⟨rfl, hb⟩
  go_wp2_with fail
  go_ret
  exact ⟨rfl, hb⟩

set_option maxRecDepth 100000 in
set_option maxHeartbeats 1000000 in
theorem hsame_any (B B' : Nat) (m m' : HistM) (w : World) (h : HistIs 59 w B m) (h' : HistIs 59 w B' m') (hm : ∀ s ∈ allH m, SOK s) (hm' : ∀ s ∈ allH m', SOK s) :
    Calls Tryz.prog 22 #[.pointer (some ⟨B, 0, none⟩), .pointer (some ⟨B', 0, none⟩)] w fun e w' => e = .returned (.bool (sameH m m')) ∧ Bl w w' := by
  obtain ⟨n, u, q, us, rs, h0, h1, h2, h3, h4, h5⟩ := h
  obtain ⟨n', u', q', us', rs', h0', h1', h2', h3', h4', h5'⟩ := h'
  have HN := Lib.hid h1
  have HN' := Lib.hid h1'
  have HS := Lib.hid h4
  have HS' := Lib.hid h4'
  have HT := Lib.hid h5
  have HT' := Lib.hid h5'
  have HM := Lib.hid (fun s (hs : s ∈ allH m) => (hm s hs).1.2)
  have HM' := Lib.hid (fun s (hs : s ∈ allH m') => (hm' s hs).1.2)
  obtain ⟨uA, un, uc⟩ := u
  obtain ⟨qA, qn, qc⟩ := q
  obtain ⟨uA', un', uc'⟩ := u'
  obtain ⟨qA', qn', qc'⟩ := q'
  have HU := Lib.hid h2.1
  have HR := Lib.hid h3.1
  have HU' := Lib.hid h2'.1
  have HR' := Lib.hid h3'.1
  have c0 := (Bl.refl w).drew.cell (h0.cell 0)
  have c1 := (Bl.refl w).drew.cell (h0.cell 1)
  have c2 := (Bl.refl w).drew.cell (h0.cell 2)
  have d0 := (Bl.refl w).drew.cell (h0'.cell 0)
  have d1 := (Bl.refl w).drew.cell (h0'.cell 1)
  have d2 := (Bl.refl w).drew.cell (h0'.cell 2)
  simp [histC, Head.v] at c0 c1 c2 d0 d1 d2
  simp only [Head.v] at HU HR HU' HR'
  have huh := Tryz.underlying59
  clear h0 h1 h2 h3 h4 h5 h0' h1' h2' h3' h4' h5' hm hm'
  go_enter Tryz.func22, Tryz.ntmps22
  go_wp2_with fail
  refine wp_region_ways (S := (fun w' => w'.cell? ⟨B, 0, none⟩ = some (.pointer (some ⟨n, 0, none⟩)) ∧ w'.cell? ⟨B, 1, none⟩ = some (.slice uA un uc) ∧ w'.cell? ⟨B, 2, none⟩ = some (.slice qA qn qc) ∧ w'.cell? ⟨B', 0, none⟩ = some (.pointer (some ⟨n', 0, none⟩)) ∧ w'.cell? ⟨B', 1, none⟩ = some (.slice uA' un' uc') ∧ w'.cell? ⟨B', 2, none⟩ = some (.slice qA' qn' qc'))) [0, 1, 2, 3, 4, 5, 6, 7, 9, 10, 11, 12, 13, 14, 15, 16, 17, 19, 20, 21, 22, 23, 24, 25, 26, 27, 28, 30, 31] (y := .take 0 (.take 1 (.take 2 (.take 3 (.take 4 (.take 5 (.take 6 (.take 7 (.ev 8 (.take 9 (.take 10 (.take 11 (.take 12 (.take 13 (.take 14 (.take 15 (.take 16 (.take 17 (.ev 18 (.take 19 (.take 20 (.take 21 (.take 22 (.take 23 (.take 24 (.take 25 (.take 26 (.take 27 (.take 28 (.ev 29 (.take 30 (.take 31 (.done))) (.stop)))))))))))) (.stop))))))))))) (.stop)))))))))) (by kernel_rfl) (by kernel_rfl) (by kernel_rfl) ?_ (fun hHeld => ?_)
  · exact ⟨c0, c1, c2, d0, d1, d2⟩
  have HH := Lib.hid hHeld
  have HB := Lib.hid (Bl.refl w).drew
  repeat (first | (refine wpWay_take rfl (by rfl) (by intro w hSw; (try dsimp only at hSw); first | (go_simp; done) | (go_simp; with_reducible rfl)) ?_; try simp only [Act.put, List.setIfInBounds_toArray, List.set_cons_zero, List.set_cons_succ]) | (refine wpWay_skip rfl (by rfl) ?_; try simp only [Act.put, List.setIfInBounds_toArray, List.set_cons_zero, List.set_cons_succ]))
  clear hHeld c0 c1 c2 d0 d1 d2
  refine wpWay_ev rfl (fun K hK => ?_) wpWay_stop
  go_wp2_with fail
  refine (ssame_any _ _ m.now m'.now _ (HN.out.bl HB.out) (HN'.out.bl HB.out) (HM.out _ (by simp [allH])) (HM'.out _ (by simp [allH]))).mono ?_
  rintro e w1 ⟨rfl, hb⟩
  have HB1 := Lib.hid (HB.out.bl hb)
  replace HH := Lib.hid (And.intro (hb.cell HH.out.1) (And.intro (hb.cell HH.out.2.1) (And.intro (hb.cell HH.out.2.2.1) (And.intro (hb.cell HH.out.2.2.2.1) (And.intro (hb.cell HH.out.2.2.2.2.1) (hb.cell HH.out.2.2.2.2.2))))))
  clear hb HB
  cases hx1 : sameS m.now m'.now
  · have HX1 := Lib.hid hx1
    clear hx1
    go_wp2_with fail
    refine ⟨HH.out, ?_⟩
    repeat (first | (refine wpWay_take rfl (by rfl) (by intro w hSw; (try dsimp only at hSw); first | (go_simp; done) | (go_simp; with_reducible rfl)) ?_; try simp only [Act.put, List.setIfInBounds_toArray, List.set_cons_zero, List.set_cons_succ]) | (refine wpWay_skip rfl (by rfl) ?_; try simp only [Act.put, List.setIfInBounds_toArray, List.set_cons_zero, List.set_cons_succ]))
    refine wpWay_pass rfl (by rfl) HH.out ?_ wpWay_stop
    try simp only [Act.put, List.setIfInBounds_toArray, List.set_cons_zero, List.set_cons_succ]
    repeat (first | (refine wpWay_take rfl (by rfl) (by intro w hSw; (try dsimp only at hSw); first | (go_simp; done) | (go_simp; with_reducible rfl)) ?_; try simp only [Act.put, List.setIfInBounds_toArray, List.set_cons_zero, List.set_cons_succ]) | (refine wpWay_skip rfl (by rfl) ?_; try simp only [Act.put, List.setIfInBounds_toArray, List.set_cons_zero, List.set_cons_succ]))
    refine wpWay_pass rfl (by rfl) HH.out ?_ wpWay_stop
    try simp only [Act.put, List.setIfInBounds_toArray, List.set_cons_zero, List.set_cons_succ]
    repeat (first | (refine wpWay_take rfl (by rfl) (by intro w hSw; (try dsimp only at hSw); first | (go_simp; done) | (go_simp; with_reducible rfl)) ?_; try simp only [Act.put, List.setIfInBounds_toArray, List.set_cons_zero, List.set_cons_succ]) | (refine wpWay_skip rfl (by rfl) ?_; try simp only [Act.put, List.setIfInBounds_toArray, List.set_cons_zero, List.set_cons_succ]))
    refine wpWay_done ?_
    go_wp2_with fail
    go_ret
    exact ⟨ret_bool (by unfold sameH; rw [HX1.out]; rfl), HB1.out⟩
  · have HX1 := Lib.hid hx1
    clear hx1
    go_wp2_with fail
    refine ⟨HH.out, ?_⟩
    repeat (first | (refine wpWay_take rfl (by rfl) (by intro w hSw; (try dsimp only at hSw); first | (go_simp; done) | (go_simp; with_reducible rfl)) ?_; try simp only [Act.put, List.setIfInBounds_toArray, List.set_cons_zero, List.set_cons_succ]) | (refine wpWay_skip rfl (by rfl) ?_; try simp only [Act.put, List.setIfInBounds_toArray, List.set_cons_zero, List.set_cons_succ]))
    refine wpWay_ev rfl (fun K hK => ?_) wpWay_stop
    go_wp2_with fail
    refine (hsames_any _ _ us us' m.undo m'.undo _ (HU.out.bl HB1.out) (HU'.out.bl HB1.out) (HS.out.bl HB1.out) (HS'.out.bl HB1.out) (fun s hs => HM.out s (by simp [allH, hs])) (fun s hs => HM'.out s (by simp [allH, hs]))).mono ?_
    rintro e w2 ⟨rfl, hb⟩
    have HB2 := Lib.hid (HB1.out.bl hb)
    replace HH := Lib.hid (And.intro (hb.cell HH.out.1) (And.intro (hb.cell HH.out.2.1) (And.intro (hb.cell HH.out.2.2.1) (And.intro (hb.cell HH.out.2.2.2.1) (And.intro (hb.cell HH.out.2.2.2.2.1) (hb.cell HH.out.2.2.2.2.2))))))
    clear hb HB1
    cases hx2 : sameSs m.undo m'.undo
    · have HX2 := Lib.hid hx2
      clear hx2
      go_wp2_with fail
      refine ⟨HH.out, ?_⟩
      repeat (first | (refine wpWay_take rfl (by rfl) (by intro w hSw; (try dsimp only at hSw); first | (go_simp; done) | (go_simp; with_reducible rfl)) ?_; try simp only [Act.put, List.setIfInBounds_toArray, List.set_cons_zero, List.set_cons_succ]) | (refine wpWay_skip rfl (by rfl) ?_; try simp only [Act.put, List.setIfInBounds_toArray, List.set_cons_zero, List.set_cons_succ]))
      refine wpWay_pass rfl (by rfl) HH.out ?_ wpWay_stop
      try simp only [Act.put, List.setIfInBounds_toArray, List.set_cons_zero, List.set_cons_succ]
      repeat (first | (refine wpWay_take rfl (by rfl) (by intro w hSw; (try dsimp only at hSw); first | (go_simp; done) | (go_simp; with_reducible rfl)) ?_; try simp only [Act.put, List.setIfInBounds_toArray, List.set_cons_zero, List.set_cons_succ]) | (refine wpWay_skip rfl (by rfl) ?_; try simp only [Act.put, List.setIfInBounds_toArray, List.set_cons_zero, List.set_cons_succ]))
      refine wpWay_done ?_
      go_wp2_with fail
      go_ret
      exact ⟨ret_bool (by unfold sameH; rw [HX1.out, HX2.out]; rfl), HB2.out⟩
    · have HX2 := Lib.hid hx2
      clear hx2
      go_wp2_with fail
      refine ⟨HH.out, ?_⟩
      repeat (first | (refine wpWay_take rfl (by rfl) (by intro w hSw; (try dsimp only at hSw); first | (go_simp; done) | (go_simp; with_reducible rfl)) ?_; try simp only [Act.put, List.setIfInBounds_toArray, List.set_cons_zero, List.set_cons_succ]) | (refine wpWay_skip rfl (by rfl) ?_; try simp only [Act.put, List.setIfInBounds_toArray, List.set_cons_zero, List.set_cons_succ]))
      refine wpWay_ev rfl (fun K hK => ?_) wpWay_stop
      go_wp2_with fail
      refine (hsames_any _ _ rs rs' m.redo m'.redo _ (HR.out.bl HB2.out) (HR'.out.bl HB2.out) (HT.out.bl HB2.out) (HT'.out.bl HB2.out) (fun s hs => HM.out s (by simp [allH, hs])) (fun s hs => HM'.out s (by simp [allH, hs]))).mono ?_
      rintro e w3 ⟨rfl, hb⟩
      have HB3 := Lib.hid (HB2.out.bl hb)
      replace HH := Lib.hid (And.intro (hb.cell HH.out.1) (And.intro (hb.cell HH.out.2.1) (And.intro (hb.cell HH.out.2.2.1) (And.intro (hb.cell HH.out.2.2.2.1) (And.intro (hb.cell HH.out.2.2.2.2.1) (hb.cell HH.out.2.2.2.2.2))))))
      clear hb HB2
      go_wp2_with fail
      refine ⟨HH.out, ?_⟩
      repeat (first | (refine wpWay_take rfl (by rfl) (by intro w hSw; (try dsimp only at hSw); first | (go_simp; done) | (go_simp; with_reducible rfl)) ?_; try simp only [Act.put, List.setIfInBounds_toArray, List.set_cons_zero, List.set_cons_succ]) | (refine wpWay_skip rfl (by rfl) ?_; try simp only [Act.put, List.setIfInBounds_toArray, List.set_cons_zero, List.set_cons_succ]))
      refine wpWay_done ?_
      go_wp2_with fail
      go_ret
      exact ⟨ret_bool (by unfold sameH; rw [HX1.out, HX2.out]; rfl), HB3.out⟩

set_option maxRecDepth 100000 in
set_option maxHeartbeats 1000000 in
theorem hcloneH_any (B : Nat) (m : HistM) (w : World) (h : HistIs 59 w B m) (hn : m.undo.length ≤ 4) (hn' : m.redo.length ≤ 4) :
    Calls Tryz.prog 18 #[.pointer (some ⟨B, 0, none⟩)] w fun e w' => ∃ B', e = .returned (.pointer (some ⟨B', 0, none⟩)) ∧ w.heap.size ≤ B' ∧ HistIs 59 w' B' m ∧ Bl w w' := by
  obtain ⟨n, u, q, us, rs, h0, h1, h2, h3, h4, h5⟩ := h
  have HBk := Lib.hid h0
  have hl1 : us.length ≤ 4 := by have := h4.1; omega
  have hl2 : rs.length ≤ 4 := by have := h5.1; omega
  have HL1 := Lib.hid hl1
  have HL2 := Lib.hid hl2
  obtain ⟨uA, un, uc⟩ := u
  obtain ⟨qA, qn, qc⟩ := q
  have HU := Lib.hid h2.1
  have HR := Lib.hid h3.1
  have HN := Lib.hid h1
  have HS := Lib.hid h4
  have HT := Lib.hid h5
  have c0 := (Bl.refl w).drew.cell (h0.cell 0)
  have c1 := (Bl.refl w).drew.cell (h0.cell 1)
  have c2 := (Bl.refl w).drew.cell (h0.cell 2)
  simp [histC, Head.v] at c0 c1 c2
  simp only [Head.v] at HU HR
  have huh := Tryz.underlying59
  clear h0 h1 h2 h3 h4 h5 hn hn' hl1 hl2
  go_enter Tryz.func18, Tryz.ntmps18
  go_wp2_with fail
  refine wp_region_ways (S := (fun w' => w'.cell? ⟨B, 0, none⟩ = some (.pointer (some ⟨n, 0, none⟩)) ∧ w'.cell? ⟨B, 1, none⟩ = some (.slice uA un uc) ∧ w'.cell? ⟨B, 2, none⟩ = some (.slice qA qn qc))) [0, 1, 2, 3, 4, 5, 6, 7, 9, 10, 11, 12, 14, 16] (y := .take 0 (.take 1 (.take 2 (.take 3 (.take 4 (.take 5 (.take 6 (.take 7 (.take 9 (.take 10 (.take 11 (.take 12 (.ev 8 (.ev 13 (.take 14 (.ev 15 (.take 16 (.done)) (.stop))) (.stop)) (.stop)))))))))))))) (by kernel_rfl) (by kernel_rfl) (by kernel_rfl) ?_ (fun hHeld => ?_)
  · exact ⟨c0, c1, c2⟩
  have HH := Lib.hid hHeld
  have HB := Lib.hid (Bl.refl w).drew
  repeat (first | (refine wpWay_take rfl (by rfl) (by intro w hSw; (try dsimp only at hSw); first | (go_simp; done) | (go_simp; with_reducible rfl)) ?_; try simp only [Act.put, List.setIfInBounds_toArray, List.set_cons_zero, List.set_cons_succ]) | (refine wpWay_skip rfl (by rfl) ?_; try simp only [Act.put, List.setIfInBounds_toArray, List.set_cons_zero, List.set_cons_succ]))
  clear hHeld c0 c1 c2
  refine wpWay_ev rfl (fun K hK => ?_) wpWay_stop
  go_wp2_with fail
  refine (hclone_any _ us _ (HU.out.bl HB.out) (by have := HL1.out; omega)).mono ?_
  rintro e w1 ⟨u, rfl, ho, hb⟩
  have HB1 := Lib.hid (HB.out.bl hb)
  have HO1 := Lib.hid ho
  obtain ⟨A1, c1, rfl⟩ := ho.slice
  replace HH := Lib.hid (And.intro (hb.cell HH.out.1) (And.intro (hb.cell HH.out.2.1) (hb.cell HH.out.2.2)))
  go_wp2_with fail
  refine ⟨HH.out, ?_⟩
  repeat (first | (refine wpWay_take rfl (by rfl) (by intro w hSw; (try dsimp only at hSw); first | (go_simp; done) | (go_simp; with_reducible rfl)) ?_; try simp only [Act.put, List.setIfInBounds_toArray, List.set_cons_zero, List.set_cons_succ]) | (refine wpWay_skip rfl (by rfl) ?_; try simp only [Act.put, List.setIfInBounds_toArray, List.set_cons_zero, List.set_cons_succ]))
  refine wpWay_ev rfl (fun K hK => ?_) wpWay_stop
  go_wp2_with fail
  have hsz1 := HB1.out.size
  refine (hclone_any _ rs _ (HR.out.bl HB1.out) (by have := HL2.out; omega)).mono ?_
  rintro e w2 ⟨u, rfl, ho, hb⟩
  have HB2 := Lib.hid (HB1.out.bl hb)
  have HO2 := Lib.hid ho
  obtain ⟨A2, c2, rfl⟩ := ho.slice
  replace HH := Lib.hid (And.intro (hb.cell HH.out.1) (And.intro (hb.cell HH.out.2.1) (hb.cell HH.out.2.2)))
  go_wp2_with fail
  refine ⟨HH.out, ?_⟩
  repeat (first | (refine wpWay_take rfl (by rfl) (by intro w hSw; (try dsimp only at hSw); first | (go_simp; done) | (go_simp; with_reducible rfl)) ?_; try simp only [Act.put, List.setIfInBounds_toArray, List.set_cons_zero, List.set_cons_succ]) | (refine wpWay_skip rfl (by rfl) ?_; try simp only [Act.put, List.setIfInBounds_toArray, List.set_cons_zero, List.set_cons_succ]))
  have hsz2 := hb.size
  have hsz := HB2.out.size
  refine wpWay_ev rfl (fun K hK => ?_) wpWay_stop
  go_wp2_with fail
  have ha := (Bl.refl _).alloc (a := w2) (.cells #[.pointer (some ⟨n, 0, none⟩), .slice A1 us.length c1, .slice A2 rs.length c2] 59)
  refine ⟨⟨ha.cell HH.out.1, ha.cell HH.out.2.1, ha.cell HH.out.2.2⟩, ?_⟩
  repeat (first | (refine wpWay_take rfl (by rfl) (by intro w hSw; (try dsimp only at hSw); first | (go_simp; done) | (go_simp; with_reducible rfl)) ?_; try simp only [Act.put, List.setIfInBounds_toArray, List.set_cons_zero, List.set_cons_succ]) | (refine wpWay_skip rfl (by rfl) ?_; try simp only [Act.put, List.setIfInBounds_toArray, List.set_cons_zero, List.set_cons_succ]))
  refine wpWay_done ?_
  go_wp2_with fail
  go_ret
  refine ⟨w2.heap.size, rfl, hsz, ?_, HB2.out.bl ha⟩
  have hbl := HB2.out.bl ha
  exact ⟨n, ⟨A1, us.length, c1⟩, ⟨A2, rs.length, c2⟩, us, rs, Blk.new _ _ _, HN.out.bl hbl, ((OffIs.own HO1.out hsz2).bl hb).bl ha, (OffIs.own HO2.out (Nat.le_refl _)).bl ha, HS.out.bl hbl, HT.out.bl hbl⟩
end Go.Proofs.YtddcjekkimajpaaGreat.ExtW

/- Contract of overdublaw22.same: a history and the document's. -/
namespace Go.Proofs.YtddcjekkimajpaaGreat.ExtW
open Go.RowKit Go.Ov Go.Proofs.YtddcjekkimajpaaGreat.Need

set_option maxRecDepth 100000 in
set_option maxHeartbeats 4000000 in
theorem same22_any (B : Nat) (v : Value) (m : HistM) (w : World) (h : HistIs 59 w B m) (h' : RHIs w v m) (hm : HOK m) :
    Calls Tryz.prog 23 #[.pointer (some ⟨B, 0, none⟩), v] w fun e w' => e = .returned (.bool true) ∧ Bl w w' := by
  obtain ⟨hk1, hk2, hk3, hn, hn'⟩ := hm
  have HH0 := Lib.hid h
  have HR0 := Lib.hid h'
  have HK1 := Lib.hid hk1
  have HK2 := Lib.hid hk2
  have HK3 := Lib.hid hk3
  have HN := Lib.hid hn
  have HN' := Lib.hid hn'
  have HALL := Lib.hid (show ∀ s ∈ allH m, SOK s from fun s hs => by
    simp only [allH, List.cons_append, List.mem_cons, List.mem_append] at hs
    rcases hs with rfl | hs | hs
    · exact hk1.1
    · exact (hk2 s hs).1
    · exact (hk3 s hs).1)
  obtain ⟨a, b, c, rfl, h1, h2, h3⟩ := h'
  obtain ⟨Aa, na, cca, rfl⟩ : ∃ A' n' c', a = .slice A' n' c' := by obtain ⟨A', c', e'⟩ := h1.slice; exact ⟨A', _, c', e'⟩
  obtain ⟨hs2, hI2, hr2⟩ := h2
  obtain ⟨hs3, hI3, hr3⟩ := h3
  obtain ⟨Ab, ccb, rfl, _, _, _, hA2⟩ := id hI2
  obtain ⟨Ac, ccc, rfl, _, _, _, hA3⟩ := id hI3
  have HA2 := Lib.hid hA2
  have HA3 := Lib.hid hA3
  have HR2 := Lib.hid hr2
  have HR3 := Lib.hid hr3
  have HL2 := Lib.hid hr2.1
  have HL3 := Lib.hid hr3.1
  have HLn := Lib.hid h1
  have hl2 : hs2.length ≤ 4 := by rw [hr2.1]; exact hn
  have hl3 : hs3.length ≤ 4 := by rw [hr3.1]; exact hn'
  have huh := Tryz.underlying30
  clear h h1 hI2 hI3 hr2 hr3 hA2 hA3 hk1 hk2 hk3 hn hn'
  go_enter Tryz.func23, Tryz.ntmps23
  go_wp2_with fail
  have hB0 := (Bl.refl w).alloc (.cells #[.slice Aa na cca, .slice Ab hs2.length ccb, .slice Ac hs3.length ccc] 30)
  have HBlk := Lib.hid (Blk.new w #[.slice Aa na cca, .slice Ab hs2.length ccb, .slice Ac hs3.length ccc] 30)
  refine (hundo_any B m _ (HH0.out.bl hB0) HN.out).mono ?_
  rintro e w1 ⟨u1, us, rfl, ho1, hs1, hb⟩
  obtain ⟨A1, c1, rfl⟩ := ho1.slice
  have HB1 := Lib.hid (hB0.bl hb)
  have HU1 := Lib.hid ho1.is
  have HS1 := Lib.hid hs1
  have hlu : us.length = hs2.length := by rw [hs1.1, HL2.out]
  replace HBlk := Lib.hid (HBlk.out.bl hb)
  clear ho1 hs1 hb hB0
  go_wp2_with fail
  refine (hredo_any B m _ (HH0.out.bl HB1.out) HN'.out).mono ?_
  rintro e w2 ⟨u2, rs, rfl, ho2, hs2', hb⟩
  obtain ⟨A2, c2, rfl⟩ := ho2.slice
  have HB2 := Lib.hid (HB1.out.bl hb)
  have HU2 := Lib.hid ho2.is
  have HS2 := Lib.hid hs2'
  have hlr : rs.length = hs3.length := by rw [hs2'.1, HL3.out]
  replace HU1 := Lib.hid (HU1.out.bl hb)
  replace HS1 := Lib.hid (HS1.out.bl hb)
  replace HBlk := Lib.hid (HBlk.out.bl hb)
  rw [hlr]
  have HLU := Lib.hid hlu
  have HLR := Lib.hid hlr
  have q0 := HBlk.out.cell 0
  have q1 := HBlk.out.cell 1
  have q2 := HBlk.out.cell 2
  simp at q0 q1 q2
  clear ho2 hs2' hb HB1 hlu hlr
  go_wp2_with fail
  refine wp_region_ways (S := (fun w' => w'.cell? ⟨w.heap.size, 0, none⟩ = some (.slice Aa na cca) ∧ w'.cell? ⟨w.heap.size, 1, none⟩ = some (.slice Ab hs2.length ccb) ∧ w'.cell? ⟨w.heap.size, 2, none⟩ = some (.slice Ac hs3.length ccc))) [0, 2, 3, 4, 6, 7, 9, 10, 11, 12, 13, 14, 15, 16, 17, 18, 19, 20, 21, 22, 23, 24, 25, 26, 27, 28, 30, 33, 34] (y := .take 0 (.ev 1 (.take 2 (.take 3 (.take 4 (.take 6 (.take 7 (.ev 5 (.ev 8 (.take 9 (.take 10 (.take 11 (.take 12 (.take 13 (.take 14 (.take 15 (.take 16 (.take 17 (.take 18 (.take 19 (.take 20 (.take 21 (.take 22 (.take 23 (.take 24 (.take 25 (.take 26 (.take 27 (.take 28 (.take 30 (.ev 29 (.ev 31 (.ev 32 (.take 33 (.take 34 (.done))) (.stop)) (.stop)) (.stop))))))))))))))))))))))) (.stop)) (.stop))))))) (.stop))) (by kernel_rfl) (by kernel_rfl) (by kernel_rfl) ?_ (fun hHeld => ?_)
  · exact ⟨(Bl.refl _).drew.cell q0, (Bl.refl _).drew.cell q1, (Bl.refl _).drew.cell q2⟩
  have HH := Lib.hid hHeld
  have HB3 := Lib.hid HB2.out.drew
  have HC := Lib.hid (Bl.refl w2).drew
  clear hHeld q0 q1 q2
  repeat (first | (refine wpWay_take rfl (by rfl) (by intro w hSw; (try dsimp only at hSw); first | (go_simp; done) | (go_simp; with_reducible rfl)) ?_; try simp only [Act.put, List.setIfInBounds_toArray, List.set_cons_zero, List.set_cons_succ]) | (refine wpWay_skip rfl (by rfl) ?_; try simp only [Act.put, List.setIfInBounds_toArray, List.set_cons_zero, List.set_cons_succ]))
  refine wpWay_ev rfl (fun K hK => ?_) wpWay_stop
  go_wp2_with fail
  refine (hnow_any B m _ (HH0.out.bl HB3.out)).mono ?_
  rintro e w4 ⟨u4, rfl, hst, rfl⟩
  obtain ⟨b4, _, _, rfl, _⟩ := id hst
  clear hst
  go_wp2_with fail
  refine ⟨HH.out, ?_⟩
  repeat (first | (refine wpWay_take rfl (by rfl) (by intro w hSw; (try dsimp only at hSw); first | (go_simp; done) | (go_simp; with_reducible rfl)) ?_; try simp only [Act.put, List.setIfInBounds_toArray, List.set_cons_zero, List.set_cons_succ]) | (refine wpWay_skip rfl (by rfl) ?_; try simp only [Act.put, List.setIfInBounds_toArray, List.set_cons_zero, List.set_cons_succ]))
  refine wpWay_ev rfl (fun K hK => ?_) wpWay_stop
  go_wp2_with fail
  refine (hnow_any B m _ (HH0.out.bl HB3.out)).mono ?_
  rintro e w4 ⟨u5, rfl, hst, rfl⟩
  have HST := Lib.hid hst
  obtain ⟨b5, _, _, rfl, _⟩ := id hst
  clear hst
  go_wp2_with fail
  refine ⟨HH.out, ?_⟩
  repeat (first | (refine wpWay_take rfl (by rfl) (by intro w hSw; (try dsimp only at hSw); first | (go_simp; done) | (go_simp; with_reducible rfl)) ?_; try simp only [Act.put, List.setIfInBounds_toArray, List.set_cons_zero, List.set_cons_succ]) | (refine wpWay_skip rfl (by rfl) ?_; try simp only [Act.put, List.setIfInBounds_toArray, List.set_cons_zero, List.set_cons_succ]))
  refine wpWay_ev rfl (fun K hK => ?_) wpWay_stop
  go_wp2_with fail
  refine (same21_any _ _ m.now _ HST.out (HLn.out.bl HB3.out) HK1.out).mono ?_
  rintro e w5 ⟨rfl, hb⟩
  have HB5 := Lib.hid (HB3.out.bl hb)
  replace HC := Lib.hid (HC.out.bl hb)
  replace HH := Lib.hid (And.intro (hb.cell HH.out.1) (And.intro (hb.cell HH.out.2.1) (hb.cell HH.out.2.2)))
  clear hb
  go_wp2_with fail
  refine ⟨HH.out, ?_⟩
  repeat (first | (refine wpWay_take rfl (by rfl) (by intro w hSw; (try dsimp only at hSw); first | (go_simp; done) | (go_simp; with_reducible rfl)) ?_; try simp only [Act.put, List.setIfInBounds_toArray, List.set_cons_zero, List.set_cons_succ]) | (refine wpWay_skip rfl (by rfl) ?_; try simp only [Act.put, List.setIfInBounds_toArray, List.set_cons_zero, List.set_cons_succ]))
  refine wpWay_ev rfl (fun K hK => ?_) wpWay_stop
  go_wp2_with fail
  refine (hsect_any B m _ (HH0.out.bl HB5.out) HALL.out HN.out HN'.out).mono ?_
  rintro e w6 ⟨u6, rfl, hi6, hb⟩
  have HB6 := Lib.hid (HB5.out.bl hb)
  replace HC := Lib.hid (HC.out.bl hb)
  replace HH := Lib.hid (And.intro (hb.cell HH.out.1) (And.intro (hb.cell HH.out.2.1) (hb.cell HH.out.2.2)))
  clear hb
  have HI6 := Lib.hid hi6
  obtain ⟨S, hS⟩ : ∃ S, S = sortedM (secS (allH m)) := ⟨_, rfl⟩
  rw [← hS] at HI6
  have HS := Lib.hid hS
  obtain ⟨A6, c6, rfl, _⟩ := id hi6
  clear hi6 hS
  go_wp2_with fail
  refine ⟨HH.out, ?_⟩
  repeat (first | (refine wpWay_take rfl (by rfl) (by intro w hSw; (try dsimp only at hSw); first | (go_simp; done) | (go_simp; with_reducible rfl)) ?_; try simp only [Act.put, List.setIfInBounds_toArray, List.set_cons_zero, List.set_cons_succ]) | (refine wpWay_skip rfl (by rfl) ?_; try simp only [Act.put, List.setIfInBounds_toArray, List.set_cons_zero, List.set_cons_succ]))
  refine wpWay_ev rfl (fun K hK => ?_) wpWay_stop
  go_wp2_with fail
  refine (hsect20_any _ m _ (HR0.out.bl HB6.out) HALL.out HN.out HN'.out).mono ?_
  rintro e w7 ⟨u7, rfl, hi7, hb7⟩
  have HB7 := Lib.hid (HB6.out.bl hb7)
  replace HC := Lib.hid (HC.out.bl hb7)
  replace HH := Lib.hid (And.intro (hb7.cell HH.out.1) (And.intro (hb7.cell HH.out.2.1) (hb7.cell HH.out.2.2)))
  rw [← HS.out] at hi7
  have HI7 := Lib.hid hi7
  obtain ⟨A7, c7, rfl, _⟩ := id hi7
  clear hi7
  have HI6' := Lib.hid (HI6.out.bl hb7)
  clear hb7
  go_wp2_with fail
  refine ⟨HH.out, ?_⟩
  repeat (first | (refine wpWay_take rfl (by rfl) (by intro w hSw; (try dsimp only at hSw); first | (go_simp; done) | (go_simp; with_reducible rfl)) ?_; try simp only [Act.put, List.setIfInBounds_toArray, List.set_cons_zero, List.set_cons_succ]) | (refine wpWay_skip rfl (by rfl) ?_; try simp only [Act.put, List.setIfInBounds_toArray, List.set_cons_zero, List.set_cons_succ]))
  refine wpWay_ev rfl (fun K hK => ?_) wpWay_stop
  go_wp2_with fail
  refine (sameInt_any _ _ _ _ _ HI6'.out HI7.out).mono ?_
  rintro e w8 ⟨rfl, hb⟩
  have HB8 := Lib.hid (HB7.out.bl hb)
  replace HC := Lib.hid (HC.out.bl hb)
  replace HH := Lib.hid (And.intro (hb.cell HH.out.1) (And.intro (hb.cell HH.out.2.1) (hb.cell HH.out.2.2)))
  clear hb
  rw [show decide (S = S) = true from by simp]
  go_wp2_with fail
  refine ⟨HH.out, ?_⟩
  repeat (first | (refine wpWay_take rfl (by rfl) (by intro w hSw; (try dsimp only at hSw); first | (go_simp; done) | (go_simp; with_reducible rfl)) ?_; try simp only [Act.put, List.setIfInBounds_toArray, List.set_cons_zero, List.set_cons_succ]) | (refine wpWay_skip rfl (by rfl) ?_; try simp only [Act.put, List.setIfInBounds_toArray, List.set_cons_zero, List.set_cons_succ]))
  refine wpWay_done ?_
  go_wp2_with fail
  go_loopg [50] hs2.length (fun g i wr => ∃ k : Nat, k ≤ hs2.length ∧ g = hs2.length - k ∧ i = .int .i64 k ∧ Hid (Bl w wr) ∧ Hid (Bl w2 wr))
  case atStart => exact ⟨0, by omega, rfl, rfl, HB8, HC⟩
  case round =>
    obtain ⟨k, hk, rfl, rfl, HBa, HBb⟩ := hrel
    by_cases hlt : k < hs2.length
    · have hltu : k < us.length := by have := HLU.out; omega
      have hlts : k < (m.undo).length := by have := HR2.out.1; omega
      obtain ⟨_, _, e7, _, _, _, hat⟩ := HU1.out
      simp at e7
      obtain ⟨rfl, _, _⟩ := e7
      obtain ⟨ad, rfl, d0⟩ := ptr_at (hat.bl HBb.out) k hltu
      obtain ⟨ad', rfl, d1⟩ := head_at (HA2.out.bl HBa.out) k hlt
      have HST := Lib.hid ((HS1.out.2 k _ _ (List.getElem?_eq_getElem hlts) (List.getElem?_eq_getElem hltu)).bl HBb.out)
      obtain ⟨_, hln⟩ := HR2.out.at k hlts
      have HLN := Lib.hid (hln.bl HBa.out)
      have HKs := Lib.hid (HK2.out _ (List.getElem_mem hlts))
      generalize us[k] = b at *
      generalize hs2[k] = hh at *
      generalize (m.undo)[k] = s at *
      obtain ⟨xA, xn, xc⟩ := hh
      simp only [Head.v] at d1 HLN
      have q1 := (HBlk.out.bl HBb.out).cell 1
      simp at q1
      clear hat hln
      go_wp2_with fail
      refine wp_region_ways (S := (fun w' => w'.cell? ⟨w.heap.size, 1, none⟩ = some (.slice (some ad') hs2.length ccb) ∧ w'.cell? (ad.add k) = some (.pointer (some ⟨b, 0, none⟩)) ∧ w'.cell? (ad'.add k) = some (.slice xA xn xc))) [0, 1, 2, 3, 4, 5, 6, 7, 8, 9, 10, 11, 12, 13, 14, 16, 17] (y := .take 0 (.take 1 (.take 2 (.take 3 (.take 4 (.take 5 (.take 6 (.take 7 (.take 8 (.take 9 (.take 10 (.take 11 (.take 12 (.take 13 (.take 14 (.ev 15 (.take 16 (.take 17 (.done))) (.stop))))))))))))))))) (by kernel_rfl) (by kernel_rfl) (by kernel_rfl) ?_ (fun hHeld => ?_)
      · exact ⟨(Bl.refl _).drew.cell q1, (Bl.refl _).drew.cell d0, (Bl.refl _).drew.cell d1⟩
      have HHL := Lib.hid hHeld
      clear hHeld q1 d0 d1
      repeat (first | (refine wpWay_take rfl (by rfl) (by intro w hSw; (try dsimp only at hSw); first | (go_simp; done) | (go_simp; with_reducible rfl)) ?_; try simp only [Act.put, List.setIfInBounds_toArray, List.set_cons_zero, List.set_cons_succ]) | (refine wpWay_skip rfl (by rfl) ?_; try simp only [Act.put, List.setIfInBounds_toArray, List.set_cons_zero, List.set_cons_succ]))
      refine wpWay_ev rfl (fun K hK => ?_) wpWay_stop
      go_wp2_with fail
      refine (same21_any _ _ s _ (HST.out.bl (Bl.refl _).drew) (HLN.out.bl (Bl.refl _).drew) HKs.out).mono ?_
      rintro e wn ⟨rfl, hb⟩
      have HBa' := Lib.hid (HBa.out.drew.bl hb)
      have HBb' := Lib.hid (HBb.out.drew.bl hb)
      replace HHL := Lib.hid (And.intro (hb.cell HHL.out.1) (And.intro (hb.cell HHL.out.2.1) (hb.cell HHL.out.2.2)))
      clear hb
      go_wp2_with fail
      refine ⟨HHL.out, ?_⟩
      repeat (first | (refine wpWay_take rfl (by rfl) (by intro w hSw; (try dsimp only at hSw); first | (go_simp; done) | (go_simp; with_reducible rfl)) ?_; try simp only [Act.put, List.setIfInBounds_toArray, List.set_cons_zero, List.set_cons_succ]) | (refine wpWay_skip rfl (by rfl) ?_; try simp only [Act.put, List.setIfInBounds_toArray, List.set_cons_zero, List.set_cons_succ]))
      refine wpWay_done ?_
      go_wp2_with fail
      go_roundg (hs2.length - (k + 1))
      case measure => omega
      case rel => exact ⟨k + 1, by omega, rfl, by go_num, HBa', HBb'⟩
    · go_wp2_with fail
      go_loopg [74] hs3.length (fun g i wr => ∃ k : Nat, k ≤ hs3.length ∧ g = hs3.length - k ∧ i = .int .i64 k ∧ Hid (Bl w wr) ∧ Hid (Bl w2 wr))
      case atStart => exact ⟨0, by omega, rfl, rfl, HBa, HBb⟩
      case round =>
        obtain ⟨k, hk, rfl, rfl, HBa, HBb⟩ := hrel
        by_cases hlt : k < hs3.length
        · have hltu : k < rs.length := by have := HLR.out; omega
          have hlts : k < (m.redo).length := by have := HR3.out.1; omega
          obtain ⟨_, _, e7, _, _, _, hat⟩ := HU2.out
          simp at e7
          obtain ⟨rfl, _, _⟩ := e7
          obtain ⟨ad, rfl, d0⟩ := ptr_at (hat.bl HBb.out) k hltu
          obtain ⟨ad', rfl, d1⟩ := head_at (HA3.out.bl HBa.out) k hlt
          have HST := Lib.hid ((HS2.out.2 k _ _ (List.getElem?_eq_getElem hlts) (List.getElem?_eq_getElem hltu)).bl HBb.out)
          obtain ⟨_, hln⟩ := HR3.out.at k hlts
          have HLN := Lib.hid (hln.bl HBa.out)
          have HKs := Lib.hid (HK3.out _ (List.getElem_mem hlts))
          generalize rs[k] = b at *
          generalize hs3[k] = hh at *
          generalize (m.redo)[k] = s at *
          obtain ⟨xA, xn, xc⟩ := hh
          simp only [Head.v] at d1 HLN
          have q1 := (HBlk.out.bl HBb.out).cell 2
          simp at q1
          clear hat hln
          go_wp2_with fail
          refine wp_region_ways (S := (fun w' => w'.cell? ⟨w.heap.size, 2, none⟩ = some (.slice (some ad') hs3.length ccc) ∧ w'.cell? (ad.add k) = some (.pointer (some ⟨b, 0, none⟩)) ∧ w'.cell? (ad'.add k) = some (.slice xA xn xc))) [0, 1, 2, 3, 4, 5, 6, 7, 8, 9, 10, 11, 12, 13, 14, 16, 17] (y := .take 0 (.take 1 (.take 2 (.take 3 (.take 4 (.take 5 (.take 6 (.take 7 (.take 8 (.take 9 (.take 10 (.take 11 (.take 12 (.take 13 (.take 14 (.ev 15 (.take 16 (.take 17 (.done))) (.stop))))))))))))))))) (by kernel_rfl) (by kernel_rfl) (by kernel_rfl) ?_ (fun hHeld => ?_)
          · exact ⟨(Bl.refl _).drew.cell q1, (Bl.refl _).drew.cell d0, (Bl.refl _).drew.cell d1⟩
          have HHL := Lib.hid hHeld
          clear hHeld q1 d0 d1
          repeat (first | (refine wpWay_take rfl (by rfl) (by intro w hSw; (try dsimp only at hSw); first | (go_simp; done) | (go_simp; with_reducible rfl)) ?_; try simp only [Act.put, List.setIfInBounds_toArray, List.set_cons_zero, List.set_cons_succ]) | (refine wpWay_skip rfl (by rfl) ?_; try simp only [Act.put, List.setIfInBounds_toArray, List.set_cons_zero, List.set_cons_succ]))
          refine wpWay_ev rfl (fun K hK => ?_) wpWay_stop
          go_wp2_with fail
          refine (same21_any _ _ s _ (HST.out.bl (Bl.refl _).drew) (HLN.out.bl (Bl.refl _).drew) HKs.out).mono ?_
          rintro e wn ⟨rfl, hb⟩
          have HBa' := Lib.hid (HBa.out.drew.bl hb)
          have HBb' := Lib.hid (HBb.out.drew.bl hb)
          replace HHL := Lib.hid (And.intro (hb.cell HHL.out.1) (And.intro (hb.cell HHL.out.2.1) (hb.cell HHL.out.2.2)))
          clear hb
          go_wp2_with fail
          refine ⟨HHL.out, ?_⟩
          repeat (first | (refine wpWay_take rfl (by rfl) (by intro w hSw; (try dsimp only at hSw); first | (go_simp; done) | (go_simp; with_reducible rfl)) ?_; try simp only [Act.put, List.setIfInBounds_toArray, List.set_cons_zero, List.set_cons_succ]) | (refine wpWay_skip rfl (by rfl) ?_; try simp only [Act.put, List.setIfInBounds_toArray, List.set_cons_zero, List.set_cons_succ]))
          refine wpWay_done ?_
          go_wp2_with fail
          go_roundg (hs3.length - (k + 1))
          case measure => omega
          case rel => exact ⟨k + 1, by omega, rfl, by go_num, HBa', HBb'⟩
        · go_wp2_with fail
          go_ret
          exact ⟨rfl, HBa.out⟩
end Go.Proofs.YtddcjekkimajpaaGreat.ExtW

/- history.Apply by pointers alone: what lies in the history's block afterwards. -/
namespace Go.Ov
open Go.RowKit
theorem FarIs.keepO {base B : Nat} {w w' : World} {v : Value} {bs : List Nat} (h : FarIs base w v bs) (hB : B < base) (hk : KeepO B w w') : FarIs base w' v bs := by
  obtain ⟨⟨A, c, e, h1, h2, h3, hA⟩, hf⟩ := h
  refine ⟨⟨A, c, e, h1, h2, h3, fun i x hx => ?_⟩, hf⟩
  obtain ⟨ad, e2, hc⟩ := hA i x hx
  have := hf _ _ _ e ad e2
  exact ⟨ad, e2, fun j u hu => hk _ _ (by rw [add_block]; omega) (hc j u hu)⟩
theorem KeepO.grown {w w' : World} {B : Nat} (h : w.grownBy w' (some B)) : KeepO B w w' := fun a v ha hc => by
  have hlt := World.block_lt_of_cell? w a hc
  unfold World.cell? at hc ⊢
  rw [h.block a.block hlt (fun e => by injection e with e; exact ha e)]; exact hc
/-- what Apply leaves in a history's block: where now lies, and new rows of pointers -/
def HistRaw (T : TypeId) (w w' : World) (B n : Nat) (us rs : List Nat) : Prop :=
  w.grownBy w' (some B) ∧ ∃ u r : Head, Blk w' B (histC n u r) T ∧ FarIs w.heap.size w' u.v us ∧ FarIs w.heap.size w' r.v rs
theorem hist_raw {w w2 wF : World} {B n' : Nat} {u' r' : Head} {us' rs' : List Nat} {T : TypeId} (hb : Bl w w2) (hF : Blk wF B (histC n' u' r') T)
    (hg : w2.grownBy wF (some B)) (hB : B < w.heap.size) (hu : FarIs w.heap.size w2 u'.v us') (hr : FarIs w.heap.size w2 r'.v rs') : HistRaw T w wF B n' us' rs' :=
  ⟨grown_trans (grown_bl hb) hg, u', r', hF, hu.keepO hB (KeepO.grown hg), hr.keepO hB (KeepO.grown hg)⟩
end Go.Ov
namespace Go.Proofs.YtddcjekkimajpaaGreat.ExtW
open Go.RowKit Go.Ov Go.Proofs.YtddcjekkimajpaaGreat.Need

set_option maxRecDepth 100000 in
set_option maxHeartbeats 2000000 in
theorem happly_undoR (B n : Nat) (u q : Head) (us rs : List Nat) (rv : Value) (r : Rec) (w : World) (h0 : Blk w B (histC n u q) 59) (h2 : ptrE.Is w u.v us) (h3 : ptrE.Is w q.v rs) (hr : RecIs w rv r) (hk : r.kind = 4) (hv : validRec r = true) (hu : 0 < us.length) (hn : us.length ≤ 4) (hn' : rs.length ≤ 4) :
    Calls Tryz.prog 21 #[.pointer (some ⟨B, 0, none⟩), rv] w fun e w' => e = .returned (.int .i64 0) ∧ HistRaw 59 w w' B (us[us.length - 1]'(Nat.sub_lt hu Nat.one_pos)) (us.take (us.length - 1)) ((rs ++ [n]).drop (rs.length + 1 - 4)) := by
  have HR := Lib.hid hr
  have HV := Lib.hid hv
  obtain ⟨u2, rfl, hl⟩ := hr
  obtain ⟨A, c, rfl, _⟩ := hl
  have HBk := Lib.hid h0
  have HUL := Lib.hid hu
  have HN := Lib.hid hn
  have HN' := Lib.hid hn'
  obtain ⟨kk, t, f, o, l⟩ := r
  dsimp only at hk HV
  subst hk
  obtain ⟨uA, un, uc⟩ := u
  obtain ⟨qA, qn, qc⟩ := q
  simp only [Head.v] at h2 h3
  have hun : un = us.length := by obtain ⟨_, _, e, _⟩ := h2; simp at e; exact e.2.1
  subst hun
  have hqn : qn = rs.length := by obtain ⟨_, _, e, _⟩ := h3; simp at e; exact e.2.1
  subst hqn
  have hB := h0.lt
  have HU := Lib.hid h2
  have HQ := Lib.hid h3
  have hu0 : ((us.length : Int) == 0) = false := by rw [beq_eq_false_iff_ne]; omega
  clear h2 h3 h0 hv hn hn'
  have hur := Tryz.underlying46
  have huh := Tryz.underlying59
  go_enter Tryz.func21, Tryz.ntmps21
  go_wp2_with fail
  refine (rvalidRec_any _ _ _ (HR.out.bl ((Bl.refl _).alloc _))).mono ?_
  rintro e w1 ⟨rfl, hb⟩
  rw [HV.out]
  have b1 := (Blk.new w #[.int .i64 4, .int .i64 t, .int .i64 f, .int .i64 o, .slice A l.length c] 46).bl hb
  have d0 := b1.cell 0
  simp at d0
  have HB1 := Lib.hid (((Bl.refl w).alloc (.cells #[.int .i64 4, .int .i64 t, .int .i64 f, .int .i64 o, .slice A l.length c] 46)).bl hb)
  have HBk1 := Lib.hid (HBk.out.bl HB1.out)
  have c0 := HBk1.out.cell 0
  have c1 := HBk1.out.cell 1
  have c2 := HBk1.out.cell 2
  simp [histC, Head.v] at c0 c1 c2
  have HBS := Lib.hid HB1.out.drew.size
  clear hb b1
  go_wp2_with fail
  refine wp_region_ways (S := (fun _ => True)) [0, 1, 2, 3, 4, 5, 7, 8, 9, 11, 12, 13, 16, 17, 18, 19, 20, 21, 23, 24, 26, 27] (y := .take 0 (.take 1 (.take 2 (.take 3 (.take 4 (.take 5 (.take 7 (.take 8 (.take 9 (.take 11 (.take 12 (.take 13 (.ev 6 (.ev 10 (.ev 14 (.ev 15 (.take 16 (.take 17 (.take 18 (.take 19 (.take 20 (.take 21 (.ev 22 (.take 23 (.take 24 (.ev 25 (.take 26 (.take 27 (.ev 28 (.done) (.stop)))) (.stop)))) (.stop)))))))) (.stop)) (.stop)) (.ev 14 (.ev 10 (.ev 15 (.take 16 (.take 17 (.take 18 (.take 19 (.take 20 (.take 21 (.ev 22 (.take 23 (.take 24 (.ev 25 (.take 26 (.take 27 (.ev 28 (.done) (.stop)))) (.stop)))) (.stop)))))))) (.stop)) (.stop)) (.stop))) (.ev 10 (.ev 6 (.ev 14 (.ev 15 (.take 16 (.take 17 (.take 18 (.take 19 (.take 20 (.take 21 (.ev 22 (.take 23 (.take 24 (.ev 25 (.take 26 (.take 27 (.ev 28 (.done) (.stop)))) (.stop)))) (.stop)))))))) (.stop)) (.stop)) (.ev 14 (.ev 6 (.ev 15 (.take 16 (.take 17 (.take 18 (.take 19 (.take 20 (.take 21 (.ev 22 (.take 23 (.take 24 (.ev 25 (.take 26 (.take 27 (.ev 28 (.done) (.stop)))) (.stop)))) (.stop)))))))) (.stop)) (.stop)) (.stop))) (.ev 14 (.ev 6 (.ev 10 (.ev 15 (.take 16 (.take 17 (.take 18 (.take 19 (.take 20 (.take 21 (.ev 22 (.take 23 (.take 24 (.ev 25 (.take 26 (.take 27 (.ev 28 (.done) (.stop)))) (.stop)))) (.stop)))))))) (.stop)) (.stop)) (.ev 10 (.ev 6 (.ev 15 (.take 16 (.take 17 (.take 18 (.take 19 (.take 20 (.take 21 (.ev 22 (.take 23 (.take 24 (.ev 25 (.take 26 (.take 27 (.ev 28 (.done) (.stop)))) (.stop)))) (.stop)))))))) (.stop)) (.stop)) (.stop))) (.stop)))))))))))))))) (by kernel_rfl) (by kernel_rfl) (by kernel_rfl) ?_ (fun hHeld => ?_)
  · trivial
  repeat (first | (refine wpWay_take rfl (by rfl) (by intro w hSw; (try dsimp only at hSw); first | (go_simp; done) | (go_simp; with_reducible rfl)) ?_; try simp only [Act.put, List.setIfInBounds_toArray, List.set_cons_zero, List.set_cons_succ]) | (refine wpWay_skip rfl (by rfl) ?_; try simp only [Act.put, List.setIfInBounds_toArray, List.set_cons_zero, List.set_cons_succ]))
  refine wpWay_ev rfl (fun K hK => ?_) ?_
  · go_wp2_with fail
    refine ⟨trivial, ?_⟩
    repeat (first | (refine wpWay_take rfl (by rfl) (by intro w hSw; (try dsimp only at hSw); first | (go_simp; done) | (go_simp; with_reducible rfl)) ?_; try simp only [Act.put, List.setIfInBounds_toArray, List.set_cons_zero, List.set_cons_succ]) | (refine wpWay_skip rfl (by rfl) ?_; try simp only [Act.put, List.setIfInBounds_toArray, List.set_cons_zero, List.set_cons_succ]))
    refine wpWay_ev rfl (fun K hK => ?_) ?_
    · go_wp2_with fail
      refine ⟨trivial, ?_⟩
      repeat (first | (refine wpWay_take rfl (by rfl) (by intro w hSw; (try dsimp only at hSw); first | (go_simp; done) | (go_simp; with_reducible rfl)) ?_; try simp only [Act.put, List.setIfInBounds_toArray, List.set_cons_zero, List.set_cons_succ]) | (refine wpWay_skip rfl (by rfl) ?_; try simp only [Act.put, List.setIfInBounds_toArray, List.set_cons_zero, List.set_cons_succ]))
      refine wpWay_ev rfl (fun K hK => ?_) wpWay_stop
      go_wp2_with fail
      refine ⟨trivial, ?_⟩
      repeat (first | (refine wpWay_take rfl (by rfl) (by intro w hSw; (try dsimp only at hSw); first | (go_simp; done) | (go_simp; with_reducible rfl)) ?_; try simp only [Act.put, List.setIfInBounds_toArray, List.set_cons_zero, List.set_cons_succ]) | (refine wpWay_skip rfl (by rfl) ?_; try simp only [Act.put, List.setIfInBounds_toArray, List.set_cons_zero, List.set_cons_succ]))
      refine wpWay_ev rfl (fun K hK => ?_) wpWay_stop
      go_wp2_with fail
      refine (hturn_any _ _ us rs n _ (HU.out.bl HB1.out.drew) (HQ.out.bl HB1.out.drew) HUL.out HN.out HN'.out).mono ?_
      rintro e w2 ⟨u1, u2, rfl, hf1, hf2, hb⟩
      have HBk2 := Lib.hid ((HBk1.out.bl (Bl.refl _).drew).bl hb)
      have HB2 := Lib.hid ((HB1.out.drew).bl hb)
      obtain ⟨A1, d1, z1, _⟩ := id hf1.1
      obtain ⟨A2, d2, z2, _⟩ := id hf2.1
      subst z1
      subst z2
      generalize hn1 : (us.take (us.length - 1)).length = n1 at *
      generalize hn2 : ((rs ++ [n]).drop (rs.length + 1 - 4)).length = n2 at *
      have HF1 := Lib.hid hf1
      have HF2 := Lib.hid hf2
      clear hf1 hf2 hb hn1 hn2
      go_wp2_with fail
      refine ⟨trivial, ?_⟩
      repeat (first | (refine wpWay_take rfl (by rfl) (by intro w hSw; (try dsimp only at hSw); first | (go_simp; done) | (go_simp; with_reducible rfl)) ?_; try simp only [Act.put, List.setIfInBounds_toArray, List.set_cons_zero, List.set_cons_succ]) | (refine wpWay_skip rfl (by rfl) ?_; try simp only [Act.put, List.setIfInBounds_toArray, List.set_cons_zero, List.set_cons_succ]))
      refine wpWay_ev rfl (fun K hK => ?_) wpWay_stop
      have f1 := HBk2.out.frozen 1
      have g1 := HBk2.out.cell 1
      have l1 := HBk2.out.lt
      simp [histC] at g1
      go_wp2_with fail
      clear f1 g1 l1
      have HBk3 := Lib.hid (HBk2.out.set 1 (.slice A1 n1 d1))
      refine ⟨trivial, ?_⟩
      repeat (first | (refine wpWay_take rfl (by rfl) (by intro w hSw; (try dsimp only at hSw); first | (go_simp; done) | (go_simp; with_reducible rfl)) ?_; try simp only [Act.put, List.setIfInBounds_toArray, List.set_cons_zero, List.set_cons_succ]) | (refine wpWay_skip rfl (by rfl) ?_; try simp only [Act.put, List.setIfInBounds_toArray, List.set_cons_zero, List.set_cons_succ]))
      refine wpWay_ev rfl (fun K hK => ?_) wpWay_stop
      have f1 := HBk3.out.frozen 2
      have g1 := HBk3.out.cell 2
      have l1 := HBk3.out.lt
      simp [histC] at g1
      go_wp2_with fail
      clear f1 g1 l1
      have HBk4 := Lib.hid (HBk3.out.set 2 (.slice A2 n2 d2))
      refine ⟨trivial, ?_⟩
      repeat (first | (refine wpWay_take rfl (by rfl) (by intro w hSw; (try dsimp only at hSw); first | (go_simp; done) | (go_simp; with_reducible rfl)) ?_; try simp only [Act.put, List.setIfInBounds_toArray, List.set_cons_zero, List.set_cons_succ]) | (refine wpWay_skip rfl (by rfl) ?_; try simp only [Act.put, List.setIfInBounds_toArray, List.set_cons_zero, List.set_cons_succ]))
      refine wpWay_ev rfl (fun K hK => ?_) wpWay_stop
      have f1 := HBk4.out.frozen 0
      have g1 := HBk4.out.cell 0
      have l1 := HBk4.out.lt
      simp [histC] at g1
      go_wp2_with fail
      clear f1 g1 l1
      have HBk5 := Lib.hid (HBk4.out.set 0 (.pointer (some ⟨us[us.length - 1]'(by have := HUL.out; omega), 0, none⟩)))
      refine ⟨trivial, ?_⟩
      repeat (first | (refine wpWay_take rfl (by rfl) (by intro w hSw; (try dsimp only at hSw); first | (go_simp; done) | (go_simp; with_reducible rfl)) ?_; try simp only [Act.put, List.setIfInBounds_toArray, List.set_cons_zero, List.set_cons_succ]) | (refine wpWay_skip rfl (by rfl) ?_; try simp only [Act.put, List.setIfInBounds_toArray, List.set_cons_zero, List.set_cons_succ]))
      refine wpWay_done ?_
      go_wp2_with fail
      go_ret
      exact ⟨rfl, hist_raw (u' := ⟨A1, n1, d1⟩) (r' := ⟨A2, n2, d2⟩) HB2.out HBk5.out (grown_trans (grown_trans (set_grownB _ _ _ _) (set_grownB _ _ _ _)) (set_grownB _ _ _ _)) hB (HF1.out.low HBS.out) (HF2.out.low HBS.out)⟩
    · refine wpWay_ev rfl (fun K hK => ?_) wpWay_stop
      go_wp2_with fail
      refine ⟨trivial, ?_⟩
      repeat (first | (refine wpWay_take rfl (by rfl) (by intro w hSw; (try dsimp only at hSw); first | (go_simp; done) | (go_simp; with_reducible rfl)) ?_; try simp only [Act.put, List.setIfInBounds_toArray, List.set_cons_zero, List.set_cons_succ]) | (refine wpWay_skip rfl (by rfl) ?_; try simp only [Act.put, List.setIfInBounds_toArray, List.set_cons_zero, List.set_cons_succ]))
      refine wpWay_ev rfl (fun K hK => ?_) wpWay_stop
      go_wp2_with fail
      refine ⟨trivial, ?_⟩
      repeat (first | (refine wpWay_take rfl (by rfl) (by intro w hSw; (try dsimp only at hSw); first | (go_simp; done) | (go_simp; with_reducible rfl)) ?_; try simp only [Act.put, List.setIfInBounds_toArray, List.set_cons_zero, List.set_cons_succ]) | (refine wpWay_skip rfl (by rfl) ?_; try simp only [Act.put, List.setIfInBounds_toArray, List.set_cons_zero, List.set_cons_succ]))
      refine wpWay_ev rfl (fun K hK => ?_) wpWay_stop
      go_wp2_with fail
      refine (hturn_any _ _ us rs n _ (HU.out.bl HB1.out.drew) (HQ.out.bl HB1.out.drew) HUL.out HN.out HN'.out).mono ?_
      rintro e w2 ⟨u1, u2, rfl, hf1, hf2, hb⟩
      have HBk2 := Lib.hid ((HBk1.out.bl (Bl.refl _).drew).bl hb)
      have HB2 := Lib.hid ((HB1.out.drew).bl hb)
      obtain ⟨A1, d1, z1, _⟩ := id hf1.1
      obtain ⟨A2, d2, z2, _⟩ := id hf2.1
      subst z1
      subst z2
      generalize hn1 : (us.take (us.length - 1)).length = n1 at *
      generalize hn2 : ((rs ++ [n]).drop (rs.length + 1 - 4)).length = n2 at *
      have HF1 := Lib.hid hf1
      have HF2 := Lib.hid hf2
      clear hf1 hf2 hb hn1 hn2
      go_wp2_with fail
      refine ⟨trivial, ?_⟩
      repeat (first | (refine wpWay_take rfl (by rfl) (by intro w hSw; (try dsimp only at hSw); first | (go_simp; done) | (go_simp; with_reducible rfl)) ?_; try simp only [Act.put, List.setIfInBounds_toArray, List.set_cons_zero, List.set_cons_succ]) | (refine wpWay_skip rfl (by rfl) ?_; try simp only [Act.put, List.setIfInBounds_toArray, List.set_cons_zero, List.set_cons_succ]))
      refine wpWay_ev rfl (fun K hK => ?_) wpWay_stop
      have f1 := HBk2.out.frozen 1
      have g1 := HBk2.out.cell 1
      have l1 := HBk2.out.lt
      simp [histC] at g1
      go_wp2_with fail
      clear f1 g1 l1
      have HBk3 := Lib.hid (HBk2.out.set 1 (.slice A1 n1 d1))
      refine ⟨trivial, ?_⟩
      repeat (first | (refine wpWay_take rfl (by rfl) (by intro w hSw; (try dsimp only at hSw); first | (go_simp; done) | (go_simp; with_reducible rfl)) ?_; try simp only [Act.put, List.setIfInBounds_toArray, List.set_cons_zero, List.set_cons_succ]) | (refine wpWay_skip rfl (by rfl) ?_; try simp only [Act.put, List.setIfInBounds_toArray, List.set_cons_zero, List.set_cons_succ]))
      refine wpWay_ev rfl (fun K hK => ?_) wpWay_stop
      have f1 := HBk3.out.frozen 2
      have g1 := HBk3.out.cell 2
      have l1 := HBk3.out.lt
      simp [histC] at g1
      go_wp2_with fail
      clear f1 g1 l1
      have HBk4 := Lib.hid (HBk3.out.set 2 (.slice A2 n2 d2))
      refine ⟨trivial, ?_⟩
      repeat (first | (refine wpWay_take rfl (by rfl) (by intro w hSw; (try dsimp only at hSw); first | (go_simp; done) | (go_simp; with_reducible rfl)) ?_; try simp only [Act.put, List.setIfInBounds_toArray, List.set_cons_zero, List.set_cons_succ]) | (refine wpWay_skip rfl (by rfl) ?_; try simp only [Act.put, List.setIfInBounds_toArray, List.set_cons_zero, List.set_cons_succ]))
      refine wpWay_ev rfl (fun K hK => ?_) wpWay_stop
      have f1 := HBk4.out.frozen 0
      have g1 := HBk4.out.cell 0
      have l1 := HBk4.out.lt
      simp [histC] at g1
      go_wp2_with fail
      clear f1 g1 l1
      have HBk5 := Lib.hid (HBk4.out.set 0 (.pointer (some ⟨us[us.length - 1]'(by have := HUL.out; omega), 0, none⟩)))
      refine ⟨trivial, ?_⟩
      repeat (first | (refine wpWay_take rfl (by rfl) (by intro w hSw; (try dsimp only at hSw); first | (go_simp; done) | (go_simp; with_reducible rfl)) ?_; try simp only [Act.put, List.setIfInBounds_toArray, List.set_cons_zero, List.set_cons_succ]) | (refine wpWay_skip rfl (by rfl) ?_; try simp only [Act.put, List.setIfInBounds_toArray, List.set_cons_zero, List.set_cons_succ]))
      refine wpWay_done ?_
      go_wp2_with fail
      go_ret
      exact ⟨rfl, hist_raw (u' := ⟨A1, n1, d1⟩) (r' := ⟨A2, n2, d2⟩) HB2.out HBk5.out (grown_trans (grown_trans (set_grownB _ _ _ _) (set_grownB _ _ _ _)) (set_grownB _ _ _ _)) hB (HF1.out.low HBS.out) (HF2.out.low HBS.out)⟩
  · refine wpWay_ev rfl (fun K hK => ?_) ?_
    · go_wp2_with fail
      refine ⟨trivial, ?_⟩
      repeat (first | (refine wpWay_take rfl (by rfl) (by intro w hSw; (try dsimp only at hSw); first | (go_simp; done) | (go_simp; with_reducible rfl)) ?_; try simp only [Act.put, List.setIfInBounds_toArray, List.set_cons_zero, List.set_cons_succ]) | (refine wpWay_skip rfl (by rfl) ?_; try simp only [Act.put, List.setIfInBounds_toArray, List.set_cons_zero, List.set_cons_succ]))
      refine wpWay_ev rfl (fun K hK => ?_) ?_
      · go_wp2_with fail
        refine ⟨trivial, ?_⟩
        repeat (first | (refine wpWay_take rfl (by rfl) (by intro w hSw; (try dsimp only at hSw); first | (go_simp; done) | (go_simp; with_reducible rfl)) ?_; try simp only [Act.put, List.setIfInBounds_toArray, List.set_cons_zero, List.set_cons_succ]) | (refine wpWay_skip rfl (by rfl) ?_; try simp only [Act.put, List.setIfInBounds_toArray, List.set_cons_zero, List.set_cons_succ]))
        refine wpWay_ev rfl (fun K hK => ?_) wpWay_stop
        go_wp2_with fail
        refine ⟨trivial, ?_⟩
        repeat (first | (refine wpWay_take rfl (by rfl) (by intro w hSw; (try dsimp only at hSw); first | (go_simp; done) | (go_simp; with_reducible rfl)) ?_; try simp only [Act.put, List.setIfInBounds_toArray, List.set_cons_zero, List.set_cons_succ]) | (refine wpWay_skip rfl (by rfl) ?_; try simp only [Act.put, List.setIfInBounds_toArray, List.set_cons_zero, List.set_cons_succ]))
        refine wpWay_ev rfl (fun K hK => ?_) wpWay_stop
        go_wp2_with fail
        refine (hturn_any _ _ us rs n _ (HU.out.bl HB1.out.drew) (HQ.out.bl HB1.out.drew) HUL.out HN.out HN'.out).mono ?_
        rintro e w2 ⟨u1, u2, rfl, hf1, hf2, hb⟩
        have HBk2 := Lib.hid ((HBk1.out.bl (Bl.refl _).drew).bl hb)
        have HB2 := Lib.hid ((HB1.out.drew).bl hb)
        obtain ⟨A1, d1, z1, _⟩ := id hf1.1
        obtain ⟨A2, d2, z2, _⟩ := id hf2.1
        subst z1
        subst z2
        generalize hn1 : (us.take (us.length - 1)).length = n1 at *
        generalize hn2 : ((rs ++ [n]).drop (rs.length + 1 - 4)).length = n2 at *
        have HF1 := Lib.hid hf1
        have HF2 := Lib.hid hf2
        clear hf1 hf2 hb hn1 hn2
        go_wp2_with fail
        refine ⟨trivial, ?_⟩
        repeat (first | (refine wpWay_take rfl (by rfl) (by intro w hSw; (try dsimp only at hSw); first | (go_simp; done) | (go_simp; with_reducible rfl)) ?_; try simp only [Act.put, List.setIfInBounds_toArray, List.set_cons_zero, List.set_cons_succ]) | (refine wpWay_skip rfl (by rfl) ?_; try simp only [Act.put, List.setIfInBounds_toArray, List.set_cons_zero, List.set_cons_succ]))
        refine wpWay_ev rfl (fun K hK => ?_) wpWay_stop
        have f1 := HBk2.out.frozen 1
        have g1 := HBk2.out.cell 1
        have l1 := HBk2.out.lt
        simp [histC] at g1
        go_wp2_with fail
        clear f1 g1 l1
        have HBk3 := Lib.hid (HBk2.out.set 1 (.slice A1 n1 d1))
        refine ⟨trivial, ?_⟩
        repeat (first | (refine wpWay_take rfl (by rfl) (by intro w hSw; (try dsimp only at hSw); first | (go_simp; done) | (go_simp; with_reducible rfl)) ?_; try simp only [Act.put, List.setIfInBounds_toArray, List.set_cons_zero, List.set_cons_succ]) | (refine wpWay_skip rfl (by rfl) ?_; try simp only [Act.put, List.setIfInBounds_toArray, List.set_cons_zero, List.set_cons_succ]))
        refine wpWay_ev rfl (fun K hK => ?_) wpWay_stop
        have f1 := HBk3.out.frozen 2
        have g1 := HBk3.out.cell 2
        have l1 := HBk3.out.lt
        simp [histC] at g1
        go_wp2_with fail
        clear f1 g1 l1
        have HBk4 := Lib.hid (HBk3.out.set 2 (.slice A2 n2 d2))
        refine ⟨trivial, ?_⟩
        repeat (first | (refine wpWay_take rfl (by rfl) (by intro w hSw; (try dsimp only at hSw); first | (go_simp; done) | (go_simp; with_reducible rfl)) ?_; try simp only [Act.put, List.setIfInBounds_toArray, List.set_cons_zero, List.set_cons_succ]) | (refine wpWay_skip rfl (by rfl) ?_; try simp only [Act.put, List.setIfInBounds_toArray, List.set_cons_zero, List.set_cons_succ]))
        refine wpWay_ev rfl (fun K hK => ?_) wpWay_stop
        have f1 := HBk4.out.frozen 0
        have g1 := HBk4.out.cell 0
        have l1 := HBk4.out.lt
        simp [histC] at g1
        go_wp2_with fail
        clear f1 g1 l1
        have HBk5 := Lib.hid (HBk4.out.set 0 (.pointer (some ⟨us[us.length - 1]'(by have := HUL.out; omega), 0, none⟩)))
        refine ⟨trivial, ?_⟩
        repeat (first | (refine wpWay_take rfl (by rfl) (by intro w hSw; (try dsimp only at hSw); first | (go_simp; done) | (go_simp; with_reducible rfl)) ?_; try simp only [Act.put, List.setIfInBounds_toArray, List.set_cons_zero, List.set_cons_succ]) | (refine wpWay_skip rfl (by rfl) ?_; try simp only [Act.put, List.setIfInBounds_toArray, List.set_cons_zero, List.set_cons_succ]))
        refine wpWay_done ?_
        go_wp2_with fail
        go_ret
        exact ⟨rfl, hist_raw (u' := ⟨A1, n1, d1⟩) (r' := ⟨A2, n2, d2⟩) HB2.out HBk5.out (grown_trans (grown_trans (set_grownB _ _ _ _) (set_grownB _ _ _ _)) (set_grownB _ _ _ _)) hB (HF1.out.low HBS.out) (HF2.out.low HBS.out)⟩
      · refine wpWay_ev rfl (fun K hK => ?_) wpWay_stop
        go_wp2_with fail
        refine ⟨trivial, ?_⟩
        repeat (first | (refine wpWay_take rfl (by rfl) (by intro w hSw; (try dsimp only at hSw); first | (go_simp; done) | (go_simp; with_reducible rfl)) ?_; try simp only [Act.put, List.setIfInBounds_toArray, List.set_cons_zero, List.set_cons_succ]) | (refine wpWay_skip rfl (by rfl) ?_; try simp only [Act.put, List.setIfInBounds_toArray, List.set_cons_zero, List.set_cons_succ]))
        refine wpWay_ev rfl (fun K hK => ?_) wpWay_stop
        go_wp2_with fail
        refine ⟨trivial, ?_⟩
        repeat (first | (refine wpWay_take rfl (by rfl) (by intro w hSw; (try dsimp only at hSw); first | (go_simp; done) | (go_simp; with_reducible rfl)) ?_; try simp only [Act.put, List.setIfInBounds_toArray, List.set_cons_zero, List.set_cons_succ]) | (refine wpWay_skip rfl (by rfl) ?_; try simp only [Act.put, List.setIfInBounds_toArray, List.set_cons_zero, List.set_cons_succ]))
        refine wpWay_ev rfl (fun K hK => ?_) wpWay_stop
        go_wp2_with fail
        refine (hturn_any _ _ us rs n _ (HU.out.bl HB1.out.drew) (HQ.out.bl HB1.out.drew) HUL.out HN.out HN'.out).mono ?_
        rintro e w2 ⟨u1, u2, rfl, hf1, hf2, hb⟩
        have HBk2 := Lib.hid ((HBk1.out.bl (Bl.refl _).drew).bl hb)
        have HB2 := Lib.hid ((HB1.out.drew).bl hb)
        obtain ⟨A1, d1, z1, _⟩ := id hf1.1
        obtain ⟨A2, d2, z2, _⟩ := id hf2.1
        subst z1
        subst z2
        generalize hn1 : (us.take (us.length - 1)).length = n1 at *
        generalize hn2 : ((rs ++ [n]).drop (rs.length + 1 - 4)).length = n2 at *
        have HF1 := Lib.hid hf1
        have HF2 := Lib.hid hf2
        clear hf1 hf2 hb hn1 hn2
        go_wp2_with fail
        refine ⟨trivial, ?_⟩
        repeat (first | (refine wpWay_take rfl (by rfl) (by intro w hSw; (try dsimp only at hSw); first | (go_simp; done) | (go_simp; with_reducible rfl)) ?_; try simp only [Act.put, List.setIfInBounds_toArray, List.set_cons_zero, List.set_cons_succ]) | (refine wpWay_skip rfl (by rfl) ?_; try simp only [Act.put, List.setIfInBounds_toArray, List.set_cons_zero, List.set_cons_succ]))
        refine wpWay_ev rfl (fun K hK => ?_) wpWay_stop
        have f1 := HBk2.out.frozen 1
        have g1 := HBk2.out.cell 1
        have l1 := HBk2.out.lt
        simp [histC] at g1
        go_wp2_with fail
        clear f1 g1 l1
        have HBk3 := Lib.hid (HBk2.out.set 1 (.slice A1 n1 d1))
        refine ⟨trivial, ?_⟩
        repeat (first | (refine wpWay_take rfl (by rfl) (by intro w hSw; (try dsimp only at hSw); first | (go_simp; done) | (go_simp; with_reducible rfl)) ?_; try simp only [Act.put, List.setIfInBounds_toArray, List.set_cons_zero, List.set_cons_succ]) | (refine wpWay_skip rfl (by rfl) ?_; try simp only [Act.put, List.setIfInBounds_toArray, List.set_cons_zero, List.set_cons_succ]))
        refine wpWay_ev rfl (fun K hK => ?_) wpWay_stop
        have f1 := HBk3.out.frozen 2
        have g1 := HBk3.out.cell 2
        have l1 := HBk3.out.lt
        simp [histC] at g1
        go_wp2_with fail
        clear f1 g1 l1
        have HBk4 := Lib.hid (HBk3.out.set 2 (.slice A2 n2 d2))
        refine ⟨trivial, ?_⟩
        repeat (first | (refine wpWay_take rfl (by rfl) (by intro w hSw; (try dsimp only at hSw); first | (go_simp; done) | (go_simp; with_reducible rfl)) ?_; try simp only [Act.put, List.setIfInBounds_toArray, List.set_cons_zero, List.set_cons_succ]) | (refine wpWay_skip rfl (by rfl) ?_; try simp only [Act.put, List.setIfInBounds_toArray, List.set_cons_zero, List.set_cons_succ]))
        refine wpWay_ev rfl (fun K hK => ?_) wpWay_stop
        have f1 := HBk4.out.frozen 0
        have g1 := HBk4.out.cell 0
        have l1 := HBk4.out.lt
        simp [histC] at g1
        go_wp2_with fail
        clear f1 g1 l1
        have HBk5 := Lib.hid (HBk4.out.set 0 (.pointer (some ⟨us[us.length - 1]'(by have := HUL.out; omega), 0, none⟩)))
        refine ⟨trivial, ?_⟩
        repeat (first | (refine wpWay_take rfl (by rfl) (by intro w hSw; (try dsimp only at hSw); first | (go_simp; done) | (go_simp; with_reducible rfl)) ?_; try simp only [Act.put, List.setIfInBounds_toArray, List.set_cons_zero, List.set_cons_succ]) | (refine wpWay_skip rfl (by rfl) ?_; try simp only [Act.put, List.setIfInBounds_toArray, List.set_cons_zero, List.set_cons_succ]))
        refine wpWay_done ?_
        go_wp2_with fail
        go_ret
        exact ⟨rfl, hist_raw (u' := ⟨A1, n1, d1⟩) (r' := ⟨A2, n2, d2⟩) HB2.out HBk5.out (grown_trans (grown_trans (set_grownB _ _ _ _) (set_grownB _ _ _ _)) (set_grownB _ _ _ _)) hB (HF1.out.low HBS.out) (HF2.out.low HBS.out)⟩
    · refine wpWay_ev rfl (fun K hK => ?_) wpWay_stop
      go_wp2_with fail
      refine ⟨trivial, ?_⟩
      repeat (first | (refine wpWay_take rfl (by rfl) (by intro w hSw; (try dsimp only at hSw); first | (go_simp; done) | (go_simp; with_reducible rfl)) ?_; try simp only [Act.put, List.setIfInBounds_toArray, List.set_cons_zero, List.set_cons_succ]) | (refine wpWay_skip rfl (by rfl) ?_; try simp only [Act.put, List.setIfInBounds_toArray, List.set_cons_zero, List.set_cons_succ]))
      refine wpWay_ev rfl (fun K hK => ?_) ?_
      · go_wp2_with fail
        refine ⟨trivial, ?_⟩
        repeat (first | (refine wpWay_take rfl (by rfl) (by intro w hSw; (try dsimp only at hSw); first | (go_simp; done) | (go_simp; with_reducible rfl)) ?_; try simp only [Act.put, List.setIfInBounds_toArray, List.set_cons_zero, List.set_cons_succ]) | (refine wpWay_skip rfl (by rfl) ?_; try simp only [Act.put, List.setIfInBounds_toArray, List.set_cons_zero, List.set_cons_succ]))
        refine wpWay_ev rfl (fun K hK => ?_) wpWay_stop
        go_wp2_with fail
        refine ⟨trivial, ?_⟩
        repeat (first | (refine wpWay_take rfl (by rfl) (by intro w hSw; (try dsimp only at hSw); first | (go_simp; done) | (go_simp; with_reducible rfl)) ?_; try simp only [Act.put, List.setIfInBounds_toArray, List.set_cons_zero, List.set_cons_succ]) | (refine wpWay_skip rfl (by rfl) ?_; try simp only [Act.put, List.setIfInBounds_toArray, List.set_cons_zero, List.set_cons_succ]))
        refine wpWay_ev rfl (fun K hK => ?_) wpWay_stop
        go_wp2_with fail
        refine (hturn_any _ _ us rs n _ (HU.out.bl HB1.out.drew) (HQ.out.bl HB1.out.drew) HUL.out HN.out HN'.out).mono ?_
        rintro e w2 ⟨u1, u2, rfl, hf1, hf2, hb⟩
        have HBk2 := Lib.hid ((HBk1.out.bl (Bl.refl _).drew).bl hb)
        have HB2 := Lib.hid ((HB1.out.drew).bl hb)
        obtain ⟨A1, d1, z1, _⟩ := id hf1.1
        obtain ⟨A2, d2, z2, _⟩ := id hf2.1
        subst z1
        subst z2
        generalize hn1 : (us.take (us.length - 1)).length = n1 at *
        generalize hn2 : ((rs ++ [n]).drop (rs.length + 1 - 4)).length = n2 at *
        have HF1 := Lib.hid hf1
        have HF2 := Lib.hid hf2
        clear hf1 hf2 hb hn1 hn2
        go_wp2_with fail
        refine ⟨trivial, ?_⟩
        repeat (first | (refine wpWay_take rfl (by rfl) (by intro w hSw; (try dsimp only at hSw); first | (go_simp; done) | (go_simp; with_reducible rfl)) ?_; try simp only [Act.put, List.setIfInBounds_toArray, List.set_cons_zero, List.set_cons_succ]) | (refine wpWay_skip rfl (by rfl) ?_; try simp only [Act.put, List.setIfInBounds_toArray, List.set_cons_zero, List.set_cons_succ]))
        refine wpWay_ev rfl (fun K hK => ?_) wpWay_stop
        have f1 := HBk2.out.frozen 1
        have g1 := HBk2.out.cell 1
        have l1 := HBk2.out.lt
        simp [histC] at g1
        go_wp2_with fail
        clear f1 g1 l1
        have HBk3 := Lib.hid (HBk2.out.set 1 (.slice A1 n1 d1))
        refine ⟨trivial, ?_⟩
        repeat (first | (refine wpWay_take rfl (by rfl) (by intro w hSw; (try dsimp only at hSw); first | (go_simp; done) | (go_simp; with_reducible rfl)) ?_; try simp only [Act.put, List.setIfInBounds_toArray, List.set_cons_zero, List.set_cons_succ]) | (refine wpWay_skip rfl (by rfl) ?_; try simp only [Act.put, List.setIfInBounds_toArray, List.set_cons_zero, List.set_cons_succ]))
        refine wpWay_ev rfl (fun K hK => ?_) wpWay_stop
        have f1 := HBk3.out.frozen 2
        have g1 := HBk3.out.cell 2
        have l1 := HBk3.out.lt
        simp [histC] at g1
        go_wp2_with fail
        clear f1 g1 l1
        have HBk4 := Lib.hid (HBk3.out.set 2 (.slice A2 n2 d2))
        refine ⟨trivial, ?_⟩
        repeat (first | (refine wpWay_take rfl (by rfl) (by intro w hSw; (try dsimp only at hSw); first | (go_simp; done) | (go_simp; with_reducible rfl)) ?_; try simp only [Act.put, List.setIfInBounds_toArray, List.set_cons_zero, List.set_cons_succ]) | (refine wpWay_skip rfl (by rfl) ?_; try simp only [Act.put, List.setIfInBounds_toArray, List.set_cons_zero, List.set_cons_succ]))
        refine wpWay_ev rfl (fun K hK => ?_) wpWay_stop
        have f1 := HBk4.out.frozen 0
        have g1 := HBk4.out.cell 0
        have l1 := HBk4.out.lt
        simp [histC] at g1
        go_wp2_with fail
        clear f1 g1 l1
        have HBk5 := Lib.hid (HBk4.out.set 0 (.pointer (some ⟨us[us.length - 1]'(by have := HUL.out; omega), 0, none⟩)))
        refine ⟨trivial, ?_⟩
        repeat (first | (refine wpWay_take rfl (by rfl) (by intro w hSw; (try dsimp only at hSw); first | (go_simp; done) | (go_simp; with_reducible rfl)) ?_; try simp only [Act.put, List.setIfInBounds_toArray, List.set_cons_zero, List.set_cons_succ]) | (refine wpWay_skip rfl (by rfl) ?_; try simp only [Act.put, List.setIfInBounds_toArray, List.set_cons_zero, List.set_cons_succ]))
        refine wpWay_done ?_
        go_wp2_with fail
        go_ret
        exact ⟨rfl, hist_raw (u' := ⟨A1, n1, d1⟩) (r' := ⟨A2, n2, d2⟩) HB2.out HBk5.out (grown_trans (grown_trans (set_grownB _ _ _ _) (set_grownB _ _ _ _)) (set_grownB _ _ _ _)) hB (HF1.out.low HBS.out) (HF2.out.low HBS.out)⟩
      · refine wpWay_ev rfl (fun K hK => ?_) wpWay_stop
        go_wp2_with fail
        refine ⟨trivial, ?_⟩
        repeat (first | (refine wpWay_take rfl (by rfl) (by intro w hSw; (try dsimp only at hSw); first | (go_simp; done) | (go_simp; with_reducible rfl)) ?_; try simp only [Act.put, List.setIfInBounds_toArray, List.set_cons_zero, List.set_cons_succ]) | (refine wpWay_skip rfl (by rfl) ?_; try simp only [Act.put, List.setIfInBounds_toArray, List.set_cons_zero, List.set_cons_succ]))
        refine wpWay_ev rfl (fun K hK => ?_) wpWay_stop
        go_wp2_with fail
        refine ⟨trivial, ?_⟩
        repeat (first | (refine wpWay_take rfl (by rfl) (by intro w hSw; (try dsimp only at hSw); first | (go_simp; done) | (go_simp; with_reducible rfl)) ?_; try simp only [Act.put, List.setIfInBounds_toArray, List.set_cons_zero, List.set_cons_succ]) | (refine wpWay_skip rfl (by rfl) ?_; try simp only [Act.put, List.setIfInBounds_toArray, List.set_cons_zero, List.set_cons_succ]))
        refine wpWay_ev rfl (fun K hK => ?_) wpWay_stop
        go_wp2_with fail
        refine (hturn_any _ _ us rs n _ (HU.out.bl HB1.out.drew) (HQ.out.bl HB1.out.drew) HUL.out HN.out HN'.out).mono ?_
        rintro e w2 ⟨u1, u2, rfl, hf1, hf2, hb⟩
        have HBk2 := Lib.hid ((HBk1.out.bl (Bl.refl _).drew).bl hb)
        have HB2 := Lib.hid ((HB1.out.drew).bl hb)
        obtain ⟨A1, d1, z1, _⟩ := id hf1.1
        obtain ⟨A2, d2, z2, _⟩ := id hf2.1
        subst z1
        subst z2
        generalize hn1 : (us.take (us.length - 1)).length = n1 at *
        generalize hn2 : ((rs ++ [n]).drop (rs.length + 1 - 4)).length = n2 at *
        have HF1 := Lib.hid hf1
        have HF2 := Lib.hid hf2
        clear hf1 hf2 hb hn1 hn2
        go_wp2_with fail
        refine ⟨trivial, ?_⟩
        repeat (first | (refine wpWay_take rfl (by rfl) (by intro w hSw; (try dsimp only at hSw); first | (go_simp; done) | (go_simp; with_reducible rfl)) ?_; try simp only [Act.put, List.setIfInBounds_toArray, List.set_cons_zero, List.set_cons_succ]) | (refine wpWay_skip rfl (by rfl) ?_; try simp only [Act.put, List.setIfInBounds_toArray, List.set_cons_zero, List.set_cons_succ]))
        refine wpWay_ev rfl (fun K hK => ?_) wpWay_stop
        have f1 := HBk2.out.frozen 1
        have g1 := HBk2.out.cell 1
        have l1 := HBk2.out.lt
        simp [histC] at g1
        go_wp2_with fail
        clear f1 g1 l1
        have HBk3 := Lib.hid (HBk2.out.set 1 (.slice A1 n1 d1))
        refine ⟨trivial, ?_⟩
        repeat (first | (refine wpWay_take rfl (by rfl) (by intro w hSw; (try dsimp only at hSw); first | (go_simp; done) | (go_simp; with_reducible rfl)) ?_; try simp only [Act.put, List.setIfInBounds_toArray, List.set_cons_zero, List.set_cons_succ]) | (refine wpWay_skip rfl (by rfl) ?_; try simp only [Act.put, List.setIfInBounds_toArray, List.set_cons_zero, List.set_cons_succ]))
        refine wpWay_ev rfl (fun K hK => ?_) wpWay_stop
        have f1 := HBk3.out.frozen 2
        have g1 := HBk3.out.cell 2
        have l1 := HBk3.out.lt
        simp [histC] at g1
        go_wp2_with fail
        clear f1 g1 l1
        have HBk4 := Lib.hid (HBk3.out.set 2 (.slice A2 n2 d2))
        refine ⟨trivial, ?_⟩
        repeat (first | (refine wpWay_take rfl (by rfl) (by intro w hSw; (try dsimp only at hSw); first | (go_simp; done) | (go_simp; with_reducible rfl)) ?_; try simp only [Act.put, List.setIfInBounds_toArray, List.set_cons_zero, List.set_cons_succ]) | (refine wpWay_skip rfl (by rfl) ?_; try simp only [Act.put, List.setIfInBounds_toArray, List.set_cons_zero, List.set_cons_succ]))
        refine wpWay_ev rfl (fun K hK => ?_) wpWay_stop
        have f1 := HBk4.out.frozen 0
        have g1 := HBk4.out.cell 0
        have l1 := HBk4.out.lt
        simp [histC] at g1
        go_wp2_with fail
        clear f1 g1 l1
        have HBk5 := Lib.hid (HBk4.out.set 0 (.pointer (some ⟨us[us.length - 1]'(by have := HUL.out; omega), 0, none⟩)))
        refine ⟨trivial, ?_⟩
        repeat (first | (refine wpWay_take rfl (by rfl) (by intro w hSw; (try dsimp only at hSw); first | (go_simp; done) | (go_simp; with_reducible rfl)) ?_; try simp only [Act.put, List.setIfInBounds_toArray, List.set_cons_zero, List.set_cons_succ]) | (refine wpWay_skip rfl (by rfl) ?_; try simp only [Act.put, List.setIfInBounds_toArray, List.set_cons_zero, List.set_cons_succ]))
        refine wpWay_done ?_
        go_wp2_with fail
        go_ret
        exact ⟨rfl, hist_raw (u' := ⟨A1, n1, d1⟩) (r' := ⟨A2, n2, d2⟩) HB2.out HBk5.out (grown_trans (grown_trans (set_grownB _ _ _ _) (set_grownB _ _ _ _)) (set_grownB _ _ _ _)) hB (HF1.out.low HBS.out) (HF2.out.low HBS.out)⟩
set_option maxRecDepth 100000 in
set_option maxHeartbeats 2000000 in
theorem happly_redoR (B n : Nat) (u q : Head) (us rs : List Nat) (rv : Value) (r : Rec) (w : World) (h0 : Blk w B (histC n u q) 59) (h2 : ptrE.Is w u.v us) (h3 : ptrE.Is w q.v rs) (hr : RecIs w rv r) (hk : r.kind = 5) (hv : validRec r = true) (hu : 0 < rs.length) (hn : rs.length ≤ 4) (hn' : us.length ≤ 4) :
    Calls Tryz.prog 21 #[.pointer (some ⟨B, 0, none⟩), rv] w fun e w' => e = .returned (.int .i64 0) ∧ HistRaw 59 w w' B (rs[rs.length - 1]'(Nat.sub_lt hu Nat.one_pos)) ((us ++ [n]).drop (us.length + 1 - 4)) (rs.take (rs.length - 1)) := by
  have HR := Lib.hid hr
  have HV := Lib.hid hv
  obtain ⟨u2, rfl, hl⟩ := hr
  obtain ⟨A, c, rfl, _⟩ := hl
  have HBk := Lib.hid h0
  have HUL := Lib.hid hu
  have HN := Lib.hid hn
  have HN' := Lib.hid hn'
  obtain ⟨kk, t, f, o, l⟩ := r
  dsimp only at hk HV
  subst hk
  obtain ⟨uA, un, uc⟩ := u
  obtain ⟨qA, qn, qc⟩ := q
  simp only [Head.v] at h2 h3
  have hun : un = us.length := by obtain ⟨_, _, e, _⟩ := h2; simp at e; exact e.2.1
  subst hun
  have hqn : qn = rs.length := by obtain ⟨_, _, e, _⟩ := h3; simp at e; exact e.2.1
  subst hqn
  have hB := h0.lt
  have HU := Lib.hid h2
  have HQ := Lib.hid h3
  have hu0 : ((rs.length : Int) == 0) = false := by rw [beq_eq_false_iff_ne]; omega
  clear h2 h3 h0 hv hn hn'
  have hur := Tryz.underlying46
  have huh := Tryz.underlying59
  go_enter Tryz.func21, Tryz.ntmps21
  go_wp2_with fail
  refine (rvalidRec_any _ _ _ (HR.out.bl ((Bl.refl _).alloc _))).mono ?_
  rintro e w1 ⟨rfl, hb⟩
  rw [HV.out]
  have b1 := (Blk.new w #[.int .i64 5, .int .i64 t, .int .i64 f, .int .i64 o, .slice A l.length c] 46).bl hb
  have d0 := b1.cell 0
  simp at d0
  have HB1 := Lib.hid (((Bl.refl w).alloc (.cells #[.int .i64 5, .int .i64 t, .int .i64 f, .int .i64 o, .slice A l.length c] 46)).bl hb)
  have HBk1 := Lib.hid (HBk.out.bl HB1.out)
  have c0 := HBk1.out.cell 0
  have c1 := HBk1.out.cell 1
  have c2 := HBk1.out.cell 2
  simp [histC, Head.v] at c0 c1 c2
  have HBS := Lib.hid HB1.out.drew.size
  clear hb b1
  go_wp2_with fail
  refine wp_region_ways (S := (fun _ => True)) [0, 1, 2, 3, 4, 5, 7, 8, 9, 11, 12, 13, 16, 17, 18, 19, 20, 21, 23, 24, 26, 27] (y := .take 0 (.take 1 (.take 2 (.take 3 (.take 4 (.take 5 (.take 7 (.take 8 (.take 9 (.take 11 (.take 12 (.take 13 (.ev 6 (.ev 10 (.ev 14 (.ev 15 (.take 16 (.take 17 (.take 18 (.take 19 (.take 20 (.take 21 (.ev 22 (.take 23 (.take 24 (.ev 25 (.take 26 (.take 27 (.ev 28 (.done) (.stop)))) (.stop)))) (.stop)))))))) (.stop)) (.stop)) (.ev 14 (.ev 10 (.ev 15 (.take 16 (.take 17 (.take 18 (.take 19 (.take 20 (.take 21 (.ev 22 (.take 23 (.take 24 (.ev 25 (.take 26 (.take 27 (.ev 28 (.done) (.stop)))) (.stop)))) (.stop)))))))) (.stop)) (.stop)) (.stop))) (.ev 10 (.ev 6 (.ev 14 (.ev 15 (.take 16 (.take 17 (.take 18 (.take 19 (.take 20 (.take 21 (.ev 22 (.take 23 (.take 24 (.ev 25 (.take 26 (.take 27 (.ev 28 (.done) (.stop)))) (.stop)))) (.stop)))))))) (.stop)) (.stop)) (.ev 14 (.ev 6 (.ev 15 (.take 16 (.take 17 (.take 18 (.take 19 (.take 20 (.take 21 (.ev 22 (.take 23 (.take 24 (.ev 25 (.take 26 (.take 27 (.ev 28 (.done) (.stop)))) (.stop)))) (.stop)))))))) (.stop)) (.stop)) (.stop))) (.ev 14 (.ev 6 (.ev 10 (.ev 15 (.take 16 (.take 17 (.take 18 (.take 19 (.take 20 (.take 21 (.ev 22 (.take 23 (.take 24 (.ev 25 (.take 26 (.take 27 (.ev 28 (.done) (.stop)))) (.stop)))) (.stop)))))))) (.stop)) (.stop)) (.ev 10 (.ev 6 (.ev 15 (.take 16 (.take 17 (.take 18 (.take 19 (.take 20 (.take 21 (.ev 22 (.take 23 (.take 24 (.ev 25 (.take 26 (.take 27 (.ev 28 (.done) (.stop)))) (.stop)))) (.stop)))))))) (.stop)) (.stop)) (.stop))) (.stop)))))))))))))))) (by kernel_rfl) (by kernel_rfl) (by kernel_rfl) ?_ (fun hHeld => ?_)
  · trivial
  repeat (first | (refine wpWay_take rfl (by rfl) (by intro w hSw; (try dsimp only at hSw); first | (go_simp; done) | (go_simp; with_reducible rfl)) ?_; try simp only [Act.put, List.setIfInBounds_toArray, List.set_cons_zero, List.set_cons_succ]) | (refine wpWay_skip rfl (by rfl) ?_; try simp only [Act.put, List.setIfInBounds_toArray, List.set_cons_zero, List.set_cons_succ]))
  refine wpWay_ev rfl (fun K hK => ?_) ?_
  · go_wp2_with fail
    refine ⟨trivial, ?_⟩
    repeat (first | (refine wpWay_take rfl (by rfl) (by intro w hSw; (try dsimp only at hSw); first | (go_simp; done) | (go_simp; with_reducible rfl)) ?_; try simp only [Act.put, List.setIfInBounds_toArray, List.set_cons_zero, List.set_cons_succ]) | (refine wpWay_skip rfl (by rfl) ?_; try simp only [Act.put, List.setIfInBounds_toArray, List.set_cons_zero, List.set_cons_succ]))
    refine wpWay_ev rfl (fun K hK => ?_) ?_
    · go_wp2_with fail
      refine ⟨trivial, ?_⟩
      repeat (first | (refine wpWay_take rfl (by rfl) (by intro w hSw; (try dsimp only at hSw); first | (go_simp; done) | (go_simp; with_reducible rfl)) ?_; try simp only [Act.put, List.setIfInBounds_toArray, List.set_cons_zero, List.set_cons_succ]) | (refine wpWay_skip rfl (by rfl) ?_; try simp only [Act.put, List.setIfInBounds_toArray, List.set_cons_zero, List.set_cons_succ]))
      refine wpWay_ev rfl (fun K hK => ?_) wpWay_stop
      go_wp2_with fail
      refine ⟨trivial, ?_⟩
      repeat (first | (refine wpWay_take rfl (by rfl) (by intro w hSw; (try dsimp only at hSw); first | (go_simp; done) | (go_simp; with_reducible rfl)) ?_; try simp only [Act.put, List.setIfInBounds_toArray, List.set_cons_zero, List.set_cons_succ]) | (refine wpWay_skip rfl (by rfl) ?_; try simp only [Act.put, List.setIfInBounds_toArray, List.set_cons_zero, List.set_cons_succ]))
      refine wpWay_ev rfl (fun K hK => ?_) wpWay_stop
      go_wp2_with fail
      refine (hturn_any _ _ rs us n _ (HQ.out.bl HB1.out.drew) (HU.out.bl HB1.out.drew) HUL.out HN.out HN'.out).mono ?_
      rintro e w2 ⟨u1, u2, rfl, hf1, hf2, hb⟩
      have HBk2 := Lib.hid ((HBk1.out.bl (Bl.refl _).drew).bl hb)
      have HB2 := Lib.hid ((HB1.out.drew).bl hb)
      obtain ⟨A1, d1, z1, _⟩ := id hf1.1
      obtain ⟨A2, d2, z2, _⟩ := id hf2.1
      subst z1
      subst z2
      generalize hn1 : (rs.take (rs.length - 1)).length = n1 at *
      generalize hn2 : ((us ++ [n]).drop (us.length + 1 - 4)).length = n2 at *
      have HF1 := Lib.hid hf1
      have HF2 := Lib.hid hf2
      clear hf1 hf2 hb hn1 hn2
      go_wp2_with fail
      refine ⟨trivial, ?_⟩
      repeat (first | (refine wpWay_take rfl (by rfl) (by intro w hSw; (try dsimp only at hSw); first | (go_simp; done) | (go_simp; with_reducible rfl)) ?_; try simp only [Act.put, List.setIfInBounds_toArray, List.set_cons_zero, List.set_cons_succ]) | (refine wpWay_skip rfl (by rfl) ?_; try simp only [Act.put, List.setIfInBounds_toArray, List.set_cons_zero, List.set_cons_succ]))
      refine wpWay_ev rfl (fun K hK => ?_) wpWay_stop
      have f1 := HBk2.out.frozen 2
      have g1 := HBk2.out.cell 2
      have l1 := HBk2.out.lt
      simp [histC] at g1
      go_wp2_with fail
      clear f1 g1 l1
      have HBk3 := Lib.hid (HBk2.out.set 2 (.slice A1 n1 d1))
      refine ⟨trivial, ?_⟩
      repeat (first | (refine wpWay_take rfl (by rfl) (by intro w hSw; (try dsimp only at hSw); first | (go_simp; done) | (go_simp; with_reducible rfl)) ?_; try simp only [Act.put, List.setIfInBounds_toArray, List.set_cons_zero, List.set_cons_succ]) | (refine wpWay_skip rfl (by rfl) ?_; try simp only [Act.put, List.setIfInBounds_toArray, List.set_cons_zero, List.set_cons_succ]))
      refine wpWay_ev rfl (fun K hK => ?_) wpWay_stop
      have f1 := HBk3.out.frozen 1
      have g1 := HBk3.out.cell 1
      have l1 := HBk3.out.lt
      simp [histC] at g1
      go_wp2_with fail
      clear f1 g1 l1
      have HBk4 := Lib.hid (HBk3.out.set 1 (.slice A2 n2 d2))
      refine ⟨trivial, ?_⟩
      repeat (first | (refine wpWay_take rfl (by rfl) (by intro w hSw; (try dsimp only at hSw); first | (go_simp; done) | (go_simp; with_reducible rfl)) ?_; try simp only [Act.put, List.setIfInBounds_toArray, List.set_cons_zero, List.set_cons_succ]) | (refine wpWay_skip rfl (by rfl) ?_; try simp only [Act.put, List.setIfInBounds_toArray, List.set_cons_zero, List.set_cons_succ]))
      refine wpWay_ev rfl (fun K hK => ?_) wpWay_stop
      have f1 := HBk4.out.frozen 0
      have g1 := HBk4.out.cell 0
      have l1 := HBk4.out.lt
      simp [histC] at g1
      go_wp2_with fail
      clear f1 g1 l1
      have HBk5 := Lib.hid (HBk4.out.set 0 (.pointer (some ⟨rs[rs.length - 1]'(by have := HUL.out; omega), 0, none⟩)))
      refine ⟨trivial, ?_⟩
      repeat (first | (refine wpWay_take rfl (by rfl) (by intro w hSw; (try dsimp only at hSw); first | (go_simp; done) | (go_simp; with_reducible rfl)) ?_; try simp only [Act.put, List.setIfInBounds_toArray, List.set_cons_zero, List.set_cons_succ]) | (refine wpWay_skip rfl (by rfl) ?_; try simp only [Act.put, List.setIfInBounds_toArray, List.set_cons_zero, List.set_cons_succ]))
      refine wpWay_done ?_
      go_wp2_with fail
      go_ret
      exact ⟨rfl, hist_raw (u' := ⟨A2, n2, d2⟩) (r' := ⟨A1, n1, d1⟩) HB2.out HBk5.out (grown_trans (grown_trans (set_grownB _ _ _ _) (set_grownB _ _ _ _)) (set_grownB _ _ _ _)) hB (HF2.out.low HBS.out) (HF1.out.low HBS.out)⟩
    · refine wpWay_ev rfl (fun K hK => ?_) wpWay_stop
      go_wp2_with fail
      refine ⟨trivial, ?_⟩
      repeat (first | (refine wpWay_take rfl (by rfl) (by intro w hSw; (try dsimp only at hSw); first | (go_simp; done) | (go_simp; with_reducible rfl)) ?_; try simp only [Act.put, List.setIfInBounds_toArray, List.set_cons_zero, List.set_cons_succ]) | (refine wpWay_skip rfl (by rfl) ?_; try simp only [Act.put, List.setIfInBounds_toArray, List.set_cons_zero, List.set_cons_succ]))
      refine wpWay_ev rfl (fun K hK => ?_) wpWay_stop
      go_wp2_with fail
      refine ⟨trivial, ?_⟩
      repeat (first | (refine wpWay_take rfl (by rfl) (by intro w hSw; (try dsimp only at hSw); first | (go_simp; done) | (go_simp; with_reducible rfl)) ?_; try simp only [Act.put, List.setIfInBounds_toArray, List.set_cons_zero, List.set_cons_succ]) | (refine wpWay_skip rfl (by rfl) ?_; try simp only [Act.put, List.setIfInBounds_toArray, List.set_cons_zero, List.set_cons_succ]))
      refine wpWay_ev rfl (fun K hK => ?_) wpWay_stop
      go_wp2_with fail
      refine (hturn_any _ _ rs us n _ (HQ.out.bl HB1.out.drew) (HU.out.bl HB1.out.drew) HUL.out HN.out HN'.out).mono ?_
      rintro e w2 ⟨u1, u2, rfl, hf1, hf2, hb⟩
      have HBk2 := Lib.hid ((HBk1.out.bl (Bl.refl _).drew).bl hb)
      have HB2 := Lib.hid ((HB1.out.drew).bl hb)
      obtain ⟨A1, d1, z1, _⟩ := id hf1.1
      obtain ⟨A2, d2, z2, _⟩ := id hf2.1
      subst z1
      subst z2
      generalize hn1 : (rs.take (rs.length - 1)).length = n1 at *
      generalize hn2 : ((us ++ [n]).drop (us.length + 1 - 4)).length = n2 at *
      have HF1 := Lib.hid hf1
      have HF2 := Lib.hid hf2
      clear hf1 hf2 hb hn1 hn2
      go_wp2_with fail
      refine ⟨trivial, ?_⟩
      repeat (first | (refine wpWay_take rfl (by rfl) (by intro w hSw; (try dsimp only at hSw); first | (go_simp; done) | (go_simp; with_reducible rfl)) ?_; try simp only [Act.put, List.setIfInBounds_toArray, List.set_cons_zero, List.set_cons_succ]) | (refine wpWay_skip rfl (by rfl) ?_; try simp only [Act.put, List.setIfInBounds_toArray, List.set_cons_zero, List.set_cons_succ]))
      refine wpWay_ev rfl (fun K hK => ?_) wpWay_stop
      have f1 := HBk2.out.frozen 2
      have g1 := HBk2.out.cell 2
      have l1 := HBk2.out.lt
      simp [histC] at g1
      go_wp2_with fail
      clear f1 g1 l1
      have HBk3 := Lib.hid (HBk2.out.set 2 (.slice A1 n1 d1))
      refine ⟨trivial, ?_⟩
      repeat (first | (refine wpWay_take rfl (by rfl) (by intro w hSw; (try dsimp only at hSw); first | (go_simp; done) | (go_simp; with_reducible rfl)) ?_; try simp only [Act.put, List.setIfInBounds_toArray, List.set_cons_zero, List.set_cons_succ]) | (refine wpWay_skip rfl (by rfl) ?_; try simp only [Act.put, List.setIfInBounds_toArray, List.set_cons_zero, List.set_cons_succ]))
      refine wpWay_ev rfl (fun K hK => ?_) wpWay_stop
      have f1 := HBk3.out.frozen 1
      have g1 := HBk3.out.cell 1
      have l1 := HBk3.out.lt
      simp [histC] at g1
      go_wp2_with fail
      clear f1 g1 l1
      have HBk4 := Lib.hid (HBk3.out.set 1 (.slice A2 n2 d2))
      refine ⟨trivial, ?_⟩
      repeat (first | (refine wpWay_take rfl (by rfl) (by intro w hSw; (try dsimp only at hSw); first | (go_simp; done) | (go_simp; with_reducible rfl)) ?_; try simp only [Act.put, List.setIfInBounds_toArray, List.set_cons_zero, List.set_cons_succ]) | (refine wpWay_skip rfl (by rfl) ?_; try simp only [Act.put, List.setIfInBounds_toArray, List.set_cons_zero, List.set_cons_succ]))
      refine wpWay_ev rfl (fun K hK => ?_) wpWay_stop
      have f1 := HBk4.out.frozen 0
      have g1 := HBk4.out.cell 0
      have l1 := HBk4.out.lt
      simp [histC] at g1
      go_wp2_with fail
      clear f1 g1 l1
      have HBk5 := Lib.hid (HBk4.out.set 0 (.pointer (some ⟨rs[rs.length - 1]'(by have := HUL.out; omega), 0, none⟩)))
      refine ⟨trivial, ?_⟩
      repeat (first | (refine wpWay_take rfl (by rfl) (by intro w hSw; (try dsimp only at hSw); first | (go_simp; done) | (go_simp; with_reducible rfl)) ?_; try simp only [Act.put, List.setIfInBounds_toArray, List.set_cons_zero, List.set_cons_succ]) | (refine wpWay_skip rfl (by rfl) ?_; try simp only [Act.put, List.setIfInBounds_toArray, List.set_cons_zero, List.set_cons_succ]))
      refine wpWay_done ?_
      go_wp2_with fail
      go_ret
      exact ⟨rfl, hist_raw (u' := ⟨A2, n2, d2⟩) (r' := ⟨A1, n1, d1⟩) HB2.out HBk5.out (grown_trans (grown_trans (set_grownB _ _ _ _) (set_grownB _ _ _ _)) (set_grownB _ _ _ _)) hB (HF2.out.low HBS.out) (HF1.out.low HBS.out)⟩
  · refine wpWay_ev rfl (fun K hK => ?_) ?_
    · go_wp2_with fail
      refine ⟨trivial, ?_⟩
      repeat (first | (refine wpWay_take rfl (by rfl) (by intro w hSw; (try dsimp only at hSw); first | (go_simp; done) | (go_simp; with_reducible rfl)) ?_; try simp only [Act.put, List.setIfInBounds_toArray, List.set_cons_zero, List.set_cons_succ]) | (refine wpWay_skip rfl (by rfl) ?_; try simp only [Act.put, List.setIfInBounds_toArray, List.set_cons_zero, List.set_cons_succ]))
      refine wpWay_ev rfl (fun K hK => ?_) ?_
      · go_wp2_with fail
        refine ⟨trivial, ?_⟩
        repeat (first | (refine wpWay_take rfl (by rfl) (by intro w hSw; (try dsimp only at hSw); first | (go_simp; done) | (go_simp; with_reducible rfl)) ?_; try simp only [Act.put, List.setIfInBounds_toArray, List.set_cons_zero, List.set_cons_succ]) | (refine wpWay_skip rfl (by rfl) ?_; try simp only [Act.put, List.setIfInBounds_toArray, List.set_cons_zero, List.set_cons_succ]))
        refine wpWay_ev rfl (fun K hK => ?_) wpWay_stop
        go_wp2_with fail
        refine ⟨trivial, ?_⟩
        repeat (first | (refine wpWay_take rfl (by rfl) (by intro w hSw; (try dsimp only at hSw); first | (go_simp; done) | (go_simp; with_reducible rfl)) ?_; try simp only [Act.put, List.setIfInBounds_toArray, List.set_cons_zero, List.set_cons_succ]) | (refine wpWay_skip rfl (by rfl) ?_; try simp only [Act.put, List.setIfInBounds_toArray, List.set_cons_zero, List.set_cons_succ]))
        refine wpWay_ev rfl (fun K hK => ?_) wpWay_stop
        go_wp2_with fail
        refine (hturn_any _ _ rs us n _ (HQ.out.bl HB1.out.drew) (HU.out.bl HB1.out.drew) HUL.out HN.out HN'.out).mono ?_
        rintro e w2 ⟨u1, u2, rfl, hf1, hf2, hb⟩
        have HBk2 := Lib.hid ((HBk1.out.bl (Bl.refl _).drew).bl hb)
        have HB2 := Lib.hid ((HB1.out.drew).bl hb)
        obtain ⟨A1, d1, z1, _⟩ := id hf1.1
        obtain ⟨A2, d2, z2, _⟩ := id hf2.1
        subst z1
        subst z2
        generalize hn1 : (rs.take (rs.length - 1)).length = n1 at *
        generalize hn2 : ((us ++ [n]).drop (us.length + 1 - 4)).length = n2 at *
        have HF1 := Lib.hid hf1
        have HF2 := Lib.hid hf2
        clear hf1 hf2 hb hn1 hn2
        go_wp2_with fail
        refine ⟨trivial, ?_⟩
        repeat (first | (refine wpWay_take rfl (by rfl) (by intro w hSw; (try dsimp only at hSw); first | (go_simp; done) | (go_simp; with_reducible rfl)) ?_; try simp only [Act.put, List.setIfInBounds_toArray, List.set_cons_zero, List.set_cons_succ]) | (refine wpWay_skip rfl (by rfl) ?_; try simp only [Act.put, List.setIfInBounds_toArray, List.set_cons_zero, List.set_cons_succ]))
        refine wpWay_ev rfl (fun K hK => ?_) wpWay_stop
        have f1 := HBk2.out.frozen 2
        have g1 := HBk2.out.cell 2
        have l1 := HBk2.out.lt
        simp [histC] at g1
        go_wp2_with fail
        clear f1 g1 l1
        have HBk3 := Lib.hid (HBk2.out.set 2 (.slice A1 n1 d1))
        refine ⟨trivial, ?_⟩
        repeat (first | (refine wpWay_take rfl (by rfl) (by intro w hSw; (try dsimp only at hSw); first | (go_simp; done) | (go_simp; with_reducible rfl)) ?_; try simp only [Act.put, List.setIfInBounds_toArray, List.set_cons_zero, List.set_cons_succ]) | (refine wpWay_skip rfl (by rfl) ?_; try simp only [Act.put, List.setIfInBounds_toArray, List.set_cons_zero, List.set_cons_succ]))
        refine wpWay_ev rfl (fun K hK => ?_) wpWay_stop
        have f1 := HBk3.out.frozen 1
        have g1 := HBk3.out.cell 1
        have l1 := HBk3.out.lt
        simp [histC] at g1
        go_wp2_with fail
        clear f1 g1 l1
        have HBk4 := Lib.hid (HBk3.out.set 1 (.slice A2 n2 d2))
        refine ⟨trivial, ?_⟩
        repeat (first | (refine wpWay_take rfl (by rfl) (by intro w hSw; (try dsimp only at hSw); first | (go_simp; done) | (go_simp; with_reducible rfl)) ?_; try simp only [Act.put, List.setIfInBounds_toArray, List.set_cons_zero, List.set_cons_succ]) | (refine wpWay_skip rfl (by rfl) ?_; try simp only [Act.put, List.setIfInBounds_toArray, List.set_cons_zero, List.set_cons_succ]))
        refine wpWay_ev rfl (fun K hK => ?_) wpWay_stop
        have f1 := HBk4.out.frozen 0
        have g1 := HBk4.out.cell 0
        have l1 := HBk4.out.lt
        simp [histC] at g1
        go_wp2_with fail
        clear f1 g1 l1
        have HBk5 := Lib.hid (HBk4.out.set 0 (.pointer (some ⟨rs[rs.length - 1]'(by have := HUL.out; omega), 0, none⟩)))
        refine ⟨trivial, ?_⟩
        repeat (first | (refine wpWay_take rfl (by rfl) (by intro w hSw; (try dsimp only at hSw); first | (go_simp; done) | (go_simp; with_reducible rfl)) ?_; try simp only [Act.put, List.setIfInBounds_toArray, List.set_cons_zero, List.set_cons_succ]) | (refine wpWay_skip rfl (by rfl) ?_; try simp only [Act.put, List.setIfInBounds_toArray, List.set_cons_zero, List.set_cons_succ]))
        refine wpWay_done ?_
        go_wp2_with fail
        go_ret
        exact ⟨rfl, hist_raw (u' := ⟨A2, n2, d2⟩) (r' := ⟨A1, n1, d1⟩) HB2.out HBk5.out (grown_trans (grown_trans (set_grownB _ _ _ _) (set_grownB _ _ _ _)) (set_grownB _ _ _ _)) hB (HF2.out.low HBS.out) (HF1.out.low HBS.out)⟩
      · refine wpWay_ev rfl (fun K hK => ?_) wpWay_stop
        go_wp2_with fail
        refine ⟨trivial, ?_⟩
        repeat (first | (refine wpWay_take rfl (by rfl) (by intro w hSw; (try dsimp only at hSw); first | (go_simp; done) | (go_simp; with_reducible rfl)) ?_; try simp only [Act.put, List.setIfInBounds_toArray, List.set_cons_zero, List.set_cons_succ]) | (refine wpWay_skip rfl (by rfl) ?_; try simp only [Act.put, List.setIfInBounds_toArray, List.set_cons_zero, List.set_cons_succ]))
        refine wpWay_ev rfl (fun K hK => ?_) wpWay_stop
        go_wp2_with fail
        refine ⟨trivial, ?_⟩
        repeat (first | (refine wpWay_take rfl (by rfl) (by intro w hSw; (try dsimp only at hSw); first | (go_simp; done) | (go_simp; with_reducible rfl)) ?_; try simp only [Act.put, List.setIfInBounds_toArray, List.set_cons_zero, List.set_cons_succ]) | (refine wpWay_skip rfl (by rfl) ?_; try simp only [Act.put, List.setIfInBounds_toArray, List.set_cons_zero, List.set_cons_succ]))
        refine wpWay_ev rfl (fun K hK => ?_) wpWay_stop
        go_wp2_with fail
        refine (hturn_any _ _ rs us n _ (HQ.out.bl HB1.out.drew) (HU.out.bl HB1.out.drew) HUL.out HN.out HN'.out).mono ?_
        rintro e w2 ⟨u1, u2, rfl, hf1, hf2, hb⟩
        have HBk2 := Lib.hid ((HBk1.out.bl (Bl.refl _).drew).bl hb)
        have HB2 := Lib.hid ((HB1.out.drew).bl hb)
        obtain ⟨A1, d1, z1, _⟩ := id hf1.1
        obtain ⟨A2, d2, z2, _⟩ := id hf2.1
        subst z1
        subst z2
        generalize hn1 : (rs.take (rs.length - 1)).length = n1 at *
        generalize hn2 : ((us ++ [n]).drop (us.length + 1 - 4)).length = n2 at *
        have HF1 := Lib.hid hf1
        have HF2 := Lib.hid hf2
        clear hf1 hf2 hb hn1 hn2
        go_wp2_with fail
        refine ⟨trivial, ?_⟩
        repeat (first | (refine wpWay_take rfl (by rfl) (by intro w hSw; (try dsimp only at hSw); first | (go_simp; done) | (go_simp; with_reducible rfl)) ?_; try simp only [Act.put, List.setIfInBounds_toArray, List.set_cons_zero, List.set_cons_succ]) | (refine wpWay_skip rfl (by rfl) ?_; try simp only [Act.put, List.setIfInBounds_toArray, List.set_cons_zero, List.set_cons_succ]))
        refine wpWay_ev rfl (fun K hK => ?_) wpWay_stop
        have f1 := HBk2.out.frozen 2
        have g1 := HBk2.out.cell 2
        have l1 := HBk2.out.lt
        simp [histC] at g1
        go_wp2_with fail
        clear f1 g1 l1
        have HBk3 := Lib.hid (HBk2.out.set 2 (.slice A1 n1 d1))
        refine ⟨trivial, ?_⟩
        repeat (first | (refine wpWay_take rfl (by rfl) (by intro w hSw; (try dsimp only at hSw); first | (go_simp; done) | (go_simp; with_reducible rfl)) ?_; try simp only [Act.put, List.setIfInBounds_toArray, List.set_cons_zero, List.set_cons_succ]) | (refine wpWay_skip rfl (by rfl) ?_; try simp only [Act.put, List.setIfInBounds_toArray, List.set_cons_zero, List.set_cons_succ]))
        refine wpWay_ev rfl (fun K hK => ?_) wpWay_stop
        have f1 := HBk3.out.frozen 1
        have g1 := HBk3.out.cell 1
        have l1 := HBk3.out.lt
        simp [histC] at g1
        go_wp2_with fail
        clear f1 g1 l1
        have HBk4 := Lib.hid (HBk3.out.set 1 (.slice A2 n2 d2))
        refine ⟨trivial, ?_⟩
        repeat (first | (refine wpWay_take rfl (by rfl) (by intro w hSw; (try dsimp only at hSw); first | (go_simp; done) | (go_simp; with_reducible rfl)) ?_; try simp only [Act.put, List.setIfInBounds_toArray, List.set_cons_zero, List.set_cons_succ]) | (refine wpWay_skip rfl (by rfl) ?_; try simp only [Act.put, List.setIfInBounds_toArray, List.set_cons_zero, List.set_cons_succ]))
        refine wpWay_ev rfl (fun K hK => ?_) wpWay_stop
        have f1 := HBk4.out.frozen 0
        have g1 := HBk4.out.cell 0
        have l1 := HBk4.out.lt
        simp [histC] at g1
        go_wp2_with fail
        clear f1 g1 l1
        have HBk5 := Lib.hid (HBk4.out.set 0 (.pointer (some ⟨rs[rs.length - 1]'(by have := HUL.out; omega), 0, none⟩)))
        refine ⟨trivial, ?_⟩
        repeat (first | (refine wpWay_take rfl (by rfl) (by intro w hSw; (try dsimp only at hSw); first | (go_simp; done) | (go_simp; with_reducible rfl)) ?_; try simp only [Act.put, List.setIfInBounds_toArray, List.set_cons_zero, List.set_cons_succ]) | (refine wpWay_skip rfl (by rfl) ?_; try simp only [Act.put, List.setIfInBounds_toArray, List.set_cons_zero, List.set_cons_succ]))
        refine wpWay_done ?_
        go_wp2_with fail
        go_ret
        exact ⟨rfl, hist_raw (u' := ⟨A2, n2, d2⟩) (r' := ⟨A1, n1, d1⟩) HB2.out HBk5.out (grown_trans (grown_trans (set_grownB _ _ _ _) (set_grownB _ _ _ _)) (set_grownB _ _ _ _)) hB (HF2.out.low HBS.out) (HF1.out.low HBS.out)⟩
    · refine wpWay_ev rfl (fun K hK => ?_) wpWay_stop
      go_wp2_with fail
      refine ⟨trivial, ?_⟩
      repeat (first | (refine wpWay_take rfl (by rfl) (by intro w hSw; (try dsimp only at hSw); first | (go_simp; done) | (go_simp; with_reducible rfl)) ?_; try simp only [Act.put, List.setIfInBounds_toArray, List.set_cons_zero, List.set_cons_succ]) | (refine wpWay_skip rfl (by rfl) ?_; try simp only [Act.put, List.setIfInBounds_toArray, List.set_cons_zero, List.set_cons_succ]))
      refine wpWay_ev rfl (fun K hK => ?_) ?_
      · go_wp2_with fail
        refine ⟨trivial, ?_⟩
        repeat (first | (refine wpWay_take rfl (by rfl) (by intro w hSw; (try dsimp only at hSw); first | (go_simp; done) | (go_simp; with_reducible rfl)) ?_; try simp only [Act.put, List.setIfInBounds_toArray, List.set_cons_zero, List.set_cons_succ]) | (refine wpWay_skip rfl (by rfl) ?_; try simp only [Act.put, List.setIfInBounds_toArray, List.set_cons_zero, List.set_cons_succ]))
        refine wpWay_ev rfl (fun K hK => ?_) wpWay_stop
        go_wp2_with fail
        refine ⟨trivial, ?_⟩
        repeat (first | (refine wpWay_take rfl (by rfl) (by intro w hSw; (try dsimp only at hSw); first | (go_simp; done) | (go_simp; with_reducible rfl)) ?_; try simp only [Act.put, List.setIfInBounds_toArray, List.set_cons_zero, List.set_cons_succ]) | (refine wpWay_skip rfl (by rfl) ?_; try simp only [Act.put, List.setIfInBounds_toArray, List.set_cons_zero, List.set_cons_succ]))
        refine wpWay_ev rfl (fun K hK => ?_) wpWay_stop
        go_wp2_with fail
        refine (hturn_any _ _ rs us n _ (HQ.out.bl HB1.out.drew) (HU.out.bl HB1.out.drew) HUL.out HN.out HN'.out).mono ?_
        rintro e w2 ⟨u1, u2, rfl, hf1, hf2, hb⟩
        have HBk2 := Lib.hid ((HBk1.out.bl (Bl.refl _).drew).bl hb)
        have HB2 := Lib.hid ((HB1.out.drew).bl hb)
        obtain ⟨A1, d1, z1, _⟩ := id hf1.1
        obtain ⟨A2, d2, z2, _⟩ := id hf2.1
        subst z1
        subst z2
        generalize hn1 : (rs.take (rs.length - 1)).length = n1 at *
        generalize hn2 : ((us ++ [n]).drop (us.length + 1 - 4)).length = n2 at *
        have HF1 := Lib.hid hf1
        have HF2 := Lib.hid hf2
        clear hf1 hf2 hb hn1 hn2
        go_wp2_with fail
        refine ⟨trivial, ?_⟩
        repeat (first | (refine wpWay_take rfl (by rfl) (by intro w hSw; (try dsimp only at hSw); first | (go_simp; done) | (go_simp; with_reducible rfl)) ?_; try simp only [Act.put, List.setIfInBounds_toArray, List.set_cons_zero, List.set_cons_succ]) | (refine wpWay_skip rfl (by rfl) ?_; try simp only [Act.put, List.setIfInBounds_toArray, List.set_cons_zero, List.set_cons_succ]))
        refine wpWay_ev rfl (fun K hK => ?_) wpWay_stop
        have f1 := HBk2.out.frozen 2
        have g1 := HBk2.out.cell 2
        have l1 := HBk2.out.lt
        simp [histC] at g1
        go_wp2_with fail
        clear f1 g1 l1
        have HBk3 := Lib.hid (HBk2.out.set 2 (.slice A1 n1 d1))
        refine ⟨trivial, ?_⟩
        repeat (first | (refine wpWay_take rfl (by rfl) (by intro w hSw; (try dsimp only at hSw); first | (go_simp; done) | (go_simp; with_reducible rfl)) ?_; try simp only [Act.put, List.setIfInBounds_toArray, List.set_cons_zero, List.set_cons_succ]) | (refine wpWay_skip rfl (by rfl) ?_; try simp only [Act.put, List.setIfInBounds_toArray, List.set_cons_zero, List.set_cons_succ]))
        refine wpWay_ev rfl (fun K hK => ?_) wpWay_stop
        have f1 := HBk3.out.frozen 1
        have g1 := HBk3.out.cell 1
        have l1 := HBk3.out.lt
        simp [histC] at g1
        go_wp2_with fail
        clear f1 g1 l1
        have HBk4 := Lib.hid (HBk3.out.set 1 (.slice A2 n2 d2))
        refine ⟨trivial, ?_⟩
        repeat (first | (refine wpWay_take rfl (by rfl) (by intro w hSw; (try dsimp only at hSw); first | (go_simp; done) | (go_simp; with_reducible rfl)) ?_; try simp only [Act.put, List.setIfInBounds_toArray, List.set_cons_zero, List.set_cons_succ]) | (refine wpWay_skip rfl (by rfl) ?_; try simp only [Act.put, List.setIfInBounds_toArray, List.set_cons_zero, List.set_cons_succ]))
        refine wpWay_ev rfl (fun K hK => ?_) wpWay_stop
        have f1 := HBk4.out.frozen 0
        have g1 := HBk4.out.cell 0
        have l1 := HBk4.out.lt
        simp [histC] at g1
        go_wp2_with fail
        clear f1 g1 l1
        have HBk5 := Lib.hid (HBk4.out.set 0 (.pointer (some ⟨rs[rs.length - 1]'(by have := HUL.out; omega), 0, none⟩)))
        refine ⟨trivial, ?_⟩
        repeat (first | (refine wpWay_take rfl (by rfl) (by intro w hSw; (try dsimp only at hSw); first | (go_simp; done) | (go_simp; with_reducible rfl)) ?_; try simp only [Act.put, List.setIfInBounds_toArray, List.set_cons_zero, List.set_cons_succ]) | (refine wpWay_skip rfl (by rfl) ?_; try simp only [Act.put, List.setIfInBounds_toArray, List.set_cons_zero, List.set_cons_succ]))
        refine wpWay_done ?_
        go_wp2_with fail
        go_ret
        exact ⟨rfl, hist_raw (u' := ⟨A2, n2, d2⟩) (r' := ⟨A1, n1, d1⟩) HB2.out HBk5.out (grown_trans (grown_trans (set_grownB _ _ _ _) (set_grownB _ _ _ _)) (set_grownB _ _ _ _)) hB (HF2.out.low HBS.out) (HF1.out.low HBS.out)⟩
      · refine wpWay_ev rfl (fun K hK => ?_) wpWay_stop
        go_wp2_with fail
        refine ⟨trivial, ?_⟩
        repeat (first | (refine wpWay_take rfl (by rfl) (by intro w hSw; (try dsimp only at hSw); first | (go_simp; done) | (go_simp; with_reducible rfl)) ?_; try simp only [Act.put, List.setIfInBounds_toArray, List.set_cons_zero, List.set_cons_succ]) | (refine wpWay_skip rfl (by rfl) ?_; try simp only [Act.put, List.setIfInBounds_toArray, List.set_cons_zero, List.set_cons_succ]))
        refine wpWay_ev rfl (fun K hK => ?_) wpWay_stop
        go_wp2_with fail
        refine ⟨trivial, ?_⟩
        repeat (first | (refine wpWay_take rfl (by rfl) (by intro w hSw; (try dsimp only at hSw); first | (go_simp; done) | (go_simp; with_reducible rfl)) ?_; try simp only [Act.put, List.setIfInBounds_toArray, List.set_cons_zero, List.set_cons_succ]) | (refine wpWay_skip rfl (by rfl) ?_; try simp only [Act.put, List.setIfInBounds_toArray, List.set_cons_zero, List.set_cons_succ]))
        refine wpWay_ev rfl (fun K hK => ?_) wpWay_stop
        go_wp2_with fail
        refine (hturn_any _ _ rs us n _ (HQ.out.bl HB1.out.drew) (HU.out.bl HB1.out.drew) HUL.out HN.out HN'.out).mono ?_
        rintro e w2 ⟨u1, u2, rfl, hf1, hf2, hb⟩
        have HBk2 := Lib.hid ((HBk1.out.bl (Bl.refl _).drew).bl hb)
        have HB2 := Lib.hid ((HB1.out.drew).bl hb)
        obtain ⟨A1, d1, z1, _⟩ := id hf1.1
        obtain ⟨A2, d2, z2, _⟩ := id hf2.1
        subst z1
        subst z2
        generalize hn1 : (rs.take (rs.length - 1)).length = n1 at *
        generalize hn2 : ((us ++ [n]).drop (us.length + 1 - 4)).length = n2 at *
        have HF1 := Lib.hid hf1
        have HF2 := Lib.hid hf2
        clear hf1 hf2 hb hn1 hn2
        go_wp2_with fail
        refine ⟨trivial, ?_⟩
        repeat (first | (refine wpWay_take rfl (by rfl) (by intro w hSw; (try dsimp only at hSw); first | (go_simp; done) | (go_simp; with_reducible rfl)) ?_; try simp only [Act.put, List.setIfInBounds_toArray, List.set_cons_zero, List.set_cons_succ]) | (refine wpWay_skip rfl (by rfl) ?_; try simp only [Act.put, List.setIfInBounds_toArray, List.set_cons_zero, List.set_cons_succ]))
        refine wpWay_ev rfl (fun K hK => ?_) wpWay_stop
        have f1 := HBk2.out.frozen 2
        have g1 := HBk2.out.cell 2
        have l1 := HBk2.out.lt
        simp [histC] at g1
        go_wp2_with fail
        clear f1 g1 l1
        have HBk3 := Lib.hid (HBk2.out.set 2 (.slice A1 n1 d1))
        refine ⟨trivial, ?_⟩
        repeat (first | (refine wpWay_take rfl (by rfl) (by intro w hSw; (try dsimp only at hSw); first | (go_simp; done) | (go_simp; with_reducible rfl)) ?_; try simp only [Act.put, List.setIfInBounds_toArray, List.set_cons_zero, List.set_cons_succ]) | (refine wpWay_skip rfl (by rfl) ?_; try simp only [Act.put, List.setIfInBounds_toArray, List.set_cons_zero, List.set_cons_succ]))
        refine wpWay_ev rfl (fun K hK => ?_) wpWay_stop
        have f1 := HBk3.out.frozen 1
        have g1 := HBk3.out.cell 1
        have l1 := HBk3.out.lt
        simp [histC] at g1
        go_wp2_with fail
        clear f1 g1 l1
        have HBk4 := Lib.hid (HBk3.out.set 1 (.slice A2 n2 d2))
        refine ⟨trivial, ?_⟩
        repeat (first | (refine wpWay_take rfl (by rfl) (by intro w hSw; (try dsimp only at hSw); first | (go_simp; done) | (go_simp; with_reducible rfl)) ?_; try simp only [Act.put, List.setIfInBounds_toArray, List.set_cons_zero, List.set_cons_succ]) | (refine wpWay_skip rfl (by rfl) ?_; try simp only [Act.put, List.setIfInBounds_toArray, List.set_cons_zero, List.set_cons_succ]))
        refine wpWay_ev rfl (fun K hK => ?_) wpWay_stop
        have f1 := HBk4.out.frozen 0
        have g1 := HBk4.out.cell 0
        have l1 := HBk4.out.lt
        simp [histC] at g1
        go_wp2_with fail
        clear f1 g1 l1
        have HBk5 := Lib.hid (HBk4.out.set 0 (.pointer (some ⟨rs[rs.length - 1]'(by have := HUL.out; omega), 0, none⟩)))
        refine ⟨trivial, ?_⟩
        repeat (first | (refine wpWay_take rfl (by rfl) (by intro w hSw; (try dsimp only at hSw); first | (go_simp; done) | (go_simp; with_reducible rfl)) ?_; try simp only [Act.put, List.setIfInBounds_toArray, List.set_cons_zero, List.set_cons_succ]) | (refine wpWay_skip rfl (by rfl) ?_; try simp only [Act.put, List.setIfInBounds_toArray, List.set_cons_zero, List.set_cons_succ]))
        refine wpWay_done ?_
        go_wp2_with fail
        go_ret
        exact ⟨rfl, hist_raw (u' := ⟨A2, n2, d2⟩) (r' := ⟨A1, n1, d1⟩) HB2.out HBk5.out (grown_trans (grown_trans (set_grownB _ _ _ _) (set_grownB _ _ _ _)) (set_grownB _ _ _ _)) hB (HF2.out.low HBS.out) (HF1.out.low HBS.out)⟩
end Go.Proofs.YtddcjekkimajpaaGreat.ExtW

/- history.Apply: a change; then the whole of it, of what lies in some blocks alone. -/
namespace Go.Proofs.YtddcjekkimajpaaGreat.ExtW
open Go.RowKit Go.Ov Go.Proofs.YtddcjekkimajpaaGreat.Need

set_option maxRecDepth 100000 in
set_option maxHeartbeats 1500000 in
theorem happly_changeG (G : Nat → Bool) (B n : Nat) (u q : Head) (us : List Nat) (s : StM) (rv : Value) (r : Rec) (w : World) (hG : G B = false) (h0 : Blk w B (histC n u q) 59) (h2 : ptrE.Is w u.v us) (h1 : StateIs (only w G) (.pointer (some ⟨n, 0, none⟩)) s) (hr : RecIs w rv r) (hk : r.kind ≤ 3) (hv : validRec r = true) (hs : StOK s) (hn : us.length ≤ 4) :
    Calls Tryz.prog 21 #[.pointer (some ⟨B, 0, none⟩), rv] w fun e w' => e = .returned (.int .i64 (applyR s r).2) ∧ ((applyR s r).2 ≠ 0 → Bl w w') ∧
      ((applyR s r).2 = 0 → ∃ bT, StateIs (only w' (gor G w)) (.pointer (some ⟨bT, 0, none⟩)) (applyR s r).1 ∧ HistRaw 59 w w' B bT ((us ++ [n]).drop (us.length + 1 - 4)) []) := by
  have HR := Lib.hid hr
  have HV := Lib.hid hv
  have HOK := Lib.hid hs
  have HG := Lib.hid hG
  obtain ⟨u2, rfl, hl⟩ := hr
  obtain ⟨A, c, rfl, _⟩ := hl
  have HBk := Lib.hid h0
  have HN := Lib.hid hn
  obtain ⟨kk, t, f, o, l⟩ := r
  dsimp only at hk HV
  have e4 : (kk == 4) = false := by rw [beq_eq_false_iff_ne]; omega
  have e5 : (kk == 5) = false := by rw [beq_eq_false_iff_ne]; omega
  obtain ⟨uA, un, uc⟩ := u
  simp only [Head.v] at h2
  have hun : un = us.length := by obtain ⟨_, _, e, _⟩ := h2; simp at e; exact e.2.1
  subst hun
  have hB := h0.lt
  have HU := Lib.hid h2
  have HNow := Lib.hid h1
  clear h1 h2 h0 hv hn hk hs hG
  have hur := Tryz.underlying46
  have huh := Tryz.underlying59
  go_enter Tryz.func21, Tryz.ntmps21
  go_wp2_with fail
  refine (rvalidRec_any _ _ _ (HR.out.bl ((Bl.refl _).alloc _))).mono ?_
  rintro e w1 ⟨rfl, hb⟩
  rw [HV.out]
  have b1 := (Blk.new w #[.int .i64 kk, .int .i64 t, .int .i64 f, .int .i64 o, .slice A l.length c] 46).bl hb
  have HRB := Lib.hid b1
  have d0 := b1.cell 0
  have d1 := b1.cell 1
  have d2 := b1.cell 2
  have d3 := b1.cell 3
  have d4 := b1.cell 4
  simp at d0 d1 d2 d3 d4
  have HB1 := Lib.hid (((Bl.refl w).alloc (.cells #[.int .i64 kk, .int .i64 t, .int .i64 f, .int .i64 o, .slice A l.length c] 46)).bl hb)
  have HBk1 := Lib.hid (HBk.out.bl HB1.out)
  have c0 := HBk1.out.cell 0
  simp [histC, Head.v] at c0
  clear hb b1
  go_wp2_with fail
  refine wp_region_ways (S := (fun w' => w'.cell? ⟨B, 0, none⟩ = some (.pointer (some ⟨n, 0, none⟩)) ∧ w'.cell? ⟨w.heap.size, 0, none⟩ = some (.int .i64 kk) ∧ w'.cell? ⟨w.heap.size, 1, none⟩ = some (.int .i64 t) ∧ w'.cell? ⟨w.heap.size, 2, none⟩ = some (.int .i64 f) ∧ w'.cell? ⟨w.heap.size, 3, none⟩ = some (.int .i64 o) ∧ w'.cell? ⟨w.heap.size, 4, none⟩ = some (.slice A l.length c))) [0, 1, 2, 3, 4, 6, 7, 8, 9, 10] (y := .take 0 (.take 1 (.take 2 (.take 3 (.take 4 (.ev 5 (.take 6 (.take 7 (.take 8 (.take 9 (.take 10 (.done)))))) (.stop))))))) (by kernel_rfl) (by kernel_rfl) (by kernel_rfl) ?_ (fun hHeld => ?_)
  · have hb := (Bl.refl w1).drew
    exact ⟨hb.cell c0, hb.cell d0, hb.cell d1, hb.cell d2, hb.cell d3, hb.cell d4⟩
  have HH := Lib.hid hHeld
  repeat (first | (refine wpWay_take rfl (by rfl) (by intro w hSw; (try dsimp only at hSw); first | (go_simp; done) | (go_simp; with_reducible rfl)) ?_; try simp only [Act.put, List.setIfInBounds_toArray, List.set_cons_zero, List.set_cons_succ]) | (refine wpWay_skip rfl (by rfl) ?_; try simp only [Act.put, List.setIfInBounds_toArray, List.set_cons_zero, List.set_cons_succ]))
  clear hHeld d0 d1 d2 d3 d4
  refine wpWay_ev rfl (fun K hK => ?_) wpWay_stop
  go_wp2_with fail
  refine (sapply_G G _ _ s ⟨kk, t, f, o, l⟩ _ ((Sub.bl (HB1.out.drew.only G)).state HNow.out) (HR.out.bl HB1.out.drew) HOK.out).mono ?_
  rintro e w3 ⟨hres, hb⟩
  have HB3 := Lib.hid ((HB1.out.drew).bl hb)
  have HBk3 := Lib.hid (HBk.out.bl HB3.out)
  have hh := HH.out
  replace HH := Lib.hid (show _ ∧ _ ∧ _ ∧ _ ∧ _ ∧ _ from ⟨hb.cell hh.1, hb.cell hh.2.1, hb.cell hh.2.2.1, hb.cell hh.2.2.2.1, hb.cell hh.2.2.2.2.1, hb.cell hh.2.2.2.2.2⟩)
  clear hb hh c0
  by_cases hz : (applyR s ⟨kk, t, f, o, l⟩).2 = 0
  · obtain ⟨u3, rfl, hst⟩ := hres.1 hz
    obtain ⟨bT, _, _, rfl, _⟩ := id hst
    have HSTG := Lib.hid hst
    have HBD := Lib.hid (HB1.out.drew.size)
    have HZ := Lib.hid hz
    clear hres hst hz
    go_wp2_with fail
    refine ⟨HH.out, ?_⟩
    repeat (first | (refine wpWay_take rfl (by rfl) (by intro w hSw; (try dsimp only at hSw); first | (go_simp; done) | (go_simp; with_reducible rfl)) ?_; try simp only [Act.put, List.setIfInBounds_toArray, List.set_cons_zero, List.set_cons_succ]) | (refine wpWay_skip rfl (by rfl) ?_; try simp only [Act.put, List.setIfInBounds_toArray, List.set_cons_zero, List.set_cons_succ]))
    refine wpWay_done ?_
    have c0 := HBk3.out.cell 0
    have c1 := HBk3.out.cell 1
    simp [histC, Head.v] at c0 c1
    go_wp2_with fail
    refine wp_region_ways (S := (fun _ => True)) [0, 1, 2, 3, 4, 5, 7, 8, 9, 12, 13, 14, 16, 17, 19, 20] (y := .take 0 (.take 1 (.take 2 (.take 3 (.take 4 (.take 5 (.take 7 (.take 8 (.take 9 (.take 12 (.ev 6 (.ev 10 (.ev 11 (.take 13 (.take 14 (.ev 15 (.take 16 (.take 17 (.ev 18 (.take 19 (.take 20 (.ev 21 (.done) (.stop)))) (.stop)))) (.stop)))) (.stop)) (.stop)) (.ev 10 (.ev 6 (.ev 11 (.take 13 (.take 14 (.ev 15 (.take 16 (.take 17 (.ev 18 (.take 19 (.take 20 (.ev 21 (.done) (.stop)))) (.stop)))) (.stop)))) (.stop)) (.stop)) (.stop))))))))))))) (by kernel_rfl) (by kernel_rfl) (by kernel_rfl) ?_ (fun hHeld => ?_)
    · trivial
    repeat (first | (refine wpWay_take rfl (by rfl) (by intro w hSw; (try dsimp only at hSw); first | (go_simp; done) | (go_simp; with_reducible rfl)) ?_; try simp only [Act.put, List.setIfInBounds_toArray, List.set_cons_zero, List.set_cons_succ]) | (refine wpWay_skip rfl (by rfl) ?_; try simp only [Act.put, List.setIfInBounds_toArray, List.set_cons_zero, List.set_cons_succ]))
    refine wpWay_ev rfl (fun K hK => ?_) ?_
    · go_wp2_with fail
      refine ⟨trivial, ?_⟩
      repeat (first | (refine wpWay_take rfl (by rfl) (by intro w hSw; (try dsimp only at hSw); first | (go_simp; done) | (go_simp; with_reducible rfl)) ?_; try simp only [Act.put, List.setIfInBounds_toArray, List.set_cons_zero, List.set_cons_succ]) | (refine wpWay_skip rfl (by rfl) ?_; try simp only [Act.put, List.setIfInBounds_toArray, List.set_cons_zero, List.set_cons_succ]))
      refine wpWay_ev rfl (fun K hK => ?_) wpWay_stop
      go_wp2_with fail
      refine ⟨trivial, ?_⟩
      repeat (first | (refine wpWay_take rfl (by rfl) (by intro w hSw; (try dsimp only at hSw); first | (go_simp; done) | (go_simp; with_reducible rfl)) ?_; try simp only [Act.put, List.setIfInBounds_toArray, List.set_cons_zero, List.set_cons_succ]) | (refine wpWay_skip rfl (by rfl) ?_; try simp only [Act.put, List.setIfInBounds_toArray, List.set_cons_zero, List.set_cons_succ]))
      refine wpWay_ev rfl (fun K hK => ?_) wpWay_stop
      go_wp2_with fail
      refine (hpush_any _ us n _ (HU.out.bl HB3.out.drew) HN.out).mono ?_
      rintro e w4 ⟨u1, rfl, hf1, hb⟩
      have HBk4 := Lib.hid ((HBk3.out.bl (Bl.refl _).drew).bl hb)
      have HB4 := Lib.hid ((HB3.out.drew).bl hb)
      have HBS := Lib.hid (HB3.out.drew.size)
      have HBL := Lib.hid ((Bl.refl w3).drew.bl hb)
      obtain ⟨A1, d1, z1, _⟩ := id hf1.1
      subst z1
      generalize hn1 : ((us ++ [n]).drop (us.length + 1 - 4)).length = n1 at *
      have HF1 := Lib.hid hf1
      clear hf1 hb hn1
      go_wp2_with fail
      refine ⟨trivial, ?_⟩
      repeat (first | (refine wpWay_take rfl (by rfl) (by intro w hSw; (try dsimp only at hSw); first | (go_simp; done) | (go_simp; with_reducible rfl)) ?_; try simp only [Act.put, List.setIfInBounds_toArray, List.set_cons_zero, List.set_cons_succ]) | (refine wpWay_skip rfl (by rfl) ?_; try simp only [Act.put, List.setIfInBounds_toArray, List.set_cons_zero, List.set_cons_succ]))
      refine wpWay_ev rfl (fun K hK => ?_) wpWay_stop
      have f1 := HBk4.out.frozen 1
      have g1 := HBk4.out.cell 1
      have l1 := HBk4.out.lt
      simp [histC] at g1
      go_wp2_with fail
      clear f1 g1 l1
      have HBk5 := Lib.hid (HBk4.out.set 1 (.slice A1 n1 d1))
      refine ⟨trivial, ?_⟩
      repeat (first | (refine wpWay_take rfl (by rfl) (by intro w hSw; (try dsimp only at hSw); first | (go_simp; done) | (go_simp; with_reducible rfl)) ?_; try simp only [Act.put, List.setIfInBounds_toArray, List.set_cons_zero, List.set_cons_succ]) | (refine wpWay_skip rfl (by rfl) ?_; try simp only [Act.put, List.setIfInBounds_toArray, List.set_cons_zero, List.set_cons_succ]))
      refine wpWay_ev rfl (fun K hK => ?_) wpWay_stop
      have f1 := HBk5.out.frozen 2
      have g1 := HBk5.out.cell 2
      have l1 := HBk5.out.lt
      simp [histC] at g1
      go_wp2_with fail
      clear f1 g1 l1
      have HBk6 := Lib.hid (HBk5.out.set 2 (.slice none 0 0))
      refine ⟨trivial, ?_⟩
      repeat (first | (refine wpWay_take rfl (by rfl) (by intro w hSw; (try dsimp only at hSw); first | (go_simp; done) | (go_simp; with_reducible rfl)) ?_; try simp only [Act.put, List.setIfInBounds_toArray, List.set_cons_zero, List.set_cons_succ]) | (refine wpWay_skip rfl (by rfl) ?_; try simp only [Act.put, List.setIfInBounds_toArray, List.set_cons_zero, List.set_cons_succ]))
      refine wpWay_ev rfl (fun K hK => ?_) wpWay_stop
      have f1 := HBk6.out.frozen 0
      have g1 := HBk6.out.cell 0
      have l1 := HBk6.out.lt
      simp [histC] at g1
      go_wp2_with fail
      clear f1 g1 l1
      have HBk7 := Lib.hid (HBk6.out.set 0 (.pointer (some ⟨bT, 0, none⟩)))
      refine ⟨trivial, ?_⟩
      repeat (first | (refine wpWay_take rfl (by rfl) (by intro w hSw; (try dsimp only at hSw); first | (go_simp; done) | (go_simp; with_reducible rfl)) ?_; try simp only [Act.put, List.setIfInBounds_toArray, List.set_cons_zero, List.set_cons_succ]) | (refine wpWay_skip rfl (by rfl) ?_; try simp only [Act.put, List.setIfInBounds_toArray, List.set_cons_zero, List.set_cons_succ]))
      refine wpWay_done ?_
      go_wp2_with fail
      go_ret
      refine ⟨by rw [HZ.out]; rfl, fun h => absurd HZ.out h, fun _ => ⟨bT, ?_, hist_raw (u' := ⟨A1, n1, d1⟩) (r' := nilH) HB4.out HBk7.out (grown_trans (grown_trans (set_grownB _ _ _ _) (set_grownB _ _ _ _)) (set_grownB _ _ _ _)) hB (HF1.out.low HBS.out) (FarIs.nil _ _)⟩⟩
      refine Sub.state ?_ HSTG.out
      refine Sub.trans ?_ (Sub.mono (gor_le HBD.out))
      refine Sub.trans (Sub.bl (HBL.out.only _)) ?_
      exact Sub.grown (grown_trans (grown_trans (set_grownB _ _ _ _) (set_grownB _ _ _ _)) (set_grownB _ _ _ _)) (fun k hk => by injection hk with hk; subst hk; unfold gor; rw [HG.out, decide_eq_false (by have := HBD.out; omega)]; rfl)
    · refine wpWay_ev rfl (fun K hK => ?_) wpWay_stop
      go_wp2_with fail
      refine ⟨trivial, ?_⟩
      repeat (first | (refine wpWay_take rfl (by rfl) (by intro w hSw; (try dsimp only at hSw); first | (go_simp; done) | (go_simp; with_reducible rfl)) ?_; try simp only [Act.put, List.setIfInBounds_toArray, List.set_cons_zero, List.set_cons_succ]) | (refine wpWay_skip rfl (by rfl) ?_; try simp only [Act.put, List.setIfInBounds_toArray, List.set_cons_zero, List.set_cons_succ]))
      refine wpWay_ev rfl (fun K hK => ?_) wpWay_stop
      go_wp2_with fail
      refine ⟨trivial, ?_⟩
      repeat (first | (refine wpWay_take rfl (by rfl) (by intro w hSw; (try dsimp only at hSw); first | (go_simp; done) | (go_simp; with_reducible rfl)) ?_; try simp only [Act.put, List.setIfInBounds_toArray, List.set_cons_zero, List.set_cons_succ]) | (refine wpWay_skip rfl (by rfl) ?_; try simp only [Act.put, List.setIfInBounds_toArray, List.set_cons_zero, List.set_cons_succ]))
      refine wpWay_ev rfl (fun K hK => ?_) wpWay_stop
      go_wp2_with fail
      refine (hpush_any _ us n _ (HU.out.bl HB3.out.drew) HN.out).mono ?_
      rintro e w4 ⟨u1, rfl, hf1, hb⟩
      have HBk4 := Lib.hid ((HBk3.out.bl (Bl.refl _).drew).bl hb)
      have HB4 := Lib.hid ((HB3.out.drew).bl hb)
      have HBS := Lib.hid (HB3.out.drew.size)
      have HBL := Lib.hid ((Bl.refl w3).drew.bl hb)
      obtain ⟨A1, d1, z1, _⟩ := id hf1.1
      subst z1
      generalize hn1 : ((us ++ [n]).drop (us.length + 1 - 4)).length = n1 at *
      have HF1 := Lib.hid hf1
      clear hf1 hb hn1
      go_wp2_with fail
      refine ⟨trivial, ?_⟩
      repeat (first | (refine wpWay_take rfl (by rfl) (by intro w hSw; (try dsimp only at hSw); first | (go_simp; done) | (go_simp; with_reducible rfl)) ?_; try simp only [Act.put, List.setIfInBounds_toArray, List.set_cons_zero, List.set_cons_succ]) | (refine wpWay_skip rfl (by rfl) ?_; try simp only [Act.put, List.setIfInBounds_toArray, List.set_cons_zero, List.set_cons_succ]))
      refine wpWay_ev rfl (fun K hK => ?_) wpWay_stop
      have f1 := HBk4.out.frozen 1
      have g1 := HBk4.out.cell 1
      have l1 := HBk4.out.lt
      simp [histC] at g1
      go_wp2_with fail
      clear f1 g1 l1
      have HBk5 := Lib.hid (HBk4.out.set 1 (.slice A1 n1 d1))
      refine ⟨trivial, ?_⟩
      repeat (first | (refine wpWay_take rfl (by rfl) (by intro w hSw; (try dsimp only at hSw); first | (go_simp; done) | (go_simp; with_reducible rfl)) ?_; try simp only [Act.put, List.setIfInBounds_toArray, List.set_cons_zero, List.set_cons_succ]) | (refine wpWay_skip rfl (by rfl) ?_; try simp only [Act.put, List.setIfInBounds_toArray, List.set_cons_zero, List.set_cons_succ]))
      refine wpWay_ev rfl (fun K hK => ?_) wpWay_stop
      have f1 := HBk5.out.frozen 2
      have g1 := HBk5.out.cell 2
      have l1 := HBk5.out.lt
      simp [histC] at g1
      go_wp2_with fail
      clear f1 g1 l1
      have HBk6 := Lib.hid (HBk5.out.set 2 (.slice none 0 0))
      refine ⟨trivial, ?_⟩
      repeat (first | (refine wpWay_take rfl (by rfl) (by intro w hSw; (try dsimp only at hSw); first | (go_simp; done) | (go_simp; with_reducible rfl)) ?_; try simp only [Act.put, List.setIfInBounds_toArray, List.set_cons_zero, List.set_cons_succ]) | (refine wpWay_skip rfl (by rfl) ?_; try simp only [Act.put, List.setIfInBounds_toArray, List.set_cons_zero, List.set_cons_succ]))
      refine wpWay_ev rfl (fun K hK => ?_) wpWay_stop
      have f1 := HBk6.out.frozen 0
      have g1 := HBk6.out.cell 0
      have l1 := HBk6.out.lt
      simp [histC] at g1
      go_wp2_with fail
      clear f1 g1 l1
      have HBk7 := Lib.hid (HBk6.out.set 0 (.pointer (some ⟨bT, 0, none⟩)))
      refine ⟨trivial, ?_⟩
      repeat (first | (refine wpWay_take rfl (by rfl) (by intro w hSw; (try dsimp only at hSw); first | (go_simp; done) | (go_simp; with_reducible rfl)) ?_; try simp only [Act.put, List.setIfInBounds_toArray, List.set_cons_zero, List.set_cons_succ]) | (refine wpWay_skip rfl (by rfl) ?_; try simp only [Act.put, List.setIfInBounds_toArray, List.set_cons_zero, List.set_cons_succ]))
      refine wpWay_done ?_
      go_wp2_with fail
      go_ret
      refine ⟨by rw [HZ.out]; rfl, fun h => absurd HZ.out h, fun _ => ⟨bT, ?_, hist_raw (u' := ⟨A1, n1, d1⟩) (r' := nilH) HB4.out HBk7.out (grown_trans (grown_trans (set_grownB _ _ _ _) (set_grownB _ _ _ _)) (set_grownB _ _ _ _)) hB (HF1.out.low HBS.out) (FarIs.nil _ _)⟩⟩
      refine Sub.state ?_ HSTG.out
      refine Sub.trans ?_ (Sub.mono (gor_le HBD.out))
      refine Sub.trans (Sub.bl (HBL.out.only _)) ?_
      exact Sub.grown (grown_trans (grown_trans (set_grownB _ _ _ _) (set_grownB _ _ _ _)) (set_grownB _ _ _ _)) (fun k hk => by injection hk with hk; subst hk; unfold gor; rw [HG.out, decide_eq_false (by have := HBD.out; omega)]; rfl)
  · obtain rfl := hres.2 hz
    have HZ := Lib.hid hz
    have hzb : ((applyR s ⟨kk, t, f, o, l⟩).2 == 0) = false := by rw [beq_eq_false_iff_ne]; exact hz
    clear hres
    go_wp2_with fail
    refine ⟨HH.out, ?_⟩
    repeat (first | (refine wpWay_take rfl (by rfl) (by intro w hSw; (try dsimp only at hSw); first | (go_simp; done) | (go_simp; with_reducible rfl)) ?_; try simp only [Act.put, List.setIfInBounds_toArray, List.set_cons_zero, List.set_cons_succ]) | (refine wpWay_skip rfl (by rfl) ?_; try simp only [Act.put, List.setIfInBounds_toArray, List.set_cons_zero, List.set_cons_succ]))
    refine wpWay_done ?_
    go_wp2_with fail
    go_ret
    exact ⟨rfl, fun _ => HB3.out, fun h => absurd h HZ.out⟩

/-- a row that lies not in this block -/
def nbIs (B : Nat) (v : Value) : Prop := ∀ A n c, v = .slice A n c → ∀ ad, A = some ad → ad.block ≠ B
/-- a history in block B; all else of it lies in some blocks, of which B is none -/
def HistG (T : TypeId) (w : World) (G : Nat → Bool) (B : Nat) (m : HistM) : Prop := G B = false ∧ ∃ (n : Nat) (u r : Head) (us rs : List Nat), Blk w B (histC n u r) T ∧ StateIs (only w G) (.pointer (some ⟨n, 0, none⟩)) m.now ∧
  ptrE.Is (only w G) u.v us ∧ ptrE.Is (only w G) r.v rs ∧ SRows (only w G) us m.undo ∧ SRows (only w G) rs m.redo ∧ nbIs B u.v ∧ nbIs B r.v
theorem SRows.sub {a b : World} (h : Sub a b) {us : List Nat} {ss : List StM} (hr : SRows a us ss) : SRows b us ss := ⟨hr.1, fun i s b hx hy => h.state (hr.2 i s b hx hy)⟩
theorem HistG.sub {T : TypeId} {w w' : World} {G G' : Nat → Bool} {B : Nat} {m : HistM} (h : HistG T w G B m) (hS : Sub (only w G) (only w' G')) (hG : G' B = false) (hB : ∀ cs, Blk w B cs T → Blk w' B cs T) : HistG T w' G' B m := by
  obtain ⟨_, n, u, r, us, rs, h0, h1, h2, h3, h4, h5, h6⟩ := h
  exact ⟨hG, n, u, r, us, rs, hB _ h0, hS.state h1, hS.is h2, hS.is h3, SRows.sub hS h4, SRows.sub hS h5, h6⟩
theorem HistG.bl {T : TypeId} {w w' : World} {G : Nat → Bool} {B : Nat} {m : HistM} (h : HistG T w G B m) (hb : Bl w w') : HistG T w' G B m := h.sub (Sub.bl (hb.only G)) h.1 (fun _ q => q.bl hb)
theorem HistG.lt {T : TypeId} {w : World} {G : Nat → Bool} {B : Nat} {m : HistM} (h : HistG T w G B m) : B < w.heap.size := by
  obtain ⟨_, n, u, r, us, rs, h0, _⟩ := h
  exact h0.lt
theorem gor_no {G : Nat → Bool} {w : World} {B : Nat} (h : G B = false) (hB : B < w.heap.size) : gor G w B = false := by
  unfold gor; rw [h, decide_eq_false (by omega)]; rfl
theorem HistG.gor {T : TypeId} {w w2 w' : World} {G : Nat → Bool} {B : Nat} {m : HistM} (h : HistG T w G B m) (h2 : Bl w w2) (hb : Bl w2 w') : HistG T w' (gor G w2) B m :=
  h.sub ((Sub.bl ((h2.bl hb).only G)).trans (Sub.mono (gor_l G w2))) (gor_no h.1 (by have := h.lt; have := h2.size; omega)) (fun _ q => q.bl (h2.bl hb))
theorem HistG.cap {T : TypeId} {w : World} {G : Nat → Bool} {B : Nat} {m : HistM} (h : HistG T w G B m) : HistG T w (cap G w) B m := h.sub (Sub.cap w G) (by unfold Go.Ov.cap; rw [h.1]; rfl) (fun _ q => q)
theorem HistG.is {T : TypeId} {w : World} {G : Nat → Bool} {B : Nat} {m : HistM} (h : HistG T w G B m) : HistIs T w B m := by
  obtain ⟨_, n, u, r, us, rs, h0, h1, h2, h3, h4, h5, h6, h7⟩ := h
  have hS := Sub.un w G
  exact ⟨n, u, r, us, rs, h0, hS.state h1, ⟨hS.is h2, h6⟩, ⟨hS.is h3, h7⟩, SRows.sub hS h4, SRows.sub hS h5⟩
theorem HistIs.toG {T : TypeId} {w : World} {B : Nat} {m : HistM} (h : HistIs T w B m) : HistG T w (fun b => decide (b ≠ B)) B m := by
  obtain ⟨n, u, r, us, rs, h0, h1, h2, h3, h4, h5⟩ := h
  have hk : KeepO B w (only w (fun b => decide (b ≠ B))) := fun a v ha hc => cell_only (decide_eq_true ha) hc
  exact ⟨by simp, n, u, r, us, rs, h0, state_kh h0 hk h1, (h2.keepO hk).1, (h3.keepO hk).1, srows_kh h0 hk h4, srows_kh h0 hk h5, h2.2, h3.2⟩
theorem far_nb {base B : Nat} {w : World} {v : Value} {bs : List Nat} (h : FarIs base w v bs) (hB : B < base) : nbIs B v := fun A n c e ad q => by have := h.2 A n c e ad q; omega
theorem far_isM {w w' : World} {G : Nat → Bool} {v : Value} {bs : List Nat} (h : FarIs w.heap.size w' v bs) : ptrE.Is (only w' (gor G w)) v bs := by
  obtain ⟨⟨A, c, e, h1, h2, h3, hA⟩, hf⟩ := h
  refine ⟨A, c, e, h1, h2, h3, fun i x hx => ?_⟩
  obtain ⟨ad, e2, hc⟩ := hA i x hx
  have := hf _ _ _ e ad e2
  exact ⟨ad, e2, fun j u hu => cell_only (by rw [add_block]; unfold gor; rw [decide_eq_true this]; simp) (hc j u hu)⟩
theorem hist_of_raw {T : TypeId} {w w' : World} {G : Nat → Bool} {B n : Nat} {us rs : List Nat} {m : HistM} (h : HistRaw T w w' B n us rs) (hG : G B = false) (hB : B < w.heap.size) (hs : StateIs (only w' (gor G w)) (.pointer (some ⟨n, 0, none⟩)) m.now) (hsu : SRows (only w G) us m.undo) (hsr : SRows (only w G) rs m.redo) :
    HistG T w' (gor G w) B m := by
  obtain ⟨hg, u, r, h0, h1, h2⟩ := h
  have hS := (Sub.grown hg (G := G) (fun k hk => by injection hk with hk; subst hk; exact hG)).trans (Sub.mono (gor_l G w))
  exact ⟨gor_no hG hB, n, u, r, us, rs, h0, hs, far_isM h1, far_isM h2, SRows.sub hS hsu, SRows.sub hS hsr, far_nb h1 hB, far_nb h2 hB⟩

theorem happly_G (G : Nat → Bool) (B : Nat) (m : HistM) (rv : Value) (r : Rec) (w : World) (h : HistG 59 w G B m) (hr : RecIs w rv r) (hs : StOK m.now) (hn : m.undo.length ≤ 4) (hn' : m.redo.length ≤ 4) :
    Calls Tryz.prog 21 #[.pointer (some ⟨B, 0, none⟩), rv] w fun e w' => e = .returned (.int .i64 (applyH m r).2) ∧ HistG 59 w' (gor G w) B (applyH m r).1 ∧ w.grownBy w' (some B) ∧ ((applyH m r).2 ≠ 0 → (applyH m r).1 = m ∧ Bl w w') := by
  have hlt := h.lt
  unfold applyH
  by_cases hv : validRec r = false
  · rw [if_pos hv]
    exact (happly_bad B rv r w hr hv).mono fun e w' ⟨h1, h2⟩ => ⟨h1, h.gor (Bl.refl w) h2, grown_bl h2, fun _ => ⟨rfl, h2⟩⟩
  · rw [if_neg hv]
    have hv' : validRec r = true := by simpa using hv
    have hG := h.1
    have HH := h
    obtain ⟨_, n, u, q, us, rs, h0, h1, h2, h3, h4, h5, _⟩ := h
    have hS : ∀ {w' : World} {n' : Nat} {us' rs' : List Nat}, HistRaw 59 w w' B n' us' rs' → Sub (only w G) (only w' (gor G w)) := fun hR => (Sub.grown hR.1 (G := G) (fun k hk => by injection hk with hk; subst hk; exact hG)).trans (Sub.mono (gor_l G w))
    have hul := h4.1
    have hrl := h5.1
    by_cases k4 : r.kind = 4
    · rw [if_pos k4]
      by_cases hu : 0 < m.undo.length
      · rw [dif_pos hu]
        refine (happly_undoR B n u q us rs rv r w h0 ((Sub.un w G).is h2) ((Sub.un w G).is h3) hr k4 hv' (by omega) (by omega) (by omega)).mono fun e w' ⟨e1, e2⟩ => ⟨e1, ?_, e2.1, fun h => absurd rfl h⟩
        refine hist_of_raw e2 hG hlt ((hS e2).state (h4.2 _ _ _ (by rw [hul]; exact List.getElem?_eq_getElem _) (List.getElem?_eq_getElem _))) (h4.take' hul) ((h5.snoc h1).drop' hrl)
      · rw [dif_neg hu]; exact (happly_undo0G B n u q us rv r w h0 ((Sub.un w G).is h2) hr k4 hv' (by omega)).mono fun e w' ⟨e1, e2⟩ => ⟨e1, HH.gor (Bl.refl w) e2, grown_bl e2, fun _ => ⟨rfl, e2⟩⟩
    · rw [if_neg k4]
      by_cases k5 : r.kind = 5
      · rw [if_pos k5]
        by_cases hu : 0 < m.redo.length
        · rw [dif_pos hu]
          refine (happly_redoR B n u q us rs rv r w h0 ((Sub.un w G).is h2) ((Sub.un w G).is h3) hr k5 hv' (by omega) (by omega) (by omega)).mono fun e w' ⟨e1, e2⟩ => ⟨e1, ?_, e2.1, fun h => absurd rfl h⟩
          refine hist_of_raw e2 hG hlt ((hS e2).state (h5.2 _ _ _ (by rw [hrl]; exact List.getElem?_eq_getElem _) (List.getElem?_eq_getElem _))) ((h4.snoc h1).drop' hul) (h5.take' hrl)
        · rw [dif_neg hu]; exact (happly_redo0G B n u q rs rv r w h0 ((Sub.un w G).is h3) hr k5 hv' (by omega)).mono fun e w' ⟨e1, e2⟩ => ⟨e1, HH.gor (Bl.refl w) e2, grown_bl e2, fun _ => ⟨rfl, e2⟩⟩
      · rw [if_neg k5]
        refine (happly_changeG G B n u q us m.now rv r w hG h0 ((Sub.un w G).is h2) h1 hr (valid_kind hv' k4 k5) hv' hs (by omega)).mono fun e w' ⟨e1, e2, e3⟩ => ?_
        by_cases hz : (applyR m.now r).2 = 0
        · rw [if_pos hz]
          obtain ⟨bT, g1, g2⟩ := e3 hz
          exact ⟨by rw [e1, hz], hist_of_raw g2 hG hlt g1 ((h4.snoc h1).drop' hul) (SRows.nil _), g2.1, fun h => absurd rfl h⟩
        · rw [if_neg hz]; exact ⟨e1, HH.gor (Bl.refl w) (e2 hz), grown_bl (e2 hz), fun _ => ⟨rfl, e2 hz⟩⟩
end Go.Proofs.YtddcjekkimajpaaGreat.ExtW

/- overdublaw22.wakes. -/
namespace Go.Proofs.YtddcjekkimajpaaGreat.ExtW
open Go.RowKit Go.Ov Go.Proofs.YtddcjekkimajpaaGreat.Need

def noH : HistM := ⟨[], [], []⟩
theorem no_undo : applyH noH ⟨4, 0, 0, 0, []⟩ = (noH, 5) := rfl
theorem no_create (id : Int) (h0 : 0 ≤ id) (h1 : id ≤ 99) : applyH noH (recC id) = (stepH noH (oneS id), 0) := by
  have e := (apply_C [] id h0 h1).2.2 rfl (by decide)
  unfold applyH
  rw [if_neg (by rw [valid_recC id h0 h1]; decide), if_neg (by simp [recC]), if_neg (by simp [recC])]
  show (if (applyR [] (recC id)).2 = 0 then _ else _) = _
  rw [e, if_pos rfl, show applyR noH.now (recC id) = (putL [] id (treeM []), 0) from e]; rfl

set_option maxRecDepth 100000 in
set_option maxHeartbeats 800000 in
theorem wakes22_any (w : World) : Calls Tryz.prog 16 #[] w fun e w' => e = .returned (.bool true) ∧ Bl w w' := by
  have E2 := Lib.hid (no_create 1 (by decide) (by decide))
  go_enter Tryz.func16, Tryz.ntmps16
  go_wp2_with fail
  refine (hnew_any _).mono ?_
  rintro e w1 ⟨B, rfl, hBw, hh, hb⟩
  have HB := Lib.hid hb
  have HH := Lib.hid hh
  have HW := Lib.hid hBw
  clear hb hh hBw
  go_wp2_with fail
  refine (happly_any B noH _ ⟨4, 0, 0, 0, []⟩ _ HH.out (rec_is _ 4 0 0 0) SOK.nil.1 (by decide) (by decide)).mono ?_
  rintro e w2 ⟨rfl, hh, hg⟩
  rw [no_undo] at hh ⊢
  have HB2 := Lib.hid (HB.out.grown hg (fun k hk => by have := HW.out; simp at hk; omega))
  have HH2 := Lib.hid hh
  clear hh hg
  go_wp2_with fail
  refine (hnow_any B noH _ HH2.out).mono ?_
  rintro e w3 ⟨u, rfl, hs, rfl⟩
  obtain ⟨bs, _, _, rfl, _⟩ := hs
  go_wp2_with fail
  refine (happly_any B noH _ (recC 1) _ HH2.out (rec_is _ 1 1 0 0) SOK.nil.1 (by decide) (by decide)).mono ?_
  rintro e w4 ⟨rfl, hh, hg⟩
  rw [E2.out] at hh ⊢
  have HB4 := Lib.hid (HB2.out.grown hg (fun k hk => by have := HW.out; simp at hk; omega))
  have HH4 := Lib.hid hh
  clear hh hg
  go_wp2_with fail
  refine (hundo_any B _ _ HH4.out (by decide)).mono ?_
  rintro e w5 ⟨u, us, rfl, ho, hs, hb⟩
  have hl : us.length = 1 := hs.1
  obtain ⟨A, c, rfl⟩ := ho.slice
  rw [hl]
  clear hl ho hs
  go_wp2_with fail
  go_ret
  exact ⟨rfl, HB4.out.bl hb⟩
end Go.Proofs.YtddcjekkimajpaaGreat.ExtW

/- Contract of overdublaw22.play: records of both, a history and the document's. -/
namespace Go.Proofs.YtddcjekkimajpaaGreat.ExtW
open Go.RowKit Go.Ov Go.Proofs.YtddcjekkimajpaaGreat.Need

theorem HOK.no : HOK noH := ⟨SOT.nil, fun s h => (List.not_mem_nil h).elim, fun s h => (List.not_mem_nil h).elim, by decide, by decide⟩
theorem HOK.apply {m : HistM} (h : HOK m) (r : Rec) : HOK (applyH m r).1 := by
  have h0 := h
  obtain ⟨h1, h2, h3, h4, h5⟩ := h
  have mem_push : ∀ {l : List StM} {s : StM}, (∀ x ∈ l, SOT x) → SOT s → ∀ x ∈ (l ++ [s]).drop (l.length + 1 - 4), SOT x := fun hl hs x hx => by
    have := List.mem_of_mem_drop hx
    simp only [List.mem_append, List.mem_singleton] at this
    rcases this with q | rfl
    · exact hl x q
    · exact hs
  unfold applyH
  split
  · exact h0
  · split
    · split
      · rename_i hu
        exact ⟨h2 _ (List.getElem_mem _), fun s hs => h2 s (List.mem_of_mem_take hs), mem_push h3 h1, by simp [undoM]; omega, by simp [undoM]; omega⟩
      · exact h0
    · split
      · split
        · rename_i hu
          exact ⟨h3 _ (List.getElem_mem _), mem_push h2 h1, fun s hs => h3 s (List.mem_of_mem_take hs), by simp [redoM]; omega, by simp [redoM]; omega⟩
        · exact h0
      · split
        · rename_i hz
          exact ⟨h1.apply hz, mem_push h2 h1, fun s hs => (List.not_mem_nil hs).elim, by simp [stepH]; omega, by simp [stepH]⟩
        · exact h0

theorem ArgRecs.bl {w w' : World} {v : Value} {l : List Rec} (h : ArgRecs w v l) (hb : Bl w w') : ArgRecs w' v l := by
  obtain ⟨A, c, e, h1, h2, h3⟩ := h
  refine ⟨A, c, e, h1, h2, fun i r hi => ?_⟩
  obtain ⟨ad, u, e2, ⟨k0, k1, k2, k3, k4⟩, h5, h6⟩ := h3 i r hi
  exact ⟨ad, u, e2, ⟨hb.cell k0, hb.cell k1, hb.cell k2, hb.cell k3, hb.cell k4⟩, h5.bl hb, h6⟩
theorem ArgRecs.take {w : World} {A : Option Addr} {c : Nat} {l : List Rec} (h : ArgRecs w (.slice A l.length c) l) (n : Nat) (hn : n ≤ l.length) : ArgRecs w (.slice A n c) (l.take n) := by
  obtain ⟨A', c', e, h1, h2, h3⟩ := h
  simp at e
  obtain ⟨rfl, rfl⟩ := e
  refine ⟨A, c, by rw [List.length_take]; congr 1; omega, by rw [List.length_take]; omega, h2, fun i r hi => h3 i r ?_⟩
  rw [List.getElem?_take] at hi
  split at hi
  · exact hi
  · cases hi

/-- records stay when a history's block is written -/
theorem ArgRecs.kh {w w' : World} {B n : Nat} {u r : Head} {T : TypeId} (h : Blk w B (histC n u r) T) (hk : KeepO B w w') {v : Value} {l : List Rec} (hl : ArgRecs w v l) : ArgRecs w' v l := by
  obtain ⟨A, c, e, h1, h2, h3⟩ := hl
  refine ⟨A, c, e, h1, h2, fun i r hi => ?_⟩
  obtain ⟨ad, u, e2, ⟨k0, k1, k2, k3, k4⟩, h5, h6⟩ := h3 i r hi
  have hne := int_ne h k0
  exact ⟨ad, u, e2, ⟨hk _ _ hne k0, hk _ _ hne k1, hk _ _ hne k2, hk _ _ hne k3, hk _ _ hne k4⟩, isI_kh h hk (fun x => ⟨_, _, rfl⟩) h5, h6⟩
theorem kcutRec_any (v : Value) (l : List Rec) (n : Int) (w : World) (h : ArgRecs w v l) (hn : 0 ≤ n) (hn' : n ≤ 1000) :
    Calls Tryz.prog 17 #[v, .int .i64 n] w fun e w' => ∃ u, e = .returned u ∧ ArgRecs w u (l.take n.toNat) ∧ w = w' := by
  have HH := Lib.hid h
  obtain ⟨A, c, rfl, h1, h2, h3⟩ := h
  have hl : l.length ≤ 9223372036854775807 := by unfold maxLen at h2; omega
  clear h3
  have hk : (min (l.length : Int) n).toNat = min l.length n.toNat := by omega
  have e1 : (0 : Int) ≤ min (l.length : Int) n := by omega
  have e2 : min (l.length : Int) n ≤ c := by omega
  go_enter Tryz.func17, Tryz.ntmps17
  go_wp2_with fail
  go_ret
  refine ⟨_, rfl, ?_, rfl⟩
  show ArgRecs w (.slice A (min l.length n.toNat) c) _
  have := ArgRecs.take HH.out (min l.length n.toNat) (Nat.min_le_left _ _)
  rwa [← List.take_take, List.take_of_length_le (by rw [List.length_take]; omega)] at this

/-- where the play stands: the history in B, the document's in the cells of b5 -/
structure P22 (H0 G0 : Nat → Bool) (w wr : World) (G R : Nat → Bool) (B b5 b8 : Nat) (a b c : Value) (m : HistM) : Prop where
  hist : HistG 59 wr G B m
  rh : RHIs (only wr R) (.agg #[a, b, c]) m
  k5 : Blk wr b5 #[a, b, c] 30
  k8 : Blk wr b8 #[.slice none 0 0, .slice none 0 0, .slice none 0 0] 30
  g5 : G b5 = false
  r5 : R b5 = false
  g8 : G b8 = false
  r8 : R b8 = false
  rB : R B = false
  inc : ∀ k, R k = true → gor G0 w k = true
  incH : ∀ k, G k = true → gor H0 w k = true
  ok : HOK m
  gr : w.grownBy wr (some B)
  hB : B < w.heap.size
  h5 : w.heap.size ≤ b5
  h8 : b5 < b8
section
variable {H0 G0 : Nat → Bool} {w wr : World} {G R : Nat → Bool} {B b5 b8 : Nat} {a b c : Value} {m : HistM}
theorem P22.bl (h : P22 H0 G0 w wr G R B b5 b8 a b c m) {w' : World} (hb : Bl wr w') : P22 H0 G0 w w' G R B b5 b8 a b c m :=
  ⟨h.hist.bl hb, RHIs.sub (Sub.bl (hb.only R)) h.rh, h.k5.bl hb, h.k8.bl hb, h.g5, h.r5, h.g8, h.r8, h.rB, h.inc, h.incH, h.ok, grown_trans h.gr (grown_bl hb), h.hB, h.h5, h.h8⟩
theorem P22.lt8 (h : P22 H0 G0 w wr G R B b5 b8 a b c m) : b8 < wr.heap.size := h.k8.lt
end
theorem grown_set {w w' : World} {row : Option Nat} (h : w.grownBy w' row) (b j : Nat) (u : Value) (hb : w.heap.size ≤ b) : w.grownBy (w'.setCell ⟨b, j, none⟩ u) row :=
  ⟨h.os, h.tape, h.output, by simp only [World.setCell, Array.size_modify]; exact h.size, fun k hk hr => by rw [setCell_else _ _ _ _ _ (by intro e; subst e; omega)]; exact h.block k hk hr⟩
theorem blk_grown {w w' : World} {b : Nat} {cs : Array Value} {T : TypeId} {B : Nat} (h : Blk w b cs T) (hg : w.grownBy w' (some B)) (hne : b ≠ B) : Blk w' b cs T := by
  have hlt := h.lt
  unfold Blk at *
  rw [hg.block b hlt (fun e => hne (by injection e))]; exact h

set_option maxRecDepth 100000 in
set_option maxHeartbeats 1500000 in
theorem play22_G (H0 G0 : Nat → Bool) (B : Nat) (v v2 v3 : Value) (m : HistM) (l : List Rec) (ns : List Int) (w : World) (h : HistG 59 w H0 B m) (h' : RHIs (only w G0) v m) (hG : G0 B = false) (hm : HOK m) (hl : ArgRecs w v2 l) (hns : ArgInts w v3 ns) :
    Calls Tryz.prog 8 #[.pointer (some ⟨B, 0, none⟩), v, v2, v3] w fun e w' => ∃ u m', e = .returned (.tuple #[u, .bool true]) ∧ HistG 59 w' (gor H0 w) B m' ∧ RHIs (only w' (gor G0 w)) u m' ∧ HOK m' ∧ w.grownBy w' (some B) := by
  obtain ⟨A, cl, rfl, q0, q1, hrec⟩ := hl
  obtain ⟨⟨A', c', rfl, _, q1', _, hA'⟩, _, hns⟩ := hns
  have HREC := Lib.hid (show ArgRecs w (.slice A l.length cl) l from ⟨A, cl, rfl, q0, q1, hrec⟩)
  have HA' := Lib.hid hA'
  have HNS := Lib.hid hns
  unfold maxLen at q1 q1'
  have hl : l.length ≤ 9223372036854775807 := by omega
  have hl' : ns.length ≤ 9223372036854775807 := by omega
  have hur := Tryz.underlying46
  have huh := Tryz.underlying30
  have HBK := Lib.hid (show ∃ (n : Nat) (u r : Head), Blk w B (histC n u r) 59 from by obtain ⟨_, n, u, r, _, _, h0, _⟩ := h; exact ⟨n, u, r, h0⟩)
  have HH0 := Lib.hid h
  have hB := h.lt
  have HRH := Lib.hid h'
  have HG0 := Lib.hid hG
  have HG1 := Lib.hid h.1
  have HOK0 := Lib.hid hm
  obtain ⟨a, b, c, rfl, h1, h2, h3⟩ := h'
  obtain ⟨Aa, na, cca, rfl⟩ : ∃ A' n' c', a = .slice A' n' c' := by obtain ⟨A', c', e'⟩ := h1.slice; exact ⟨A', _, c', e'⟩
  obtain ⟨Ab, nb, ccb, rfl⟩ : ∃ A' n' c', b = .slice A' n' c' := by obtain ⟨A', c', e'⟩ := h2.slice; exact ⟨A', _, c', e'⟩
  obtain ⟨Ac, nc, ccc, rfl⟩ : ∃ A' n' c', c = .slice A' n' c' := by obtain ⟨A', c', e'⟩ := h3.slice; exact ⟨A', _, c', e'⟩
  have hbb := ((Bl.refl w).alloc (.cells #[.slice Aa na cca, .slice Ab nb ccb, .slice Ac nc ccc] 30)).alloc (.cells #[.slice none 0 0, .slice none 0 0, .slice none 0 0] 30)
  have hP0 : P22 H0 G0 w ((w.alloc (.cells #[.slice Aa na cca, .slice Ab nb ccb, .slice Ac nc ccc] 30)).alloc (.cells #[.slice none 0 0, .slice none 0 0, .slice none 0 0] 30)) (cap H0 w) (cap G0 w) B w.heap.size (w.heap.size + 1) (.slice Aa na cca) (.slice Ab nb ccb) (.slice Ac nc ccc) m := by
    have k8 := Blk.new (w.alloc (.cells #[.slice Aa na cca, .slice Ab nb ccb, .slice Ac nc ccc] 30)) #[.slice none 0 0, .slice none 0 0, .slice none 0 0] 30
    rw [alloc_size] at k8
    exact ⟨h.cap.bl hbb, RHIs.sub ((Sub.cap w G0).trans (Sub.bl (hbb.only _))) HRH.out, (Blk.new w _ _).bl ((Bl.refl _).alloc _), k8, cap_no (.inr (Nat.le_refl _)), cap_no (.inr (Nat.le_refl _)), cap_no (.inr (by omega)), cap_no (.inr (by omega)), cap_no (.inl hG),
      fun k hk => gor_l G0 w k (by unfold Go.Ov.cap at hk; simp at hk; exact hk.1), fun k hk => gor_l H0 w k (by unfold Go.Ov.cap at hk; simp at hk; exact hk.1), hm, grown_bl hbb, hB, Nat.le_refl _, by omega⟩
  have HP := Lib.hid hP0
  clear hrec hA' hns q0 q1 q1' h h1 h2 h3 hG hm hP0 hbb
  go_enter Tryz.func8, Tryz.ntmps8
  go_wp2_with fail
  go_loopg [10] l.length (fun g i wr => ∃ (k : Nat) (G R : Nat → Bool) (m : HistM) (a b c : Value), k ≤ l.length ∧ k ≤ 16 ∧ g = l.length - k ∧ i = .int .i64 k ∧ Hid (P22 H0 G0 w wr G R B w.heap.size (w.heap.size + 1) a b c m))
  case atStart => exact ⟨0, _, _, _, _, _, _, by omega, by omega, rfl, rfl, HP⟩
  case round =>
    clear HP
    obtain ⟨k, G, R, m, a, b, c, hk, hk16, rfl, rfl, HP⟩ := hrel
    obtain ⟨Aa, na, cca, rfl⟩ : ∃ A' n' c', a = .slice A' n' c' := by obtain ⟨a, b, c, e, h1, h2, h3⟩ := HP.out.rh; obtain ⟨A', c', e'⟩ := h1.slice; simp at e; exact ⟨A', _, c', by rw [e.1]; exact e'⟩
    obtain ⟨Ab, nb, ccb, rfl⟩ : ∃ A' n' c', b = .slice A' n' c' := by obtain ⟨a, b, c, e, h1, h2, h3⟩ := HP.out.rh; obtain ⟨A', c', e'⟩ := h2.slice; simp at e; exact ⟨A', _, c', by rw [e.2.1]; exact e'⟩
    obtain ⟨Ac, nc, ccc, rfl⟩ : ∃ A' n' c', c = .slice A' n' c' := by obtain ⟨a, b, c, e, h1, h2, h3⟩ := HP.out.rh; obtain ⟨A', c', e'⟩ := h3.slice; simp at e; exact ⟨A', _, c', by rw [e.2.2]; exact e'⟩
    by_cases hlt : k < l.length ∧ k < 16
    · obtain ⟨hlt, hlt16⟩ := hlt
      have hkl : (k : Int) < l.length := by omega
      go_upto_if 29 with (fail)
      go_cut [11] (fun v11 wc => ∃ n : Int, v11 = .int .i64 n ∧ -9223372036854775808 ≤ n ∧ n ≤ 9223372036854775807 ∧ wc = wr)
      case first =>
        by_cases hkn : k < ns.length
        · obtain ⟨ad, rfl, d0⟩ : ∃ ad, A' = some ad ∧ wr.cell? (ad.add k) = some (.int .i64 ns[k]) := by
            obtain ⟨_, _, _, hbk⟩ := HBK.out
            exact int_at (atI_kh hbk (KeepO.grown HP.out.gr) (fun x => ⟨_, _, rfl⟩) HA'.out) k hkn
          have hb := HNS.out ns[k] (List.getElem_mem hkn)
          generalize ns[k] = x at *
          go_wp2_with fail
          go_meet
          exact ⟨_, rfl, hb.1, hb.2, rfl⟩
        · go_wp2_with fail
          go_meet
          exact ⟨_, rfl, by omega, by omega, rfl⟩
      case rest =>
      obtain ⟨n, rfl, hn1, hn2, hwc⟩ := hcut
      subst hwc
      obtain ⟨ad, u, rfl, ⟨c0, c1, c2, c3, c4⟩, hx, _⟩ : ∃ ad u, A = some ad ∧ (wc.cell? (ad.add (k * 5)) = some (.int .i64 l[k].kind) ∧ wc.cell? ⟨(ad.add (k * 5)).block, (ad.add (k * 5)).off + 1, none⟩ = some (.int .i64 l[k].track) ∧
          wc.cell? ⟨(ad.add (k * 5)).block, (ad.add (k * 5)).off + 2, none⟩ = some (.int .i64 l[k].fr) ∧ wc.cell? ⟨(ad.add (k * 5)).block, (ad.add (k * 5)).off + 3, none⟩ = some (.int .i64 l[k].tt) ∧
          wc.cell? ⟨(ad.add (k * 5)).block, (ad.add (k * 5)).off + 4, none⟩ = some (Head.v u)) ∧ extE.Is wc u.v l[k].l ∧ True := by
        obtain ⟨_, _, _, hbk⟩ := HBK.out
        obtain ⟨A2, c2, e2, _, _, h3⟩ := ArgRecs.kh hbk (KeepO.grown HP.out.gr) HREC.out
        simp at e2
        obtain ⟨rfl, rfl⟩ := e2
        obtain ⟨ad, u, e, h1, h2, _⟩ := h3 k l[k] (List.getElem?_eq_getElem hlt)
        exact ⟨ad, u, e, h1, h2, trivial⟩
      have HRI := Lib.hid (show RecIs _ (.agg #[.int .i64 l[k].kind, .int .i64 l[k].track, .int .i64 l[k].fr, .int .i64 l[k].tt, u.v]) l[k] from ⟨u.v, rfl, hx⟩)
      generalize l[k] = rr at *
      simp only [Head.v] at c4 HRI
      clear hx
      go_wp2_with fail
      refine (small21_any _ rr n _ HRI.out ⟨hn1, hn2⟩).mono ?_
      rintro e w2 ⟨xv, r, rfl, hr, hb⟩
      have HP2 := Lib.hid (HP.out.bl hb)
      obtain ⟨xu, rfl, hxu⟩ := id hr
      obtain ⟨xA, xc, rfl, xq1, xq2, xq3, _⟩ := id hxu
      have HR := Lib.hid hr
      clear hr hxu hb c0 c1 c2 c3 c4 HP HRI xq1 xq2 xq3
      obtain ⟨rk, rt, rf, ro, rl⟩ := r
      dsimp only
      go_upto_if 42 with (fail)
      go_cut [] (fun wc => ∃ (k t f o : Int) (A : Option Addr) (n c : Nat) (r : Rec), Hid (Blk wc w2.heap.size #[.int .i64 k, .int .i64 t, .int .i64 f, .int .i64 o, .slice A n c] 46) ∧ Hid (RecIs wc (.agg #[.int .i64 k, .int .i64 t, .int .i64 f, .int .i64 o, .slice A n c]) r) ∧ Hid (Bl w2 wc))
      case first =>
        by_cases h4 : Int.tmod n 4 = 3
        · have h41 : (Int.tmod n 4 == 3) = true := by rw [h4]; rfl
          clear h4
          have hb2 := within_bd (Int.tdiv n 4) 2 (by omega)
          have hw : ∀ x : Int, 0 ≤ x → x < 2 → IntKind.i64.wrap (4 + x) = 4 + x := fun x h1 h2 => IntWalk.i64_in _ (by omega)
          have HWx := Lib.hid (hw _ hb2.1 hb2.2)
          clear hw hb2
          go_wp2_with fail
          refine (within_any _ _ _ (by decide)).mono ?_
          rintro e w3 ⟨rfl, rfl⟩
          have hwx := HWx.out
          generalize within (Int.tdiv n 4) 2 = y at *
          go_wp2_with fail
          go_meet
          exact ⟨_, _, _, _, _, _, _, ⟨4 + y, 0, 0, 0, []⟩, Lib.hid (Blk.new _ _ _), Lib.hid (rec_is _ (4 + y) 0 0 0), Lib.hid ((Bl.refl _).alloc _)⟩
        · have h41 : (Int.tmod n 4 == 3) = false := by rw [beq_eq_false_iff_ne]; exact h4
          clear h4
          go_wp2_with fail
          go_meet
          exact ⟨_, _, _, _, _, _, _, ⟨rk, rt, rf, ro, rl⟩, Lib.hid (Blk.new _ _ _), Lib.hid (HR.out.bl ((Bl.refl _).alloc _)), Lib.hid ((Bl.refl _).alloc _)⟩
      case rest =>
      obtain ⟨xk, xt, xf, xo, yA, yn, yc, x, HK, HX, HBc⟩ := hcut
      have HP3 := Lib.hid (HP2.out.bl HBc.out)
      clear HP2 HBc HR
      have q0 := HP3.out.k5.cell 0
      have q1 := HP3.out.k5.cell 1
      have q2 := HP3.out.k5.cell 2
      have d0 := HK.out.cell 0
      have d1 := HK.out.cell 1
      have d2 := HK.out.cell 2
      have d3 := HK.out.cell 3
      have d4 := HK.out.cell 4
      simp at q0 q1 q2 d0 d1 d2 d3 d4
      go_wp2_with fail
      refine (hap20_any R m _ _ x _ HP3.out.rh HX.out HP3.out.ok).mono ?_
      rintro e w4 ⟨u4, rfl, hrh, hb⟩
      obtain ⟨a1, b1, c1, rfl, h1, h2, h3⟩ := id hrh
      obtain ⟨A1, n1, t1, rfl⟩ : ∃ A' n' c', a1 = .slice A' n' c' := by obtain ⟨A', c', e'⟩ := h1.slice; exact ⟨A', _, c', e'⟩
      obtain ⟨A2, n2, t2, rfl⟩ : ∃ A' n' c', b1 = .slice A' n' c' := by obtain ⟨A', c', e'⟩ := h2.slice; exact ⟨A', _, c', e'⟩
      obtain ⟨A3, n3, t3, rfl⟩ : ∃ A' n' c', c1 = .slice A' n' c' := by obtain ⟨A', c', e'⟩ := h3.slice; exact ⟨A', _, c', e'⟩
      have HOKn := Lib.hid (HP3.out.ok.apply x)
      obtain ⟨p, hp⟩ : ∃ p, p = applyH m x := ⟨_, rfl⟩
      rw [← hp] at hrh HOKn
      rw [← hp]
      have HPe := Lib.hid hp
      obtain ⟨m', ec⟩ := p
      dsimp only at hrh HOKn ⊢
      have hsz3 := hb.size
      have h8 := HP3.out.lt8
      have h5 : w.heap.size < wc.heap.size := by omega
      have hBs := HP3.out.hB
      have HRH := Lib.hid (RHIs.sub (Sub.cap w4 _) hrh)
      have HP4 := Lib.hid (HP3.out.bl hb)
      have HK4 := Lib.hid (HK.out.bl hb)
      have HX4 := Lib.hid (HX.out.bl hb)
      have hR5 : cap (gor R wc) w4 w.heap.size = false := cap_no (.inl (gor_no HP3.out.r5 h5))
      have hR8 : cap (gor R wc) w4 (w.heap.size + 1) = false := cap_no (.inl (gor_no HP3.out.r8 h8))
      have hRB : cap (gor R wc) w4 B = false := cap_no (.inl (gor_no HP3.out.rB (by omega)))
      have hR13 : ∀ z, w4.heap.size ≤ z → cap (gor R wc) w4 z = false := fun z hz => cap_no (.inr hz)
      have hinc : ∀ k, cap (gor R wc) w4 k = true → gor G0 w k = true := fun k hk => by
        unfold Go.Ov.cap at hk
        rw [Bool.and_eq_true] at hk
        have h1 := hk.1
        unfold gor at h1
        rw [Bool.or_eq_true, decide_eq_true_eq] at h1
        rcases h1 with h1 | h1
        · exact HP3.out.inc k h1
        · unfold gor; rw [Bool.or_eq_true, decide_eq_true_eq]; right; omega
      have HRR := Lib.hid (And.intro hR5 (And.intro hR8 (And.intro hRB (And.intro hR13 hinc))))
      obtain ⟨R', hR'⟩ : ∃ R', R' = cap (gor R wc) w4 := ⟨_, rfl⟩
      rw [← hR'] at HRH HRR
      clear hrh h1 h2 h3 hb hp hR5 hR8 hRB hR13 hinc hR' q0 q1 q2 d0 d1 d2 d3 d4 HP3 HK HX
      have d0 := HK4.out.cell 0
      have d1 := HK4.out.cell 1
      have d2 := HK4.out.cell 2
      have d3 := HK4.out.cell 3
      have d4 := HK4.out.cell 4
      simp at d0 d1 d2 d3 d4
      have hlt4 := HK4.out.lt
      have hlt5 : w.heap.size < w4.heap.size := by omega
      go_wp2_with fail
      have hal := (Bl.refl w4).alloc (.cells #[.slice A1 n1 t1, .slice A2 n2 t2, .slice A3 n3 t3] 30)
      have HPA := Lib.hid (HP4.out.bl hal)
      have hszA := hal.size
      refine (happly_G G B m _ x _ HPA.out.hist (HX4.out.bl hal) HPA.out.ok.1.1.1 HPA.out.ok.2.2.2.1 HPA.out.ok.2.2.2.2).mono ?_
      rintro e w6 ⟨rfl, hh, hg, _⟩
      rw [← HPe.out] at hh
      rw [← HPe.out]
      dsimp only at hh ⊢
      have hne5 : w.heap.size ≠ B := by omega
      have hne8 : w.heap.size + 1 ≠ B := by omega
      have hne13 : w4.heap.size ≠ B := by omega
      have k5 := blk_grown HPA.out.k5 hg hne5
      have k13 := blk_grown (Blk.new w4 #[.slice A1 n1 t1, .slice A2 n2 t2, .slice A3 n3 t3] 30) hg hne13
      have HK5 := Lib.hid k5
      have HK8 := Lib.hid (blk_grown HPA.out.k8 hg hne8)
      have HH6 := Lib.hid hh
      have HRH6 := Lib.hid (RHIs.sub ((Sub.bl (hal.only R')).trans (Sub.grown hg (fun k hk => by injection hk with hk; subst hk; exact HRR.out.2.2.1))) HRH.out)
      have HGR := Lib.hid (grown_trans HPA.out.gr hg)
      have HOKn' := HOKn
      have q0 := k13.cell 0
      have q1 := k13.cell 1
      have q2 := k13.cell 2
      have z0 := k5.cell 0
      have z1 := k5.cell 1
      have z2 := k5.cell 2
      have f0 := k5.frozen 0
      have f1 := k5.frozen 1
      have f2 := k5.frozen 2
      simp at q0 q1 q2 z0 z1 z2
      have hgA := gor_no HPA.out.g5 (w := w4.alloc (.cells #[.slice A1 n1 t1, .slice A2 n2 t2, .slice A3 n3 t3] 30)) (by omega)
      have hgA8 := gor_no HPA.out.g8 (w := w4.alloc (.cells #[.slice A1 n1 t1, .slice A2 n2 t2, .slice A3 n3 t3] 30)) (by omega)
      have HgA := Lib.hid (And.intro hgA hgA8)
      have HIN := Lib.hid (show ∀ k, gor G (w4.alloc (.cells #[.slice A1 n1 t1, .slice A2 n2 t2, .slice A3 n3 t3] 30)) k = true → gor H0 w k = true from fun k hk => by
        unfold gor at hk
        rw [Bool.or_eq_true, decide_eq_true_eq] at hk
        rcases hk with hk | hk
        · exact HPA.out.incH k hk
        · unfold gor; rw [Bool.or_eq_true, decide_eq_true_eq]; right; omega)
      clear hh hg k5 k13 d0 d1 d2 d3 d4 hgA hgA8
      go_wp2_with fail
      have HP7 := Lib.hid (show P22 H0 G0 w (((w6.setCell ⟨w.heap.size, 0, none⟩ (.slice A1 n1 t1)).setCell ⟨w.heap.size, 1, none⟩ (.slice A2 n2 t2)).setCell ⟨w.heap.size, 2, none⟩ (.slice A3 n3 t3)) (gor G (w4.alloc (.cells #[.slice A1 n1 t1, .slice A2 n2 t2, .slice A3 n3 t3] 30))) R' B w.heap.size (w.heap.size + 1) (.slice A1 n1 t1) (.slice A2 n2 t2) (.slice A3 n3 t3) m' from
        ⟨HH6.out.sub (sub_set3 _ _ _ HgA.out.1) HH6.out.1 (fun cs hc => ((hc.set_else _ _ _ hne5).set_else _ _ _ hne5).set_else _ _ _ hne5),
         RHIs.sub (sub_set3 _ _ _ HRR.out.1) HRH6.out, by simpa using ((HK5.out.set 0 (.slice A1 n1 t1)).set 1 (.slice A2 n2 t2)).set 2 (.slice A3 n3 t3),
         ((HK8.out.set_else _ _ _ (by omega)).set_else _ _ _ (by omega)).set_else _ _ _ (by omega), HgA.out.1, HRR.out.1, HgA.out.2, HRR.out.2.1, HRR.out.2.2.1, HRR.out.2.2.2.2, HIN.out, HOKn.out,
         grown_set (grown_set (grown_set HGR.out _ _ _ (Nat.le_refl _)) _ _ _ (Nat.le_refl _)) _ _ _ (Nat.le_refl _), by omega, Nat.le_refl _, by omega⟩)
      clear q0 q1 q2 z0 z1 z2 f0 f1 f2
      refine (same22_any B _ m' _ HP7.out.hist.is (RHIs.sub (Sub.un _ _) HP7.out.rh) HP7.out.ok).mono ?_
      rintro e w8 ⟨rfl, hb⟩
      have HP8 := Lib.hid (HP7.out.bl hb)
      clear hb
      go_wp2_with fail
      go_roundg (l.length - (k + 1))
      case measure => omega
      case rel => exact ⟨k + 1, _, _, m', _, _, _, by omega, by omega, rfl, by go_num, HP8⟩
    · have q0 := HP.out.k5.cell 0
      have q1 := HP.out.k5.cell 1
      have q2 := HP.out.k5.cell 2
      have s0 := HP.out.k8.cell 0
      have s1 := HP.out.k8.cell 1
      have s2 := HP.out.k8.cell 2
      have f0 := HP.out.k8.frozen 0
      have f1 := HP.out.k8.frozen 1
      have f2 := HP.out.k8.frozen 2
      simp at q0 q1 q2 s0 s1 s2
      rcases (show (k < l.length ∧ ¬ k < 16) ∨ ¬ k < l.length from by by_cases q : k < l.length; exact .inl ⟨q, fun p => hlt ⟨q, p⟩⟩; exact .inr q) with ⟨hkl2, hk7⟩ | hkl2
      all_goals
        clear hlt
        go_wp2_with fail
        have hs3 := ((HP.out.k8.set 0 (.slice Aa na cca)).set 1 (.slice Ab nb ccb)).set 2 (.slice Ac nc ccc)
        have e0 := hs3.cell 0
        have e1 := hs3.cell 1
        have e2 := hs3.cell 2
        simp at e0 e1 e2
        have hne8 : w.heap.size + 1 ≠ B := by omega
        have hHi : HistG 59 (((wr.setCell ⟨w.heap.size + 1, 0, none⟩ (.slice Aa na cca)).setCell ⟨w.heap.size + 1, 1, none⟩ (.slice Ab nb ccb)).setCell ⟨w.heap.size + 1, 2, none⟩ (.slice Ac nc ccc)) G B m := HP.out.hist.sub (sub_set3 _ _ _ HP.out.g8) HP.out.hist.1 (fun cs hc => ((hc.set_else _ _ _ hne8).set_else _ _ _ hne8).set_else _ _ _ hne8)
        have hRh := RHIs.sub ((sub_set3 (.slice Aa na cca) (.slice Ab nb ccb) (.slice Ac nc ccc) HP.out.r8).trans (Sub.mono HP.out.inc)) HP.out.rh
        refine bodyPost_ret (v := .tuple #[.agg #[.slice Aa na cca, .slice Ab nb ccb, .slice Ac nc ccc], .bool true]) (by simp [results, Tryz.results8, go_sem, e0, e1, e2]) rfl ⟨_, m, rfl, hHi.sub (Sub.mono HP.out.incH) (by unfold gor; rw [HG1.out, decide_eq_false (by omega)]; rfl) (fun _ q => q), hRh, HP.out.ok, ?_⟩
        exact grown_set (grown_set (grown_set HP.out.gr _ _ _ (by omega)) _ _ _ (by omega)) _ _ _ (by omega)

theorem play22_any (G0 : Nat → Bool) (B : Nat) (v v2 v3 : Value) (m : HistM) (l : List Rec) (ns : List Int) (w : World) (h : HistIs 59 w B m) (h' : RHIs (only w G0) v m) (hG : G0 B = false) (hm : HOK m) (hl : ArgRecs w v2 l) (hns : ArgInts w v3 ns) :
    Calls Tryz.prog 8 #[.pointer (some ⟨B, 0, none⟩), v, v2, v3] w fun e w' => ∃ u m', e = .returned (.tuple #[u, .bool true]) ∧ HistIs 59 w' B m' ∧ RHIs (only w' (gor G0 w)) u m' ∧ HOK m' ∧ w.grownBy w' (some B) :=
  (play22_G _ G0 B v v2 v3 m l ns w (HistIs.toG h) h' hG hm hl hns).mono fun _ _ ⟨u, m', e1, e2, e3⟩ => ⟨u, m', e1, e2.is, e3⟩
end Go.Proofs.YtddcjekkimajpaaGreat.ExtW
