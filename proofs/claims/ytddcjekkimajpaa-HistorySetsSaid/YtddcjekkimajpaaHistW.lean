/- Contracts of package history: push, Now, Undo, Redo, New. -/
import Derived.Test.YtddcjekkimajpaaHistP
import Derived.Test.YtddcjekkimajpaaStateErrors
namespace Go.Ov
open Go.RowKit
/-- a row of pointers that lies behind a block -/
def FarIs (base : Nat) (w : World) (v : Value) (bs : List Nat) : Prop := ptrE.Is w v bs ∧ ∀ A n c, v = .slice A n c → ∀ ad, A = some ad → base ≤ ad.block
theorem FarIs.bl {base : Nat} {w w' : World} {v : Value} {bs : List Nat} (h : FarIs base w v bs) (hb : Bl w w') : FarIs base w' v bs := ⟨h.1.bl hb, h.2⟩
theorem FarIs.low {base base' : Nat} {w : World} {v : Value} {bs : List Nat} (h : FarIs base w v bs) (hb : base' ≤ base) : FarIs base' w v bs := ⟨h.1, fun A n c e ad q => Nat.le_trans hb (h.2 A n c e ad q)⟩
theorem FarIs.nil (base : Nat) (w : World) : FarIs base w (.slice none 0 0) [] := ⟨Enc.Is.nil _, fun A n c e ad q => by simp at e; rw [← e.1] at q; cases q⟩
theorem FarIs.own {E : TypeId} {base : Nat} {w : World} {v : Value} {bs : List Nat} (h : ptrE.Own E w base v bs) : FarIs base w v bs := by
  refine ⟨h.is, fun A n c e ad q => ?_⟩
  subst e; subst q
  rcases h.parts with ⟨e, _⟩ | ⟨g, c', e, _⟩
  · cases e
  · simp at e
    obtain ⟨rfl, _⟩ := e
    exact (h.lt g rfl).1
theorem FarIs.sub {base : Nat} {w : World} {A : Option Addr} {c : Nat} {bs : List Nat} (h : FarIs base w (.slice A bs.length c) bs) (lo hi : Nat) (h1 : lo ≤ hi) (h2 : hi ≤ bs.length) : FarIs base w (sliced A lo hi c 1) ((bs.take hi).drop lo) := by
  refine ⟨h.1.sub lo hi h1 h2, fun A' n' c' e ad q => ?_⟩
  unfold sliced at e
  cases A with
  | none =>
    obtain ⟨_, _, _, _, _, h3, _⟩ := id h.1
    split at e
    · simp at e; rw [← e.1] at q; cases q
    · simp at e; rw [← e.1] at q; cases q
  | some a =>
    have ha := h.2 _ _ _ rfl a rfl
    split at e
    · simp at e; rw [← e.1] at q; cases q; exact ha
    · simp at e; rw [← e.1] at q; cases q; rw [add_block]; exact ha
/-- a history in block B; its rows lie behind it -/
def HistIs (T : TypeId) (w : World) (B : Nat) (m : HistM) : Prop := ∃ (n : Nat) (u r : Head) (us rs : List Nat), Blk w B (histC n u r) T ∧ StateIs w (.pointer (some ⟨n, 0, none⟩)) m.now ∧
  FarIs (B + 1) w u.v us ∧ FarIs (B + 1) w r.v rs ∧ SRows w us m.undo ∧ SRows w rs m.redo
theorem HistIs.bl {T : TypeId} {w w' : World} {B : Nat} {m : HistM} (h : HistIs T w B m) (hb : Bl w w') : HistIs T w' B m := by
  obtain ⟨n, u, r, us, rs, h0, h1, h2, h3, h4, h5⟩ := h
  exact ⟨n, u, r, us, rs, h0.bl hb, h1.bl hb, h2.bl hb, h3.bl hb, h4.bl hb, h5.bl hb⟩
theorem FarIs.keepO {B : Nat} {w w' : World} {v : Value} {bs : List Nat} (h : FarIs (B + 1) w v bs) (hk : KeepO B w w') : FarIs (B + 1) w' v bs := by
  obtain ⟨⟨A, c, e, h1, h2, h3, hA⟩, hf⟩ := h
  refine ⟨⟨A, c, e, h1, h2, h3, fun i x hx => ?_⟩, hf⟩
  obtain ⟨ad, e2, hc⟩ := hA i x hx
  have := hf _ _ _ e ad e2
  exact ⟨ad, e2, fun j u hu => hk _ _ (by rw [add_block]; omega) (hc j u hu)⟩
end Go.Ov
namespace Go.Proofs.Ytddcjekkimajpaa.ExtW
open Go.RowKit Go.Ov Go.Proofs.Ytddcjekkimajpaa.Need

theorem infoPtr : (Try.prog.info? 23).map (fun i => (i.zero, i.size, i.bytes)) = some (some (.pointer none), 1, 8) := by kernel_rfl

set_option maxHeartbeats 1000000 in
theorem hclone_any (v : Value) (hs : List Nat) (w : World) (h : ptrE.Is w v hs) (hn : hs.length ≤ 1000000) :
    Calls Try.prog 50 #[v] w fun e w' => ∃ u, e = .returned u ∧ ptrE.Own 23 w' w.heap.size u hs ∧ Bl w w' := by
  have HH := Lib.hid h
  obtain ⟨A, c, rfl, h1, h2, h3, h4⟩ := h
  have hE := fun w => Lib.run_eql_slice_nil (P := Try.prog) w 56 23 A hs.length c 0 0 Try.underlying56
  cases A with
  | none =>
    have hc : c = 0 := h3 rfl
    have hl : hs = [] := List.eq_nil_of_length_eq_zero (by omega)
    subst hc; subst hl
    clear h4 h3 h2 h1 hE
    have hE := fun w => Lib.run_eql_slice_nil (P := Try.prog) w 56 23 none 0 0 0 0 Try.underlying56
    go_enter Try.func50, Try.ntmps50
    go_wp2_with fail
    go_ret
    exact ⟨_, rfl, Enc.Own.nil _ _ _, Bl.refl _⟩
  | some ad =>
    clear h4 h3 h2 h1
    go_enter Try.func50, Try.ntmps50
    go_wp2_with (at_builtin; refine Enc.Own.append (E := ptrE) rfl (.tmp 5) (.tmp 6) 56 rfl w.heap.size 23 (.pointer none) 1 8 Try.underlying56 infoPtr rfl rfl (by decide) (by decide) (.slice (some ⟨w.heap.size, 0, none⟩) 0 0) [] rfl (Enc.Own.lit w w.heap.size [] #[] rfl 0 rfl (Nat.le_refl _) (by decide) rfl) (.slice (some ad) hs.length c) hs rfl (HH.out.bl ((Bl.refl _).alloc _)) ?hlen ?hb ?_; (case hlen => simp; omega); (case hb => exact ((Bl.refl w).alloc _).size); intro v1 w1 ho hg)
    go_ret
    exact ⟨_, rfl, by simpa using ho, ((Bl.refl _).alloc _).grown hg (fun k hk => by simp [Value.ownBlock] at hk; omega)⟩

set_option maxHeartbeats 1000000 in
theorem hpush_any (v : Value) (bs : List Nat) (b : Nat) (w : World) (h : ptrE.Is w v bs) (hn : bs.length ≤ 4) :
    Calls Try.prog 49 #[v, .pointer (some ⟨b, 0, none⟩)] w fun e w' => ∃ u, e = .returned u ∧ FarIs w.heap.size w' u ((bs ++ [b]).drop (bs.length + 1 - 4)) ∧ Bl w w' := by
  have HH := Lib.hid h
  clear h
  go_enter Try.func49, Try.ntmps49
  go_wp2_with fail
  refine (hclone_any _ _ _ HH.out (by omega)).mono ?_
  rintro e w1 ⟨u, rfl, ho, hb⟩
  obtain ⟨A, c, rfl⟩ := id ho.slice
  have HO := Lib.hid ho
  have HB := Lib.hid hb
  clear ho hb
  go_wp2_with (at_builtin; refine Enc.Own.append1 (E := ptrE) rfl (.tmp 6) (.tmp 8) 56 rfl w.heap.size 23 (.pointer none) 1 8 Try.underlying56 infoPtr rfl rfl (by decide) (by decide) (.slice A bs.length c) bs rfl HO.out b _ rfl rfl rfl ?hlen ?hbase ?_; (case hlen => omega); (case hbase => exact HB.out.size); intro v1 w4 ho hg; obtain ⟨A5, c5, rfl⟩ := ho.slice)
  all_goals
    have hk : (max 0 ((bs.length : Int) + 1 - 4)).toNat = bs.length - 3 := by omega
    have fi := (FarIs.own ho).sub (bs.length - 3) (bs.length + 1) (by omega) (by simp)
    rw [List.take_of_length_le (by simp)] at fi
    have hB2 := ((HB.out).alloc _).grown hg (fun k hk => (HO.out.lt k hk).1)
    rw [hk] at h ⊢
    unfold sliced at fi
    first | rw [if_neg h] at fi | rw [if_pos h] at fi
    go_ret
    refine ⟨_, rfl, ?_, hB2⟩
    try rw [h] at fi
    simpa using fi

theorem ptr_at {w : World} {A : Option Addr} {xs : List Nat} (h : ptrE.At w A xs) (k : Nat) (hk : k < xs.length) : ∃ ad, A = some ad ∧ w.cell? (ad.add k) = some (.pointer (some ⟨xs[k], 0, none⟩)) := by
  obtain ⟨ad, e, hc⟩ := h k _ (List.getElem?_eq_getElem hk)
  exact ⟨ad, e, by simpa [ptrE] using hc 0 _ rfl⟩

set_option maxHeartbeats 1000000 in
theorem hturn_any (v v' : Value) (bs cs : List Nat) (b : Nat) (w : World) (h : ptrE.Is w v bs) (h' : ptrE.Is w v' cs) (h0 : 0 < bs.length) (hn : bs.length ≤ 4) (hn' : cs.length ≤ 4) :
    Calls Try.prog 48 #[v, v', .pointer (some ⟨b, 0, none⟩)] w fun e w' => ∃ u1 u2, e = .returned (.tuple #[u1, u2, .pointer (some ⟨bs[bs.length - 1]'(by omega), 0, none⟩)]) ∧ FarIs w.heap.size w' u1 (bs.take (bs.length - 1)) ∧
      FarIs w.heap.size w' u2 ((cs ++ [b]).drop (cs.length + 1 - 4)) ∧ Bl w w' := by
  have HF := Lib.hid h
  have HT := Lib.hid h'
  obtain ⟨A, c, rfl, h1, h2, h3, h4⟩ := h
  obtain ⟨A', c', rfl, _⟩ := h'
  obtain ⟨ad, rfl, hc⟩ := ptr_at h4 (bs.length - 1) (by omega)
  obtain ⟨V, hV, hI⟩ := slice_h (E := ptrE) (P := Try.prog) (t := 56) (by kernel_rfl) (fun w => by kernel_rfl) (some ad) c bs ((bs.length : Int) - 1) (by omega) (by omega) h1
  have hI1 := Lib.hid hI
  generalize bs[bs.length - 1] = bl at *
  have hz : ((bs.length : Int) - 1).toNat = bs.length - 1 := by omega
  have hz1 : (0 : Int) ≤ (bs.length : Int) - 1 := by omega
  have hz2 : (bs.length : Int) - 1 < bs.length := by omega
  have hz3 : (1 : Int) ≤ bs.length := by omega
  clear h2 h3 h4 hI
  go_enter Try.func48, Try.ntmps48
  go_wp2_with fail
  refine wp_region_ways (S := (fun w' => w'.cell? (ad.add (bs.length - 1)) = some (.pointer (some ⟨bl, 0, none⟩)))) [0, 1, 2, 4, 5, 7, 8, 9, 10, 11, 12, 13] (y := .take 0 (.take 1 (.take 2 (.take 4 (.take 5 (.take 7 (.take 8 (.take 9 (.take 10 (.ev 3 (.ev 6 (.take 11 (.take 12 (.take 13 (.done)))) (.stop)) (.stop))))))))))) (by kernel_rfl) (by kernel_rfl) (by kernel_rfl) ?_ (fun hHeld => ?_)
  · exact ((Bl.refl w).drew).cell hc
  have HH := Lib.hid hHeld
  repeat (first | (refine wpWay_take rfl (by rfl) (by intro w hSw; (try dsimp only at hSw); first | (go_simp; done) | (go_simp; with_reducible rfl)) ?_; try simp only [Act.put, List.setIfInBounds_toArray, List.set_cons_zero, List.set_cons_succ]) | (refine wpWay_skip rfl (by rfl) ?_; try simp only [Act.put, List.setIfInBounds_toArray, List.set_cons_zero, List.set_cons_succ]))
  clear hHeld
  refine wpWay_ev rfl (fun K hK => ?_) wpWay_stop
  have HV := Lib.hid (hI1.out _ (HF.out.bl (Bl.refl w).drew))
  rw [hz] at HV
  go_wp2_with fail
  refine (hclone_any _ _ _ HV.out (by simp; omega)).mono ?_
  rintro e w1 ⟨u1, rfl, ho, hb⟩
  obtain ⟨A1, c1, rfl⟩ := id ho.slice
  have hfo := (FarIs.own ho).low (base' := w.heap.size) (Nat.le_refl _)
  generalize hn1 : (bs.take (bs.length - 1)).length = n1 at *
  have HO := Lib.hid hfo
  clear hn1 hfo
  have HB := Lib.hid ((Bl.refl w).drew.bl hb)
  replace HH := Lib.hid (hb.cell HH.out)
  clear ho hb
  go_wp2_with fail
  refine ⟨HH.out, ?_⟩
  repeat (first | (refine wpWay_take rfl (by rfl) (by intro w hSw; (try dsimp only at hSw); first | (go_simp; done) | (go_simp; with_reducible rfl)) ?_; try simp only [Act.put, List.setIfInBounds_toArray, List.set_cons_zero, List.set_cons_succ]) | (refine wpWay_skip rfl (by rfl) ?_; try simp only [Act.put, List.setIfInBounds_toArray, List.set_cons_zero, List.set_cons_succ]))
  refine wpWay_ev rfl (fun K hK => ?_) wpWay_stop
  go_wp2_with fail
  refine (hpush_any _ cs b _ (HT.out.bl HB.out) hn').mono ?_
  rintro e w2 ⟨u2, rfl, hf, hb⟩
  obtain ⟨A2, c2, e2, hf1⟩ := id hf.1
  subst e2
  clear hf1
  replace hf := hf.low HB.out.size
  generalize hn2 : ((cs ++ [b]).drop (cs.length + 1 - 4)).length = n2 at *
  have HF2 := Lib.hid hf
  clear hf hn2
  replace HH := Lib.hid (hb.cell HH.out)
  go_wp2_with fail
  refine ⟨HH.out, ?_⟩
  repeat (first | (refine wpWay_take rfl (by rfl) (by intro w hSw; (try dsimp only at hSw); first | (go_simp; done) | (go_simp; with_reducible rfl)) ?_; try simp only [Act.put, List.setIfInBounds_toArray, List.set_cons_zero, List.set_cons_succ]) | (refine wpWay_skip rfl (by rfl) ?_; try simp only [Act.put, List.setIfInBounds_toArray, List.set_cons_zero, List.set_cons_succ]))
  refine wpWay_done ?_
  go_wp2_with fail
  go_ret3
  exact ⟨_, _, rfl, HO.out.bl hb, HF2.out, HB.out.bl hb⟩

set_option maxHeartbeats 1000000 in
theorem hnew_any (w : World) : Calls Try.prog 22 #[] w fun e w' => ∃ B, e = .returned (.pointer (some ⟨B, 0, none⟩)) ∧ w.heap.size ≤ B ∧ HistIs 95 w' B ⟨[], [], []⟩ ∧ Bl w w' := by
  have hu := Try.underlying95
  go_enter Try.func22, Try.ntmps22
  go_wp2_with fail
  refine (snew_any _).mono ?_
  rintro e w1 ⟨u, rfl, hs, hb⟩
  obtain ⟨b0, _, _, rfl, _⟩ := id hs
  go_wp2_with fail
  go_ret
  exact ⟨_, rfl, hb.size, ⟨b0, nilH, nilH, [], [], Blk.new _ _ _, hs.bl ((Bl.refl _).alloc _), FarIs.nil _ _, FarIs.nil _ _, SRows.nil _, SRows.nil _⟩, hb.alloc _⟩

set_option maxHeartbeats 1000000 in
theorem hnow_any (B : Nat) (m : HistM) (w : World) (h : HistIs 95 w B m) :
    Calls Try.prog 25 #[.pointer (some ⟨B, 0, none⟩)] w fun e w' => ∃ u, e = .returned u ∧ StateIs w u m.now ∧ w = w' := by
  obtain ⟨n, u, r, us, rs, h0, h1, _⟩ := h
  have H1 := Lib.hid h1
  have c0 := h0.cell 0
  simp [histC] at c0
  have hu := Try.underlying95
  clear h0 h1
  go_enter Try.func25, Try.ntmps25
  go_wp2_with fail
  go_ret
  exact ⟨_, rfl, H1.out, rfl⟩

set_option maxHeartbeats 1000000 in
theorem hundo_any (B : Nat) (m : HistM) (w : World) (h : HistIs 95 w B m) (hn : m.undo.length ≤ 4) :
    Calls Try.prog 26 #[.pointer (some ⟨B, 0, none⟩)] w fun e w' => ∃ u us, e = .returned u ∧ ptrE.Own 23 w' w.heap.size u us ∧ SRows w' us m.undo ∧ Bl w w' := by
  obtain ⟨n, u, r, us, rs, h0, _, hu1, hr1, hu2, hr2⟩ := h
  have H1 := Lib.hid hu1.1
  have H2 := Lib.hid hu2
  have hl := hu2.1
  have c0 := h0.cell 1
  simp [histC, Head.v] at c0
  have hu := Try.underlying95
  have HN := Lib.hid hn
  clear h0 hu1 hr1 hu2 hr2 hn
  have HL := Lib.hid hl
  clear hl
  go_enter Try.func26, Try.ntmps26
  go_wp2_with fail
  refine (hclone_any _ _ _ H1.out (by have := HL.out; have := HN.out; omega)).mono ?_
  rintro e w1 ⟨q, rfl, ho, hb⟩
  obtain ⟨A, c, rfl⟩ := id ho.slice
  go_wp2_with fail
  go_ret
  exact ⟨_, _, rfl, ho, H2.out.bl hb, hb⟩
set_option maxHeartbeats 1000000 in
theorem hredo_any (B : Nat) (m : HistM) (w : World) (h : HistIs 95 w B m) (hn : m.redo.length ≤ 4) :
    Calls Try.prog 27 #[.pointer (some ⟨B, 0, none⟩)] w fun e w' => ∃ u us, e = .returned u ∧ ptrE.Own 23 w' w.heap.size u us ∧ SRows w' us m.redo ∧ Bl w w' := by
  obtain ⟨n, u, r, us, rs, h0, _, hu1, hr1, hu2, hr2⟩ := h
  have H1 := Lib.hid hr1.1
  have H2 := Lib.hid hr2
  have hl := hr2.1
  have c0 := h0.cell 2
  simp [histC, Head.v] at c0
  have hu := Try.underlying95
  have HN := Lib.hid hn
  clear h0 hu1 hr1 hu2 hr2 hn
  have HL := Lib.hid hl
  clear hl
  go_enter Try.func27, Try.ntmps27
  go_wp2_with fail
  refine (hclone_any _ _ _ H1.out (by have := HL.out; have := HN.out; omega)).mono ?_
  rintro e w1 ⟨q, rfl, ho, hb⟩
  obtain ⟨A, c, rfl⟩ := id ho.slice
  go_wp2_with fail
  go_ret
  exact ⟨_, _, rfl, ho, H2.out.bl hb, hb⟩
end Go.Proofs.Ytddcjekkimajpaa.ExtW
