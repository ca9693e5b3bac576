/- Several texts joined (see each one's head). -/
import Derived.Test.YtddcjekkimajpaaGreatPkG
import Derived.Test.YtddcjekkimajpaaGreatPkE
import Derived.Maps.OwnSet
import Derived.Maps.OwnOps
/- The walk of overdublaw22.HistoryErrors. -/
namespace Go.Proofs.YtddcjekkimajpaaGreat.ExtW
open Go.RowKit Go.Ov Go.Proofs.YtddcjekkimajpaaGreat.Need

theorem sameSs_refl (a : List StM) : sameSs a a = true := by unfold sameSs; exact decide_eq_true rfl
theorem sameH_refl (m : HistM) : sameH m m = true := by unfold sameH; rw [sameS_refl, sameSs_refl, sameSs_refl]; rfl
theorem HOK.all {m : HistM} (h : HOK m) : ∀ s ∈ allH m, SOK s := fun s hs => by
  simp only [allH, List.cons_append, List.mem_cons, List.mem_append] at hs
  rcases hs with rfl | hs | hs
  · exact h.1.1
  · exact (h.2.1 s hs).1
  · exact (h.2.2.1 s hs).1
theorem ArgInts.bl {w w' : World} {v : Value} {l : List Int} (h : ArgInts w v l) (hb : Bl w w') : ArgInts w' v l := ⟨h.1.bl hb, h.2⟩

set_option maxRecDepth 100000 in
set_option maxHeartbeats 1000000 in
theorem herrs_walk (v : Value) (l : List Rec) (v' : Value) (ns : List Int) (what : Int) (w : World) (h : ArgRecs w v l) (h' : ArgInts w v' ns) (_ : -9223372036854775808 ≤ what ∧ what ≤ 9223372036854775807) :
    Calls Tryz.prog 4 #[v, v', .int .i64 what] w fun e w' => e = .returned (.bool true) ∧ Bl w w' := by
  have HL := Lib.hid h
  have HNS := Lib.hid h'
  obtain ⟨A, c, rfl, _⟩ := h
  obtain ⟨⟨A', c', rfl, _⟩, _⟩ := h'
  have hur := Tryz.underlying46
  have huh := Tryz.underlying30
  go_enter Tryz.func4, Tryz.ntmps4
  go_wp2_with fail
  refine (hnew_any _).mono ?_
  rintro e w1 ⟨B, rfl, hBw, hh, hb⟩
  have HB1 := Lib.hid hb
  have HBw := Lib.hid hBw
  have HH1 := Lib.hid hh
  clear hb hh hBw
  (go_wp2_with fail; refine (kcutRec_any _ l 8 _ (ArgRecs.bl HL.out HB1.out) (by decide) (by decide)).mono ?_; rintro e w1' ⟨uc, rfl, hcr, rfl⟩; obtain ⟨L, hL⟩ : ∃ L, L = l.take (8 : Int).toNat := ⟨_, rfl⟩; rw [← hL] at hcr; clear hL; have HCR := Lib.hid hcr; obtain ⟨Ac, cc, rfl, _⟩ := id hcr; clear hcr)
  go_wp2_with fail
  refine (play22_any (fun _ => false) B _ _ _ noH L ns _ HH1.out (RHIs.nil _) rfl HOK.no HCR.out (ArgInts.bl HNS.out HB1.out)).mono ?_
  rintro e w2 ⟨u, m, rfl, hh, hr, hm, hg⟩
  have HB2 := Lib.hid (HB1.out.grown hg (fun k hk => by injection hk with hk; have := HBw.out; omega))
  have HH2 := Lib.hid hh
  have HR2 := Lib.hid (RHIs.sub (Sub.un _ _) hr)
  have HM := Lib.hid hm
  obtain ⟨a1, b1, c1, rfl, h1, h2, h3⟩ := id hr
  obtain ⟨A1, n1, t1, rfl⟩ : ∃ A' n' c', a1 = .slice A' n' c' := by obtain ⟨A', c', e'⟩ := h1.slice; exact ⟨A', _, c', e'⟩
  obtain ⟨A2, n2, t2, rfl⟩ : ∃ A' n' c', b1 = .slice A' n' c' := by obtain ⟨A', c', e'⟩ := h2.slice; exact ⟨A', _, c', e'⟩
  obtain ⟨A3, n3, t3, rfl⟩ : ∃ A' n' c', c1 = .slice A' n' c' := by obtain ⟨A', c', e'⟩ := h3.slice; exact ⟨A', _, c', e'⟩
  clear hh hr hm hg h1 h2 h3 HB1 HH1
  have HOKs := Lib.hid (HOK.all HM.out)
  have hal := (Bl.refl w2).alloc (.cells #[.slice A1 n1 t1, .slice A2 n2 t2, .slice A3 n3 t3] 30)
  have HAL := Lib.hid hal
  have HKB := Lib.hid (Blk.new w2 #[.slice A1 n1 t1, .slice A2 n2 t2, .slice A3 n3 t3] 30)
  clear hal
  go_wp2_with fail
  refine (hnow_any B m _ (HH2.out.bl HAL.out)).mono ?_
  rintro e w3 ⟨u3, rfl, hst, rfl⟩
  obtain ⟨b3, _, _, rfl, _⟩ := id hst
  clear hst
  go_wp2_with fail
  refine (hcloneH_any B m _ (HH2.out.bl HAL.out) HM.out.2.2.2.1 HM.out.2.2.2.2).mono ?_
  rintro e w4 ⟨B2, rfl, hB2, hh2, hb⟩
  have HC := Lib.hid hh2
  have HB4 := Lib.hid (HAL.out.bl hb)
  replace HKB := Lib.hid (HKB.out.bl hb)
  clear hh2 hb hB2
  have hb1 := within_bd what 7 (by omega)
  go_wp2_with fail
  refine (within_any _ _ _ (by decide)).mono ?_
  rintro e w5 ⟨rfl, rfl⟩
  generalize within what 7 = y at *
  rcases (show y = 0 ∨ y = 1 ∨ y = 2 ∨ y = 3 ∨ y = 4 ∨ y = 5 ∨ y = 6 by omega) with rfl | rfl | rfl | rfl | rfl | rfl | rfl
  all_goals
    have q0 := HKB.out.cell 0
    have q1 := HKB.out.cell 1
    have q2 := HKB.out.cell 2
    have hlt := HKB.out.lt
    simp at q0 q1 q2
    go_wp2_with fail
    refine (hap20_any (fun _ => true) m _ _ _ _ (RHIs.sub ?hrs HR2.out) (rec_is _ _ _ _ _) HM.out).mono ?_
    case hrs => exact (Sub.bl ((HB4.out.alloc _).alloc _)).trans (fun ad v h => cell_only rfl h)
    rintro e w6 ⟨u6, rfl, hrh, hb⟩
    have HB6 := Lib.hid (((HB4.out.alloc _).alloc _).bl hb)
    have HX := Lib.hid ((Blk.new (w4.alloc _) _ _).bl hb)
    replace HKB := Lib.hid (HKB.out.bl ((((Bl.refl w4).alloc _).alloc _).bl hb))
    have HC6 := Lib.hid (HC.out.bl ((((Bl.refl w4).alloc _).alloc _).bl hb))
    obtain ⟨a2, b2, c2, rfl, h1, h2, h3⟩ := id hrh
    obtain ⟨D1, k1, s1, rfl⟩ : ∃ A' n' c', a2 = .slice A' n' c' := by obtain ⟨A', c', e'⟩ := h1.slice; exact ⟨A', _, c', e'⟩
    obtain ⟨D2, k2, s2, rfl⟩ : ∃ A' n' c', b2 = .slice A' n' c' := by obtain ⟨A', c', e'⟩ := h2.slice; exact ⟨A', _, c', e'⟩
    obtain ⟨D3, k3, s3, rfl⟩ : ∃ A' n' c', c2 = .slice A' n' c' := by obtain ⟨A', c', e'⟩ := h3.slice; exact ⟨A', _, c', e'⟩
    clear hrh h1 h2 h3 hb q0 q1 q2 hlt
    generalize hp : applyH m _ = p at *
    obtain ⟨m', ez⟩ := p
    have HP := Lib.hid hp
    clear hp
    dsimp only
    by_cases hz : ez = 0
    · subst hz
      go_wp2_with fail
      refine (wakes22_any _).mono ?_
      rintro e w7 ⟨rfl, hb⟩
      have HB7 := Lib.hid (HB2.out.bl ((HB6.out.alloc _).bl hb))
      clear hb
      go_wp2_with fail
      go_ret
      exact ⟨rfl, HB7.out⟩
    · have hz1 : (ez == 0) = false := by rw [beq_eq_false_iff_ne]; exact hz
      have HZ := Lib.hid hz
      have d0 := HX.out.cell 0
      have d1 := HX.out.cell 1
      have d2 := HX.out.cell 2
      have d3 := HX.out.cell 3
      have d4 := HX.out.cell 4
      have hltX := HX.out.lt
      simp at d0 d1 d2 d3 d4 hltX
      clear hz
      go_wp2_with fail
      have HA6 := Lib.hid (HB6.out.alloc (.cells #[.slice D1 k1 s1, .slice D2 k2 s2, .slice D3 k3 s3] 30))
      refine (happly_G (fun b => decide (b ≠ B)) B m _ _ _ (HistIs.toG (HH2.out.bl HA6.out)) (rec_is _ _ _ _ _) HM.out.1.1.1 HM.out.2.2.2.1 HM.out.2.2.2.2).mono ?_
      rintro e w7 ⟨rfl, hh, _, hno⟩
      rw [HP.out] at hh hno ⊢
      dsimp only at hh hno ⊢
      obtain ⟨hm', hb⟩ := hno HZ.out
      have HB7 := Lib.hid (HA6.out.bl hb)
      have HC7 := Lib.hid (HC6.out.bl (((Bl.refl w6).alloc _).bl hb))
      replace HKB := Lib.hid (HKB.out.bl (((Bl.refl w6).alloc _).bl hb))
      clear hh hno hm' hb d0 d1 d2 d3 d4 hltX
      go_wp2_with fail
      refine (hsame_any B B2 m m _ (HH2.out.bl HB7.out) HC7.out (fun s hs => HOKs.out s hs) (fun s hs => HOKs.out s hs)).mono ?_
      rintro e w8 ⟨rfl, hb⟩
      rw [sameH_refl]
      have HB8 := Lib.hid (HB7.out.bl hb)
      replace HKB := Lib.hid (HKB.out.bl hb)
      clear hb
      have q0 := HKB.out.cell 0
      have q1 := HKB.out.cell 1
      have q2 := HKB.out.cell 2
      simp at q0 q1 q2
      go_wp2_with fail
      refine (same22_any B _ m _ (HH2.out.bl HB8.out) (HR2.out.bl HB8.out) HM.out).mono ?_
      rintro e w9 ⟨rfl, hb⟩
      have HB9 := Lib.hid (HB8.out.bl hb)
      clear hb q0 q1 q2
      go_wp2_with fail
      refine (wakes22_any _).mono ?_
      rintro e w10 ⟨rfl, hb⟩
      have HB10 := Lib.hid (HB2.out.bl (HB9.out.bl hb))
      clear hb
      go_wp2_with fail
      go_ret
      exact ⟨rfl, HB10.out⟩
end Go.Proofs.YtddcjekkimajpaaGreat.ExtW

/- Contract of overdublaw22.lines: a history's now, as rows. -/
namespace Go.Ov
open Go.RowKit
/-- all but a slice's own block -/
def nob (v : Value) : Nat → Bool := fun b => decide (v.ownBlock ≠ some b)
theorem Sub.lies {w w' : World} {v v' : Value} (hg : w.grownBy w' v.ownBlock) (hl : Lies w v.ownBlock v'.ownBlock) : Sub (only w (nob v)) (only w' (nob v')) := fun ad u q => by
  obtain ⟨h1, h2⟩ := only_cell q
  have hlt := World.block_lt_of_cell? w ad h2
  have hne : v.ownBlock ≠ some ad.block := of_decide_eq_true h1
  refine cell_only (decide_eq_true ?_) ?_
  · rcases hl with e | ⟨g, e, hge⟩
    · rw [e]; exact hne
    · rw [e]; intro h; injection h with h; omega
  · unfold World.cell? at h2 ⊢
    rw [hg.block ad.block hlt (fun e => hne e.symm)]; exact h2
end Go.Ov
namespace Go.Proofs.YtddcjekkimajpaaGreat.ExtW
open Go.RowKit Go.Ov Go.Proofs.YtddcjekkimajpaaGreat.Need

set_option maxRecDepth 100000 in
set_option maxHeartbeats 1000000 in
theorem lines22_any (B : Nat) (m : HistM) (w : World) (h : HistIs 59 w B m) (hs : SOK m.now) :
    Calls Tryz.prog 15 #[.pointer (some ⟨B, 0, none⟩)] w fun e w' => ∃ u, e = .returned u ∧ LnIs w' u (rowsOf m.now) ∧ Bl w w' := by
  have HH := Lib.hid h
  have HS := Lib.hid hs
  have hl6 := hs.1.1
  obtain ⟨s, hse⟩ : ∃ s, s = m.now := ⟨_, rfl⟩
  have HSE := Lib.hid hse
  rw [← hse] at HS hl6
  rw [← hse]
  clear h hs hse
  go_enter Tryz.func15, Tryz.ntmps15
  go_wp2_with fail
  refine (hnow_any B m _ HH.out).mono ?_
  rintro e w1 ⟨u1, rfl, hst, rfl⟩
  rw [← HSE.out] at hst
  have HST := Lib.hid hst
  obtain ⟨b1, _, _, rfl, _⟩ := id hst
  clear hst
  go_wp2_with fail
  refine (sids_any _ s _ HST.out (by omega)).mono ?_
  rintro e w2 ⟨u2, rfl, ho, hb⟩
  obtain ⟨I, hI⟩ : ∃ I, I = s.map (·.1) := ⟨_, rfl⟩
  rw [← hI] at ho
  have HIl := Lib.hid (show I.length = s.length by rw [hI, List.length_map])
  have HIe := Lib.hid hI
  have HB2 := Lib.hid hb
  obtain ⟨Ai, ci, rfl, _, _, _, hat⟩ := ho.is
  have HA := Lib.hid hat
  have hil : I.length ≤ 6 := by rw [HIl.out]; exact hl6
  clear ho hb hI hat
  go_wp2_with fail
  go_loopg [12, 3] I.length (fun g i v3 wr => ∃ (k : Nat) (hs : List RH), k ≤ I.length ∧ g = I.length - k ∧ i = .int .i64 k ∧ hs.length = k ∧ Hid (rowE.Own 73 wr w2.heap.size v3 hs) ∧ Hid (LnRows (only wr (nob v3)) hs ((rowsOf s).take k)) ∧ Hid (Bl w2 wr))
  case atStart => exact ⟨0, [], by omega, rfl, rfl, rfl, Lib.hid (Enc.Own.nil _ _ _), Lib.hid (LnRows.nil _), Lib.hid (Bl.refl _)⟩
  case round =>
    obtain ⟨k, hs, hk, rfl, rfl, hsl, HO, HR, HB⟩ := hrel
    by_cases hlt : k < I.length
    · have hks : k < s.length := by have := HIl.out; omega
      obtain ⟨ad, rfl, d0⟩ := int_at (HA.out.bl HB.out) k hlt
      have hik : I[k] = s[k].1 := by simp only [HIe.out, List.getElem_map]
      have HG := Lib.hid (get_at HS.out.2 k hks)
      have HRk := Lib.hid (show (rowsOf s).take (k + 1) = (rowsOf s).take k ++ [(s[k].1, s[k].2.row)] by rw [List.take_succ_eq_append_getElem (by rw [rowsOf_len]; exact hks), rowsOf_at s k hks])
      have HVl := Lib.hid (valid_len _ (HS.out.1.2 s[k] (List.getElem_mem hks)))
      rw [hik] at d0
      obtain ⟨Ao, co, rfl⟩ := HO.out.slice
      have hln : hs.length ≤ 6 := by omega
      have HSL := Lib.hid hsl
      clear hik hsl
      generalize s[k].1 = id1 at *
      generalize s[k].2 = t at *
      go_wp2_with fail
      refine (hnow_any B m _ (HH.out.bl (HB2.out.bl HB.out))).mono ?_
      rintro e w3 ⟨u3, rfl, hst, rfl⟩
      rw [← HSE.out] at hst
      have HST3 := Lib.hid hst
      obtain ⟨b3, _, _, rfl, _⟩ := id hst
      clear hst
      go_wp2_with fail
      refine (stree_any _ s id1 _ HST3.out).mono ?_
      rintro e w4 ⟨hres, hb⟩
      obtain ⟨u4, rfl, ht⟩ := hres.2 t HG.out
      have HT := Lib.hid ht
      obtain ⟨b4, _, _, rfl, _⟩ := id ht
      have HB4 := Lib.hid (HB.out.bl hb)
      have HO4 := Lib.hid (HO.out.bl hb)
      have HR4 := Lib.hid (LnRows.sub (Sub.bl (hb.only _)) HR.out)
      clear hres ht hb HO HR
      go_wp2_with fail
      refine (tall_any _ t _ HT.out (by have := HVl.out; omega)).mono ?_
      rintro e w5 ⟨u5, rfl, ho, hb⟩
      have HB5 := Lib.hid (HB4.out.bl hb)
      have HO5 := Lib.hid (HO4.out.bl hb)
      have HR5 := Lib.hid (LnRows.sub (Sub.bl (hb.only _)) HR4.out)
      obtain ⟨A5, c5, rfl⟩ := ho.slice
      have HU5 := Lib.hid (show extE.Is (only w5 (nob (.slice Ao hs.length co))) (.slice A5 t.row.length c5) t.row from ho.isM (fun q hq => decide_eq_true (fun e => by have := (HO4.out.lt q e).2; omega)))
      clear ho hb HO4 HR4
      generalize hnr : t.row.length = nr at *
      go_wp2_with (at_builtin; refine Enc.Own.append1L (E := rowE) rfl (.tmp 29) (.tmp 34) 27 rfl w2.heap.size 73 (.agg #[.int .i64 0, .slice none 0 0]) 2 32 Tryz.underlying27 infoRow20 rfl rfl (by decide) (by decide) _ hs rfl HO5.out ⟨id1, ⟨A5, nr, c5⟩⟩ _ rfl rfl rfl (by omega) HB5.out.size ?_; intro v1 w6 ho hg hl)
      have HB6 := Lib.hid ((HB5.out.alloc _).grown hg (fun q hq => (HO5.out.lt q hq).1))
      have hS := (Sub.bl (((Bl.refl w5).alloc _).only _)).trans (Sub.lies hg hl)
      have HR6 := Lib.hid (show LnRows (only w6 (nob v1)) (hs ++ [⟨id1, ⟨A5, nr, c5⟩⟩]) ((rowsOf s).take (k + 1)) by rw [HRk.out]; exact (LnRows.sub hS HR5.out).snoc ⟨rfl, hS.is HU5.out⟩)
      have HO6 := Lib.hid ho
      clear ho hg hl hS
      go_wp2_with fail
      go_roundg (I.length - (k + 1))
      case measure => omega
      case rel => exact ⟨k + 1, _, by omega, rfl, by go_num, by simp; exact HSL.out, HO6, HR6, HB6⟩
    · have HF := Lib.hid (show LnRows (only wr _) hs (rowsOf s) by
        have := HR.out
        rw [List.take_of_length_le (by rw [rowsOf_len]; have := HIl.out; omega)] at this
        exact this)
      go_wp2_with fail
      go_ret
      exact ⟨_, rfl, ⟨hs, HO.out.is, LnRows.sub (Sub.un _ _) HF.out⟩, HB2.out.bl HB.out⟩
end Go.Proofs.YtddcjekkimajpaaGreat.ExtW

/- Sets of whole numbers: a map from int to bool that holds true alone. No program in sight. -/
namespace Go.Ov
open Go.RowKit Go.Maps
def litI (x : Int) : Lit := .int .i64 x
def tru : DataW Unit := .lit (.bool true)
def intSet (l : List Int) : DataW Unit := Maps.setOf tru (l.map litI)
def SetIs (P : Program) (k e : TypeId) (w : World) (b n : Nat) (l : List Int) : Prop := w.ownsMap P k (plainElem P e) b n (intSet l)
theorem keyLit (x : Int) : WideAt.IsKeyLit (litI x) := by unfold litI; trivial
theorem keyLits (l : List Int) : ∀ y ∈ l.map litI, WideAt.IsKeyLit y := fun y hy => by obtain ⟨x, _, rfl⟩ := List.mem_map.1 hy; exact keyLit x
theorem litI_inj {x y : Int} (h : litI x = litI y) : x = y := by unfold litI at h; injection h
theorem intSet_snoc (l : List Int) (x : Int) : intSet (l ++ [x]) = (intSet l).put (litI x) tru := by unfold intSet; rw [List.map_append, List.map_singleton, setOf_snoc]
theorem sameKey_lit (x y : Int) : (litI x).sameKey (litI y) = decide (x = y) := by
  by_cases h : x = y
  · subst h; rw [decide_eq_true rfl]; exact WideAt.sameKey_self (keyLit x)
  · rw [decide_eq_false h]; exact sameKey_ne (fun e => h (litI_inj e))
theorem atKey_fold (u z : DataW Unit) (k : Lit) : ∀ (acc : List Lit) (m : DataW Unit), IsMap m → (∀ x ∈ acc, WideAt.IsKeyLit x) → (k ∈ acc ∨ m.atKey k z = u) → (acc.foldl (fun m x => m.put x u) m).atKey k z = u
  | [], m, _, _, h => by rcases h with h | h; cases h; exact h
  | x :: r, m, hm, hk, h => by
    rw [List.foldl_cons]
    refine atKey_fold u z k r _ (hm.put x u) (fun y hy => hk y (by simp [hy])) ?_
    by_cases e : k = x
    · subst e; exact .inr (atKey_put_same hm (hk k (by simp)) u z)
    · rcases h with h | h
      · rcases List.mem_cons.1 h with h | h
        · exact absurd h e
        · exact .inl h
      · exact .inr (by rw [atKey_put_other e]; exact h)
theorem plainElem_bool_inv {P : Program} {e : TypeId} (he : P.underlying e = some .bool) {v : Value} {x : Bool} {ps : List MemPlace} (h : plainElem (H := Unit) P e v = some (.lit (.bool x), ps)) : v = .bool x := by
  unfold plainElem at h
  rw [he] at h
  cases v <;> simp at h
  rw [h.1]
theorem SetIs.look {P : Program} {k e t : TypeId} {w : World} {b n : Nat} {l : List Int} (h : SetIs P k e w b n l) (ht : P.underlying t = some (.map k e)) (hk : P.underlying k = some (.int .i64)) (he : P.underlying e = some .bool) (hz : (zeroValue e).run P w = .ok (.bool false) w)
    {x : Int} (hx : x ∈ l) (hw : (Lit.int .i64 x).wf = true) : (Instr.lookup t (.map (some b)) (.int .i64 x) false).run P w = .ok (.bool true) w := by
  obtain ⟨v, ps, hrun, hv⟩ := World.ownsMap.lookup h (int_keyed hk) ht hz (plainElem_bool he false) (keyOf_int_mk hk hw)
  have : (intSet l).atKey (.int .i64 x) (.lit (.bool false)) = tru := atKey_fold tru _ (litI x) (l.map litI) _ isMap_empty (keyLits l) (.inl (List.mem_map_of_mem hx))
  rw [this] at hv
  rw [hrun, plainElem_bool_inv he hv]

/-- a number more, if it is not there yet -/
def addI (l : List Int) (x : Int) : List Int := if x ∈ l then l else l ++ [x]
theorem addI_spec : ∀ (l a : List Int), a.Nodup → (l.foldl addI a).Nodup ∧ ∀ x, x ∈ l.foldl addI a ↔ x ∈ a ∨ x ∈ l
  | [], a, h => ⟨h, fun x => by simp⟩
  | y :: l, a, h => by
    have h1 : (addI a y).Nodup := by
      unfold addI
      split
      · exact h
      · rename_i hy
        exact List.nodup_append.2 ⟨h, by simp, fun p hp q hq e => by simp at hq; subst hq; subst e; exact hy hp⟩
    obtain ⟨g1, g2⟩ := addI_spec l (addI a y) h1
    refine ⟨g1, fun x => ?_⟩
    rw [List.foldl_cons, g2]
    unfold addI
    split
    · rename_i hy
      constructor
      · rintro (h | h); exact .inl h; exact .inr (by simp [h])
      · rintro (h | h)
        · exact .inl h
        · rcases List.mem_cons.1 h with rfl | h
          · exact .inl hy
          · exact .inr h
    · simp [or_assoc]
theorem addKey_map : ∀ (l a : List Int), (l.map litI).foldl addKey (a.map litI) = (l.foldl addI a).map litI
  | [], a => rfl
  | y :: l, a => by
    rw [List.map_cons, List.foldl_cons, List.foldl_cons, ← addKey_map l (addI a y)]
    congr 1
    unfold addKey addI
    have : ((a.map litI).any fun z => z.sameKey (litI y)) = decide (y ∈ a) := by
      rw [List.any_map]
      by_cases hy : y ∈ a
      · rw [decide_eq_true hy]; exact List.any_eq_true.2 ⟨y, hy, by simp [sameKey_lit]⟩
      · rw [decide_eq_false hy]; rw [List.any_eq_false]; intro z hz; simp [sameKey_lit]; intro e; subst e; exact hy hz
    rw [this]
    by_cases hy : y ∈ a
    · simp [hy]
    · simp [hy]
theorem nodup_le : ∀ (a b : List Int), a.Nodup → (∀ x ∈ a, x ∈ b) → a.length ≤ b.length
  | [], _, _, _ => by simp
  | x :: a, b, h, hs => by
    have hx := hs x (by simp)
    obtain ⟨h1, h2⟩ := List.nodup_cons.1 h
    have := nodup_le a (b.erase x) h2 (fun y hy => (List.mem_erase_of_ne (fun e => h1 (by rw [← e]; exact hy))).2 (hs y (by simp [hy])))
    rw [List.length_erase_of_mem hx] at this
    have := List.length_pos_of_mem hx
    simp; omega
theorem intSet_size (l : List Int) : Maps.size (intSet l) = (sortedM l).length := by
  unfold intSet
  rw [size_setOf tru _ (keyLits l), show ([] : List Lit) = ([] : List Int).map litI from rfl, addKey_map, List.length_map]
  obtain ⟨g1, g2⟩ := addI_spec l [] List.nodup_nil
  obtain ⟨h1, h2⟩ := sortedM_spec l
  have hn : (sortedM l).Nodup := h1.imp (fun h => by omega)
  refine Nat.le_antisymm (nodup_le _ _ g1 fun x hx => (h2 x).2 ?_) (nodup_le _ _ hn fun x hx => (g2 x).2 (.inr ((h2 x).1 hx)))
  rcases (g2 x).1 hx with h | h
  · cases h
  · exact h
end Go.Ov

/- The walk of overdublaw22.HistorySectors. -/
namespace Go.Ov
open Go.RowKit
/-- a cell lies in no map's block -/
theorem Sub.map {w w' : World} {b : Nat} {es : Array MapEntry} {cl : Nat} (hb : w.heap[b]? = some (.map es cl)) (hg : w.grownBy w' (some b)) : Sub w w' := fun ad v h => by
  have hlt := World.block_lt_of_cell? w ad h
  have hne : ad.block ≠ b := fun e => by
    unfold World.cell? at h
    rw [e, hb] at h
    cases h
  unfold World.cell? at h ⊢
  rw [hg.block ad.block hlt (fun e => by injection e with e; exact hne e)]; exact h
theorem SetIs.sub {P : Program} {k e : TypeId} {w w' : World} {b n : Nat} {l : List Int} (h : SetIs P k e w b n l) (hg : w.grownBy w' (some b)) : Sub w w' := by
  obtain ⟨es, cl, hb, _⟩ := h
  exact Sub.map hb hg
theorem SetIs.bl {P : Program} {k e : TypeId} {w w' : World} {b n : Nat} {l : List Int} (h : SetIs P k e w b n l) (hb : Bl w w') : SetIs P k e w' b n l := World.ownsMap.kept h (grown_bl hb (row := none)) (by simp)
end Go.Ov
namespace Go.Proofs.YtddcjekkimajpaaGreat.ExtW
open Go.RowKit Go.Ov Go.Proofs.YtddcjekkimajpaaGreat.Need

set_option maxHeartbeats 1000000 in
theorem hundo_G (G : Nat → Bool) (B : Nat) (m : HistM) (w : World) (h : HistG 59 w G B m) (hn : m.undo.length ≤ 4) :
    Calls Tryz.prog 11 #[.pointer (some ⟨B, 0, none⟩)] w fun e w' => ∃ u us, e = .returned u ∧ ptrE.Own 33 w' w.heap.size u us ∧ SRows (only w G) us m.undo ∧ Bl w w' := by
  obtain ⟨_, n, u, r, us, rs, h0, _, hu1, hr1, hu2, hr2, _⟩ := h
  have H1 := Lib.hid ((Sub.un w G).is hu1)
  have H2 := Lib.hid hu2
  have hl := hu2.1
  have c0 := h0.cell 1
  simp [histC, Head.v] at c0
  have hu := Tryz.underlying59
  have HN := Lib.hid hn
  clear h0 hu1 hr1 hu2 hr2 hn
  have HL := Lib.hid hl
  clear hl
  go_enter Tryz.func11, Tryz.ntmps11
  go_wp2_with fail
  refine (hclone_any _ _ _ H1.out (by have := HL.out; have := HN.out; omega)).mono ?_
  rintro e w1 ⟨q, rfl, ho, hb⟩
  obtain ⟨A, c, rfl⟩ := id ho.slice
  go_wp2_with fail
  go_ret
  exact ⟨_, _, rfl, ho, H2.out, hb⟩
set_option maxHeartbeats 1000000 in
theorem hredo_G (G : Nat → Bool) (B : Nat) (m : HistM) (w : World) (h : HistG 59 w G B m) (hn : m.redo.length ≤ 4) :
    Calls Tryz.prog 12 #[.pointer (some ⟨B, 0, none⟩)] w fun e w' => ∃ u us, e = .returned u ∧ ptrE.Own 33 w' w.heap.size u us ∧ SRows (only w G) us m.redo ∧ Bl w w' := by
  obtain ⟨_, n, u, r, us, rs, h0, _, hu1, hr1, hu2, hr2, _⟩ := h
  have H1 := Lib.hid ((Sub.un w G).is hr1)
  have H2 := Lib.hid hr2
  have hl := hr2.1
  have c0 := h0.cell 2
  simp [histC, Head.v] at c0
  have hu := Tryz.underlying59
  have HN := Lib.hid hn
  clear h0 hu1 hr1 hu2 hr2 hn
  have HL := Lib.hid hl
  clear hl
  go_enter Tryz.func12, Tryz.ntmps12
  go_wp2_with fail
  refine (hclone_any _ _ _ H1.out (by have := HL.out; have := HN.out; omega)).mono ?_
  rintro e w1 ⟨q, rfl, ho, hb⟩
  obtain ⟨A, c, rfl⟩ := id ho.slice
  go_wp2_with fail
  go_ret
  exact ⟨_, _, rfl, ho, H2.out, hb⟩
theorem zeroB (w : World) : (zeroValue 4).run Tryz.prog w = .ok (.bool false) w := by kernel_rfl
theorem accS_len2 {l : List StM} (h : ∀ s ∈ l, SOK s) (hn : l.length ≤ 9) : (accS l).length ≤ 54000 := by
  have := accS_len h l.length
  rw [List.take_length] at this
  omega
theorem sec_bd : ∀ (l : List Ext) (a : Int), validFrom a l = true → ∀ e ∈ l, 1 ≤ e.sector ∧ e.sector < 4096
  | [], _, _, e, h => by cases h
  | x :: l, a, hv, e, h => by
    unfold validFrom at hv
    simp only [Bool.and_eq_true] at hv
    rcases List.mem_cons.1 h with rfl | h
    · have := hv.1.1.1
      unfold oneB at this
      simp only [Bool.and_eq_true, decide_eq_true_eq] at this
      omega
    · exact sec_bd l _ hv.2 e h
theorem sec_wf {s : StM} (h : SOK s) : ∀ x ∈ sortedM (secO (rowsOf s)), (Lit.int .i64 x).wf = true := fun x hx => by
  have h1 := ((sortedM_spec _).2 x).1 hx
  rw [← allOf_sec] at h1
  obtain ⟨e, he, rfl⟩ := List.mem_map.1 h1
  unfold allOf at he
  obtain ⟨t, ht, he⟩ := List.mem_flatMap.1 he
  have := sec_bd _ _ (h.1.2 t ht) e he
  exact WalkArith.wf_i64 (by omega)
theorem accS_mem (l : List StM) (x : Int) : x ∈ accS l ↔ x ∈ secS l := by
  unfold accS secS
  simp only [List.mem_flatMap]
  exact ⟨fun ⟨s, hs, hx⟩ => ⟨s, hs, ((sortedM_spec _).2 x).1 hx⟩, fun ⟨s, hs, hx⟩ => ⟨s, hs, ((sortedM_spec _).2 x).2 hx⟩⟩

set_option maxRecDepth 100000 in
set_option maxHeartbeats 1000000 in
theorem hsecs_walk (v : Value) (l : List Rec) (v' : Value) (ns : List Int) (w : World) (h : ArgRecs w v l) (h' : ArgInts w v' ns) :
    Calls Tryz.prog 3 #[v, v'] w fun e w' => e = .returned (.bool true) ∧ Bl w w' := by
  have HL := Lib.hid h
  have HNS := Lib.hid h'
  obtain ⟨A, c, rfl, _⟩ := h
  obtain ⟨⟨A', c', rfl, _⟩, _⟩ := h'
  have hur := Tryz.underlying46
  have huh := Tryz.underlying30
  have hmm := @run_makeMap Tryz.prog
  go_enter Tryz.func3, Tryz.ntmps3
  go_wp2_with fail
  refine (hnew_any _).mono ?_
  rintro e w1 ⟨B, rfl, hBw, hh, hb⟩
  have HB1 := Lib.hid hb
  have HBw := Lib.hid hBw
  have HH1 := Lib.hid hh
  clear hb hh hBw
  skip
  go_wp2_with fail
  refine (play22_any (fun _ => false) B _ _ _ noH l ns _ HH1.out (RHIs.nil _) rfl HOK.no (ArgRecs.bl HL.out HB1.out) (ArgInts.bl HNS.out HB1.out)).mono ?_
  rintro e w2 ⟨u, m, rfl, hh, hr, hm, hg⟩
  have HB2 := Lib.hid (HB1.out.grown hg (fun k hk => by injection hk with hk; have := HBw.out; omega))
  have HH2 := Lib.hid hh
  have HM := Lib.hid hm
  obtain ⟨a1, b1, c1, rfl, h1, h2, h3⟩ := id hr
  obtain ⟨A1, n1, t1, rfl⟩ : ∃ A' n' c', a1 = .slice A' n' c' := by obtain ⟨A', c', e'⟩ := h1.slice; exact ⟨A', _, c', e'⟩
  obtain ⟨A2, n2, t2, rfl⟩ : ∃ A' n' c', b1 = .slice A' n' c' := by obtain ⟨A', c', e'⟩ := h2.slice; exact ⟨A', _, c', e'⟩
  obtain ⟨A3, n3, t3, rfl⟩ : ∃ A' n' c', c1 = .slice A' n' c' := by obtain ⟨A', c', e'⟩ := h3.slice; exact ⟨A', _, c', e'⟩
  clear hh hr hm hg h1 h2 h3 HB1 HH1
  have HALL := Lib.hid (HOK.all HM.out)
  have hal := (Bl.refl w2).alloc (.cells #[.slice A1 n1 t1, .slice A2 n2 t2, .slice A3 n3 t3] 30)
  have HAL := Lib.hid hal
  clear hal
  go_wp2_with fail
  refine (hnow_any B m _ (HH2.out.bl HAL.out)).mono ?_
  rintro e w3 ⟨u3, rfl, hst, rfl⟩
  obtain ⟨b3, _, _, rfl, _⟩ := id hst
  clear hst
  obtain ⟨w4, hw4⟩ : ∃ w4, w4 = w2.alloc (.cells #[.slice A1 n1 t1, .slice A2 n2 t2, .slice A3 n3 t3] 30) := ⟨_, rfl⟩
  rw [← hw4]
  have HAL4 := Lib.hid (show Bl w2 w4 from by rw [hw4]; exact HAL.out)
  clear hw4 HAL
  go_wp2_with fail
  have HS0 := Lib.hid (show SetIs Tryz.prog 3 4 (w4.alloc (.map #[] 0)) w4.heap.size 0 [] from World.ownsMap_made _ _ _ _)
  have HB5 := Lib.hid (HAL4.out.alloc (.map #[] 0))
  have HNE := Lib.hid HAL4.out.size
  have hml : w4.heap.size < (w4.alloc (.map #[] 0)).heap.size := by rw [alloc_size]; omega
  obtain ⟨w5, hw5⟩ : ∃ w5, w5 = w4.alloc (.map #[] 0) := ⟨_, rfl⟩
  rw [← hw5] at HS0 HB5 hml
  rw [← hw5]
  have HML := Lib.hid hml
  clear hw5 hml
  refine (hnow_any B m _ (HH2.out.bl HB5.out)).mono ?_
  rintro e w6 ⟨u6, rfl, hst, rfl⟩
  have HST := Lib.hid hst
  obtain ⟨b6, _, _, rfl, _⟩ := id hst
  clear hst
  go_wp2_with fail
  refine (ssectors_any _ m.now _ HST.out (by have := HM.out.1.1.1.1; omega) (by have := allOf_len HM.out.1.1; omega)).mono ?_
  rintro e w7 ⟨u7, rfl, hi, hb⟩
  obtain ⟨X, hX⟩ : ∃ X, X = sortedM (secO (rowsOf m.now)) := ⟨_, rfl⟩
  rw [← hX] at hi
  have HX := Lib.hid hX
  have hXl : X.length ≤ 6000 := by rw [hX]; have := sortedM_len (secO (rowsOf m.now)); have := secO_len HM.out.1.1; omega
  have HS7 := Lib.hid (HS0.out.bl hb)
  have HB7 := Lib.hid (HB5.out.bl hb)
  have HML7 := Lib.hid (Nat.lt_of_lt_of_le HML.out hb.size)
  obtain ⟨Ax, cx, rfl, _, _, _, hat⟩ := hi
  have HA := Lib.hid hat
  have HXr := Lib.hid (show ∀ x ∈ X, (Lit.int .i64 x).wf = true from by rw [hX]; exact sec_wf HM.out.1.1)
  clear hb hX hat HS0 HB5
  go_upto_block 0 with fail
  go_cut [] (fun wc => Hid (SetIs Tryz.prog 3 4 wc w4.heap.size X.length X) ∧ Hid (Bl w2 wc) ∧ Hid (w4.heap.size < wc.heap.size))
  case first =>
    go_wp2_with fail
    go_loopg [40] X.length (fun g i wr => ∃ k : Nat, k ≤ X.length ∧ g = X.length - k ∧ i = .int .i64 k ∧ Hid (SetIs Tryz.prog 3 4 wr w4.heap.size k (X.take k)) ∧ Hid (Bl w2 wr) ∧ Hid (Sub w7 wr) ∧ Hid (w4.heap.size < wr.heap.size))
    case atStart => exact ⟨0, by omega, rfl, rfl, HS7, HB7, Lib.hid (Sub.refl _), HML7⟩
    case round =>
      clear HS7 HB7 HML7
      obtain ⟨k, hk, rfl, rfl, HS, HB, HSub, HMl⟩ := hrel
      by_cases hlt : k < X.length
      · obtain ⟨ad, rfl, d0⟩ := int_at (HSub.out.at HA.out) k hlt
        have hwf := HXr.out X[k] (List.getElem_mem hlt)
        have HT := Lib.hid (List.take_succ_eq_append_getElem hlt)
        generalize X[k] = x at *
        go_wp2_with (first | (at_mapUpdate; refine wpList_mapUpdate_own _ rfl _ _ _ 35 rfl 3 4 (Maps.int_keyed Tryz.underlying3) Tryz.underlying35 _ w4.heap.size k _ rfl HS.out (by unfold maxLen; omega) _ _ _ rfl rfl (Maps.keyOf_int_mk Tryz.underlying3 hwf) _ [] (plainElem_bool Tryz.underlying4 true) ?_; intro w8 hown hgrow) | go_in)
        have HS8 := Lib.hid (show SetIs Tryz.prog 3 4 w8 w4.heap.size (k + 1) (X.take (k + 1)) by unfold SetIs; rw [HT.out, intSet_snoc]; exact hown)
        have HB8 := Lib.hid (HB.out.grown hgrow (fun q hq => by injection hq with hq; have := HNE.out; omega))
        have HSub8 := Lib.hid (HSub.out.trans (SetIs.sub HS.out hgrow))
        have HMl8 := Lib.hid (Nat.lt_of_lt_of_le HMl.out hgrow.size)
        clear hown hgrow
        go_wp2_with fail
        go_roundg (X.length - (k + 1))
        case measure => omega
        case rel => exact ⟨k + 1, by omega, rfl, by go_num, HS8, HB8, HSub8, HMl8⟩
      · obtain rfl : k = X.length := by omega
        have HS9 := Lib.hid (show SetIs Tryz.prog 3 4 wr w4.heap.size X.length X by have := HS.out; rwa [List.take_length] at this)
        go_wp2_with fail
        go_meet
        exact ⟨HS9, HB, HMl⟩
  case rest =>
  clear HS7 HB7 HML7 HA
  obtain ⟨HS, HB, HMl⟩ := hcut
  go_wp2_with fail
  have HGc := Lib.hid (HistIs.toG (HH2.out.bl HB.out)).cap
  have HMlc := Lib.hid HMl.out
  refine (hundo_G _ B m _ HGc.out HM.out.2.2.2.1).mono ?_
  rintro e w8 ⟨u8, us, rfl, ho8, hs8, hb8⟩
  have HO8 := Lib.hid ho8
  have HSU := Lib.hid hs8
  have hul : us.length ≤ 4 := by rw [hs8.1]; exact HM.out.2.2.2.1
  have HS8 := Lib.hid (HS.out.bl hb8)
  have HB8 := Lib.hid (HB.out.bl hb8)
  have HMl8 := Lib.hid (Nat.lt_of_lt_of_le HMl.out hb8.size)
  obtain ⟨Au, cu, rfl⟩ := ho8.slice
  have HWc := Lib.hid hb8.size
  have HC8 := Lib.hid hb8
  clear ho8 hs8 hb8 HS HMl
  go_wp2_with fail
  refine (hredo_G _ B m _ (HGc.out.bl HC8.out) HM.out.2.2.2.2).mono ?_
  rintro e w9 ⟨u9, rs, rfl, ho9, hs9, hb9⟩
  have HO9 := Lib.hid ho9.is
  have HSR := Lib.hid hs9
  have hrl : rs.length ≤ 4 := by rw [hs9.1]; exact HM.out.2.2.2.2
  have HS9 := Lib.hid (HS8.out.bl hb9)
  have HB9 := Lib.hid (HB8.out.bl hb9)
  have HC9 := Lib.hid (HC8.out.bl hb9)
  have HY := Lib.hid hb9
  have HO89 := Lib.hid (HO8.out.bl hb9)
  have HMl9 := Lib.hid (Nat.lt_of_lt_of_le HMl8.out hb9.size)
  obtain ⟨Ar, cr, rfl⟩ := ho9.slice
  have HWs := Lib.hid (Nat.le_trans HWc.out hb9.size)
  clear ho9 hs9 hb9 HS8 HO8
  go_upto_block 2 with (at_builtin; refine Enc.Own.append (E := ptrE) rfl (.tmp 48) (.tmp 50) 37 rfl wc.heap.size 33 (.pointer none) 1 8 Tryz.underlying37 infoPtr rfl rfl (by decide) (by decide) _ us rfl HO89.out _ rs rfl HO9.out ?hlen ?hbase ?_; (case hlen => omega); (case hbase => exact HWs.out); intro v1 w10 ho hg; obtain ⟨bs, hbs⟩ : ∃ bs, bs = us ++ rs := ⟨_, rfl⟩; rw [← hbs] at ho; have HBS := Lib.hid hbs; clear hbs; obtain ⟨A10, c10, rfl⟩ := id ho.slice)
  have HO10 := Lib.hid ho.is
  have HC10 := Lib.hid (HC9.out.grown hg (fun q hq => (HO89.out.lt q hq).1))
  have HB10 := Lib.hid (HB.out.bl HC10.out)
  have HS10 := Lib.hid (show SetIs Tryz.prog 3 4 w10 w4.heap.size X.length X from World.ownsMap.kept HS9.out hg (fun e => by have := (HO89.out.lt _ e.symm).1; have := HMlc.out; omega))
  have hSx := (Sub.bl (HC9.out.only (cap (fun b => decide (b ≠ B)) wc))).trans ((Sub.grown hg (G := cap (fun b => decide (b ≠ B)) wc) (fun q hq => cap_no (.inr (HO89.out.lt q hq).1))).trans (Sub.un _ _))
  have hSy := (Sub.bl (HY.out.only (cap (fun b => decide (b ≠ B)) wc))).trans ((Sub.grown hg (G := cap (fun b => decide (b ≠ B)) wc) (fun q hq => cap_no (.inr (HO89.out.lt q hq).1))).trans (Sub.un _ _))
  have HSS := Lib.hid (SRows.append (SRows.sub hSx HSU.out) (SRows.sub hSy HSR.out))
  obtain ⟨L, hL⟩ : ∃ L, L = m.undo ++ m.redo := ⟨_, rfl⟩
  rw [← hL, ← HBS.out] at HSS
  have HLe := Lib.hid hL
  have HLo := Lib.hid (show ∀ s ∈ L, SOK s from fun s hs => HALL.out s (by rw [hL] at hs; simp [allH]; simp at hs; exact .inr hs))
  have HBL := Lib.hid HSS.out.1
  have hbl : bs.length ≤ 8 := by rw [HBS.out, List.length_append]; omega
  obtain ⟨_, _, e10, _, _, _, hat⟩ := HO10.out
  simp at e10
  obtain ⟨rfl, e11⟩ := e10
  clear e11
  have HA := Lib.hid hat
  have HM10 := Lib.hid (Nat.lt_of_lt_of_le HMl9.out hg.size)
  clear ho hg hat hL HS9 HO89 HB9 HMl9 hSx hSy HO9
  have HXX := Lib.hid hXl
  clear hXl
  go_cut [] (fun wc => ∃ n, Hid (SetIs Tryz.prog 3 4 wc w4.heap.size n (X ++ accS L)) ∧ Hid (Bl w2 wc))
  case first =>
    go_wp2_with fail
    go_loopg [53, 12, 14, 54, 55, 56, 57, 58, 59, 60, 61, 62, 63, 64, 65, 66, 67, 68, 69] bs.length (fun g i v12 v14 v54 v55 v56 v57 v58 v59 v60 v61 v62 v63 v64 v65 v66 v67 v68 v69 wr => ∃ k n : Nat, k ≤ bs.length ∧ g = bs.length - k ∧ i = .int .i64 k ∧ n ≤ 6000 + 6000 * k ∧ Hid (SetIs Tryz.prog 3 4 wr w4.heap.size n (X ++ accS (L.take k))) ∧ Hid (Bl w2 wr) ∧ Hid (Sub w10 wr) ∧ Hid (w4.heap.size < wr.heap.size))
    case atStart => exact ⟨0, X.length, by omega, rfl, rfl, by have := HXX.out; omega, Lib.hid (by have := HS10.out; simpa [accS] using this), HB10, Lib.hid (Sub.refl _), HM10⟩
    case round =>
      clear HS10 HB10 HM10
      obtain ⟨k, n, hk, rfl, rfl, hn, HS, HB, HSub, HMl⟩ := hrel
      by_cases hlt : k < bs.length
      · have hks : k < L.length := by have := HBL.out; omega
        obtain ⟨ad, rfl, d0⟩ := ptr_at (HSub.out.at HA.out) k hlt
        have HST := Lib.hid (HSub.out.state (HSS.out.2 k _ _ (List.getElem?_eq_getElem hks) (List.getElem?_eq_getElem hlt)))
        have HOKs := Lib.hid (HLo.out _ (List.getElem_mem hks))
        have HT := Lib.hid (accS_take L k hks)
        generalize bs[k] = b at *
        generalize L[k] = s at *
        go_wp2_with fail
        refine (ssectors_any _ s _ HST.out (by have := HOKs.out.1.1; omega) (by have := allOf_len HOKs.out; omega)).mono ?_
        rintro e w11 ⟨u11, rfl, hi, hb⟩
        obtain ⟨Y, hY⟩ : ∃ Y, Y = sortedM (secO (rowsOf s)) := ⟨_, rfl⟩
        rw [← hY] at hi
        have hYl : Y.length ≤ 6000 := by rw [hY]; have := sortedM_len (secO (rowsOf s)); have := secO_len HOKs.out; omega
        have HYr := Lib.hid (show ∀ x ∈ Y, (Lit.int .i64 x).wf = true from by rw [hY]; exact sec_wf HOKs.out)
        have HT' := Lib.hid (show accS (L.take (k + 1)) = accS (L.take k) ++ Y by rw [HT.out, hY])
        have HS1 := Lib.hid (HS.out.bl hb)
        have HB1 := Lib.hid (HB.out.bl hb)
        have HSub1 := Lib.hid (HSub.out.trans (Sub.bl hb))
        have HMl1 := Lib.hid (Nat.lt_of_lt_of_le HMl.out hb.size)
        obtain ⟨Ay, cy, rfl, _, _, _, hat⟩ := hi
        have HAy := Lib.hid hat
        clear hb hY hat HS HB HSub HMl HT d0
        go_wp2_with fail
        go_loopg [62, 14] Y.length (fun g i v14 wr => ∃ j : Nat, j ≤ Y.length ∧ g = Y.length - j ∧ i = .int .i64 j ∧ Hid (SetIs Tryz.prog 3 4 wr w4.heap.size (n + j) (X ++ accS (L.take k) ++ Y.take j)) ∧ Hid (Bl w2 wr) ∧ Hid (Sub w11 wr) ∧ Hid (w4.heap.size < wr.heap.size))
        case atStart => exact ⟨0, by omega, rfl, rfl, Lib.hid (by have := HS1.out; simpa using this), HB1, Lib.hid (Sub.refl _), HMl1⟩
        case round =>
          clear HS1 HB1 HMl1
          obtain ⟨j, hj, rfl, rfl, HS, HB, HSub, HMl⟩ := hrel
          by_cases hltj : j < Y.length
          · obtain ⟨ad', rfl, d0⟩ := int_at (HSub.out.at HAy.out) j hltj
            have hwf := HYr.out Y[j] (List.getElem_mem hltj)
            have HTy := Lib.hid (List.take_succ_eq_append_getElem hltj)
            generalize Y[j] = x at *
            go_wp2_with (first | (at_mapUpdate; refine wpList_mapUpdate_own _ rfl _ _ _ 35 rfl 3 4 (Maps.int_keyed Tryz.underlying3) Tryz.underlying35 _ w4.heap.size (n + j) _ rfl HS.out (by unfold maxLen; omega) _ _ _ rfl rfl (Maps.keyOf_int_mk Tryz.underlying3 hwf) _ [] (plainElem_bool Tryz.underlying4 true) ?_; intro w8 hown hgrow) | go_in)
            have HS8 := Lib.hid (show SetIs Tryz.prog 3 4 w8 w4.heap.size (n + (j + 1)) (X ++ accS (L.take k) ++ Y.take (j + 1)) by unfold SetIs; rw [HTy.out, ← List.append_assoc, intSet_snoc]; exact hown)
            have HB8 := Lib.hid (HB.out.grown hgrow (fun q hq => by injection hq with hq; have := HNE.out; omega))
            have HSub8 := Lib.hid (HSub.out.trans (SetIs.sub HS.out hgrow))
            have HMl8 := Lib.hid (Nat.lt_of_lt_of_le HMl.out hgrow.size)
            clear hown hgrow
            go_wp2_with fail
            go_roundg (Y.length - (j + 1))
            case measure => omega
            case rel => exact ⟨j + 1, by omega, rfl, by go_num, HS8, HB8, HSub8, HMl8⟩
          · obtain rfl : j = Y.length := by omega
            have HS9 := Lib.hid (show SetIs Tryz.prog 3 4 wr w4.heap.size (n + Y.length) (X ++ accS (L.take (k + 1))) by have := HS.out; rw [List.take_length, List.append_assoc, ← HT'.out] at this; exact this)
            have HSub9 := Lib.hid (HSub1.out.trans HSub.out)
            go_wp2_with fail
            go_roundg (bs.length - (k + 1))
            case measure => omega
            case rel => exact ⟨k + 1, n + Y.length, by omega, rfl, by go_num, by omega, HS9, HB, HSub9, HMl⟩
      · have HS9 := Lib.hid (show SetIs Tryz.prog 3 4 wr w4.heap.size n (X ++ accS L) by have := HS.out; rwa [List.take_of_length_le (by have := HBL.out; omega)] at this)
        go_wp2_with fail
        go_meet
        exact ⟨n, HS9, HB⟩
  case rest =>
  clear HS10 HB10 HM10 HA HC8 HC9 HC10 HSS HB8 HWc HWs HMl8 HMlc HSU HSR HGc HO10 HB
  obtain ⟨n, HS, HB⟩ := hcut
  have HALLe := Lib.hid (show X ++ accS L = accS (allH m) by rw [HX.out, HLe.out]; simp [accS, allH])
  go_wp2_with fail
  refine (hsect_any B m _ (HH2.out.bl HB.out) HALL.out HM.out.2.2.2.1 HM.out.2.2.2.2).mono ?_
  rintro e w12 ⟨u12, rfl, hi, hb⟩
  obtain ⟨Z, hZ⟩ : ∃ Z, Z = sortedM (secS (allH m)) := ⟨_, rfl⟩
  rw [← hZ] at hi
  obtain ⟨Q, hQ⟩ : ∃ Q, Q = X ++ accS L := ⟨_, rfl⟩
  have HS1 := Lib.hid (show SetIs Tryz.prog 3 4 w12 w4.heap.size n Q by rw [hQ]; exact HS.out.bl hb)
  have HB1 := Lib.hid (HB.out.bl hb)
  have HZr := Lib.hid (show Z.Pairwise (· < ·) from by rw [hZ]; exact (sortedM_spec _).1)
  have HZm := Lib.hid (show ∀ x ∈ Z, x ∈ Q from fun x hx => by rw [hQ, HALLe.out, accS_mem]; rw [hZ] at hx; exact ((sortedM_spec _).2 x).1 hx)
  have HZs := Lib.hid (show Maps.size (intSet Q) = Z.length by rw [intSet_size, hQ, HALLe.out, accS_sorted, hZ])
  have HZw := Lib.hid (show ∀ x ∈ Z, (Lit.int .i64 x).wf = true from fun x hx => by
    have h1 := HZm.out x hx
    rw [hQ, HALLe.out] at h1
    unfold accS at h1
    obtain ⟨s, hs, h2⟩ := List.mem_flatMap.1 h1
    exact sec_wf (HALL.out s hs) x h2)
  have hzl : Z.length ≤ 60000 := by
    rw [hZ]
    have h1 := sortedM_len (secS (allH m))
    have h2 := accS_len2 HALL.out (by simp [allH]; have := HM.out.2.2.2; omega)
    rw [← accS_sorted]
    have := sortedM_len (accS (allH m))
    omega
  obtain ⟨Az, cz, rfl, _, _, _, hat⟩ := hi
  have HA := Lib.hid hat
  have HZL := Lib.hid hzl
  clear hb hat hZ hQ HS HB HALLe HX HLe hbl HLo HXr
  go_wp2_with fail
  go_loopg [74, 16] Z.length (fun g i v16 wr => ∃ k : Nat, k ≤ Z.length ∧ g = Z.length - k ∧ i = .int .i64 k ∧ wr.drewN 0 = wr ∧ Hid (SetIs Tryz.prog 3 4 wr w4.heap.size n Q) ∧ Hid (Bl w12 wr))
  case atStart => exact ⟨0, by omega, rfl, rfl, rfl, HS1, Lib.hid (Bl.refl _)⟩
  case round =>
    obtain ⟨k, hk, rfl, rfl, _, HS, HB⟩ := hrel
    by_cases hlt : k < Z.length
    · obtain ⟨ad, rfl, d0⟩ := int_at (HA.out.bl HB.out) k hlt
      have hlook := fun (w' : World) (hb : Bl wr w') => (HS.out.bl hb).look Tryz.underlying35 Tryz.underlying3 Tryz.underlying4 (zeroB w') (HZm.out Z[k] (List.getElem_mem hlt)) (HZw.out Z[k] (List.getElem_mem hlt))
      have HLK := Lib.hid (hlook _ (Bl.refl wr).drew)
      clear hlook
      rcases Nat.eq_zero_or_pos k with hz | hpos
      · have hz1 : decide ((0 : Int) < k) = false := decide_eq_false (by omega)
        have hz2 : decide (0 < k) = false := decide_eq_false (by omega)
        clear hz
        generalize Z[k] = x at *
        go_wp2_with fail
        refine wp_region_ways (S := (fun w' => w'.cell? (ad.add k) = some (.int .i64 x) ∧ (Instr.lookup 35 (.map (some w4.heap.size)) (.int .i64 x) false).run Tryz.prog w' = .ok (.bool true) w')) [0, 1, 2, 3, 4, 6, 7, 8, 9, 10, 11, 12, 13, 14, 15, 16, 17, 18, 19, 20, 21, 22] (y := .take 0 (.take 1 (.take 2 (.take 3 (.take 4 (.ev 5 (.take 6 (.take 7 (.take 8 (.take 9 (.take 10 (.take 11 (.take 12 (.take 13 (.take 14 (.take 15 (.take 16 (.take 17 (.take 18 (.take 19 (.take 20 (.take 21 (.take 22 (.done)))))))))))))))))) (.stop))))))) (by kernel_rfl) (by kernel_rfl) (by kernel_rfl) ?_ (fun hHeld => ?_)
        · exact ⟨(Bl.refl _).drew.cell d0, HLK.out⟩
        have HHe := Lib.hid hHeld
        clear hHeld d0
        repeat (first | (refine wpWay_take rfl (by rfl) (by intro w hSw; (try dsimp only at hSw); first | (go_simp; done) | (go_simp; with_reducible rfl)) ?_; try simp only [Act.put, List.setIfInBounds_toArray, List.set_cons_zero, List.set_cons_succ]) | (refine wpWay_skip rfl (by rfl) ?_; try simp only [Act.put, List.setIfInBounds_toArray, List.set_cons_zero, List.set_cons_succ]))
        refine wpWay_ev rfl (fun K hK => ?_) wpWay_stop
        have hlk := HLK.out
        go_wp2_with fail
        refine ⟨HHe.out, ?_⟩
        repeat (first | (refine wpWay_take rfl (by rfl) (by intro w hSw; (try dsimp only at hSw); first | (go_simp; done) | (go_simp; with_reducible rfl)) ?_; try simp only [Act.put, List.setIfInBounds_toArray, List.set_cons_zero, List.set_cons_succ]) | (refine wpWay_skip rfl (by rfl) ?_; try simp only [Act.put, List.setIfInBounds_toArray, List.set_cons_zero, List.set_cons_succ]))
        refine wpWay_done ?_
        have HSn := Lib.hid (show SetIs Tryz.prog 3 4 wr.drew w4.heap.size n Q from HS.out.bl (Bl.refl wr).drew)
        have HBn := Lib.hid HB.out.drew
        clear hlk
        go_wp2_with fail
        go_roundg (Z.length - (k + 1))
        case measure => omega
        case rel => exact ⟨k + 1, by omega, rfl, by go_num, rfl, HSn, HBn⟩
      · have HLT := Lib.hid (show Z[k - 1]'(by omega) < Z[k] from List.pairwise_iff_getElem.1 HZr.out (k - 1) k (by omega) hlt (by omega))
        obtain ⟨ad', hade, d1⟩ := int_at (HA.out.bl HB.out) (k - 1) (by omega)
        obtain rfl : ad = ad' := by injection hade
        have hpos1 : (0 : Int) < k := by omega
        have hz : ((k : Int) - 1).toNat = k - 1 := by omega
        have hz1 : (0 : Int) ≤ (k : Int) - 1 := by omega
        have hz2 : (k : Int) - 1 < Z.length := by omega
        have hz3 : (1 : Int) ≤ k := by omega
        have hw : IntKind.i64.wrap ((k : Int) - 1) = (k : Int) - 1 := IntWalk.i64_in _ (by have := HZL.out; omega)
        have hle := HLT.out
        generalize Z[k] = x at *
        generalize Z[k - 1]'(by omega) = y at *
        have hle2 : ¬ x ≤ y := by omega
        clear hade
        go_wp2_with fail
        refine wp_region_ways (S := (fun w' => w'.cell? (ad.add k) = some (.int .i64 x) ∧ w'.cell? (ad.add (k - 1)) = some (.int .i64 y) ∧ (Instr.lookup 35 (.map (some w4.heap.size)) (.int .i64 x) false).run Tryz.prog w' = .ok (.bool true) w')) [0, 1, 2, 3, 4, 6, 7, 8, 9, 10, 11, 12, 13, 14, 15, 16, 17, 18, 19, 20, 21, 22] (y := .take 0 (.take 1 (.take 2 (.take 3 (.take 4 (.ev 5 (.take 6 (.take 7 (.take 8 (.take 9 (.take 10 (.take 11 (.take 12 (.take 13 (.take 14 (.take 15 (.take 16 (.take 17 (.take 18 (.take 19 (.take 20 (.take 21 (.take 22 (.done)))))))))))))))))) (.stop))))))) (by kernel_rfl) (by kernel_rfl) (by kernel_rfl) ?_ (fun hHeld => ?_)
        · exact ⟨(Bl.refl _).drew.cell d0, (Bl.refl _).drew.cell d1, HLK.out⟩
        have HHe := Lib.hid hHeld
        clear hHeld d0 d1
        repeat (first | (refine wpWay_take rfl (by rfl) (by intro w hSw; (try dsimp only at hSw); first | (go_simp; done) | (go_simp; with_reducible rfl)) ?_; try simp only [Act.put, List.setIfInBounds_toArray, List.set_cons_zero, List.set_cons_succ]) | (refine wpWay_skip rfl (by rfl) ?_; try simp only [Act.put, List.setIfInBounds_toArray, List.set_cons_zero, List.set_cons_succ]))
        refine wpWay_ev rfl (fun K hK => ?_) wpWay_stop
        have hlk := HLK.out
        go_wp2_with fail
        refine ⟨HHe.out, ?_⟩
        repeat (first | (refine wpWay_take rfl (by rfl) (by intro w hSw; (try dsimp only at hSw); first | (go_simp; done) | (go_simp; with_reducible rfl)) ?_; try simp only [Act.put, List.setIfInBounds_toArray, List.set_cons_zero, List.set_cons_succ]) | (refine wpWay_skip rfl (by rfl) ?_; try simp only [Act.put, List.setIfInBounds_toArray, List.set_cons_zero, List.set_cons_succ]))
        refine wpWay_done ?_
        have HSn := Lib.hid (show SetIs Tryz.prog 3 4 wr.drew w4.heap.size n Q from HS.out.bl (Bl.refl wr).drew)
        have HBn := Lib.hid HB.out.drew
        clear hlk
        go_wp2_with fail
        go_roundg (Z.length - (k + 1))
        case measure => omega
        case rel => exact ⟨k + 1, by omega, rfl, by go_num, rfl, HSn, HBn⟩
    · obtain rfl : k = Z.length := by omega
      have HSZ := HZs.out
      go_wp2_with (first | (at_len; refine wpList_len_own _ rfl _ 35 rfl 3 4 Tryz.underlying35 _ w4.heap.size n (intSet Q) rfl HS.out ?_) | fail)
      have HBw2 := Lib.hid (HB1.out.bl HB.out)
      clear HSZ
      refine (hnow_any B m _ (HH2.out.bl HBw2.out)).mono ?_
      rintro e w13 ⟨u13, rfl, hst, rfl⟩
      have HSt := Lib.hid hst
      obtain ⟨b13, _, _, rfl, _⟩ := id hst
      clear hst
      go_wp2_with fail
      refine (lines22_any B m _ (HH2.out.bl HBw2.out) HM.out.1.1).mono ?_
      rintro e w14 ⟨u14, rfl, hln, hb⟩
      have HLn := Lib.hid hln
      obtain ⟨A14, c14, rfl⟩ := hln.slice
      have HB14 := Lib.hid (HBw2.out.bl hb)
      have HSt14 := Lib.hid (HSt.out.bl hb)
      generalize hnl : (rowsOf m.now).length = nl at *
      have HNL := Lib.hid hnl
      clear hln hb hnl
      go_wp2_with fail
      refine (same21_any _ _ m.now _ HSt14.out HLn.out HM.out.1).mono ?_
      rintro e w15 ⟨rfl, hb⟩
      have HB15 := Lib.hid (HB14.out.bl hb)
      clear hb
      go_wp2_with fail
      refine (wakes22_any _).mono ?_
      rintro e w16 ⟨rfl, hb⟩
      have HB16 := Lib.hid (HB2.out.bl (HB15.out.bl hb))
      clear hb
      go_wp2_with fail
      go_ret
      exact ⟨rfl, HB16.out⟩
end Go.Proofs.YtddcjekkimajpaaGreat.ExtW
