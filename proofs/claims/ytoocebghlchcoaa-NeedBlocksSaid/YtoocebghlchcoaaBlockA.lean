/- Contracts of block.Coder: Pack, All. -/
import Derived.Test.YtoocebghlchcoaaBlockW
namespace Go.Proofs.Ytoocebghlchcoaa.ExtW
open Go.RowKit Go.Ov Go.Proofs.Ytoocebghlchcoaa.Need
theorem chk_take {x : List Int} (h : x.all okS = true) {m : Nat} (hm : m ≤ 64) : chkM (x.take m) = 0 := by
  unfold chkM
  rw [if_pos (by rw [List.all_eq_true] at h ⊢; exact fun v hv => h v (List.mem_of_mem_take hv)), if_neg (by rw [List.length_take]; omega)]
theorem pack_ok (bs : List Bool) : okB (packB bs) := fun c hc => by
  obtain ⟨i, hi, rfl⟩ := List.getElem_of_mem hc
  rw [packB_at]
  have := byteAt_lt bs i
  omega
theorem frame_len {x : List Int} {bs : List Bool} (h : FrameOf x bs) : 16 ≤ bs.length := by
  cases h <;> simp only [List.length_append, numB_len] <;> omega

set_option maxRecDepth 100000 in
set_option maxHeartbeats 1000000 in
theorem kpack_any (C B : Nat) (vx : Value) (x : List Int) (w : World) (h : CodSt w C B) (hx : intE.Is (only w (nb2 C B)) vx x) (hn : x.length ≤ 1000000) (h1 : 1 ≤ x.length) (hs : x.all okS = true) :
    Calls Try.prog 12 #[.pointer (some ⟨C, 0, none⟩), vx] w fun e w' => ∃ u s, ∃ m : Nat, e = .returned (.tuple #[u, .int .i64 m, .int .i64 0]) ∧ 1 ≤ m ∧ m ≤ x.length ∧ m ≤ 64 ∧ (40 ≤ m ∨ m = x.length) ∧ BlockOf (x.take m) s ∧ byteE.Own 5 w' w.heap.size u s ∧ CodSt w' C B ∧ Kp (nb2 C B) w w' := by
  have HC := Lib.hid h
  have HX := Lib.hid hx
  have HS := Lib.hid hs
  have HI := Lib.hid ((Sub.un _ _).is hx)
  obtain ⟨A, c, rfl, h2, h3, h4, h5⟩ := hx
  have HCP := Lib.hid h2
  have hx0 : ¬ (x.length : Int) = 0 := by omega
  have hxn : ¬ x = [] := fun e => by rw [e] at h1; simp at h1
  clear h h2 h3 h4 h5 hs
  obtain ⟨M, hM⟩ : ∃ M, M = min x.length 64 := ⟨_, rfl⟩
  have hmin : min (x.length : Int) 64 = (M : Int) := by omega
  have hM1 : 1 ≤ M ∧ M ≤ x.length ∧ M ≤ 64 ∧ (64 ≤ M ∨ M = x.length) := by omega
  clear hM
  go_enter Try.func12, Try.ntmps12
  go_wp2_with fail
  refine (kright_any _ x _ HI.out hn).mono ?_
  rintro e w' ⟨rfl, rfl⟩
  rw [HS.out]
  have hsl : ∀ m : Nat, m ≤ x.length → ∃ V, (∀ w, (Instr.slice 22 (.slice A x.length c) none (some (.int .i64 m)) none).run Try.prog w = .ok V w) ∧ ∀ w, intE.Is w (.slice A x.length c) x → intE.Is w V (x.take m) := fun m hm => by
    have := slice_h (E := intE) (P := Try.prog) (t := 22) (by kernel_rfl) (fun w => by kernel_rfl) A c x (m : Int) (by omega) (by omega) HCP.out
    simpa using this
  obtain ⟨V2, hV2, hI2⟩ := hsl M hM1.2.1
  have HV := Lib.hid (hI2 _ HI.out)
  have HSL := Lib.hid hsl
  clear hI2 hsl
  go_wp2_with fail
  refine (fenc_any _ (x.take M) _ HV.out (chk_take HS.out hM1.2.2.1) (by rw [List.length_take]; omega)).mono ?_
  rintro e w1 ⟨u1, bs1, rfl, hb1, ho1, hf1, hl1⟩
  have HB1 := Lib.hid hb1
  have HO1 := Lib.hid ho1
  have HF1 := Lib.hid hf1
  have HL1 := Lib.hid hl1
  clear hb1 ho1 hf1 hl1
  go_wp2_with fail
  go_loopg [7, 8] M (fun gk vm vb wr => ∃ (m : Nat) (bs : List Bool), 1 ≤ m ∧ m ≤ M ∧ gk = m ∧ (40 ≤ m ∨ m = x.length) ∧ vm = .int .i64 m ∧ Hid (byteE.Own 5 wr w'.heap.size vb (packB bs)) ∧ Hid (FrameOf (x.take m) bs) ∧ Hid (bs.length ≤ verbLen (x.take m).length) ∧ Hid (Bl w' wr))
  case atStart => exact ⟨M, bs1, by omega, by omega, rfl, by omega, rfl, HO1, HF1, HL1, HB1⟩
  clear HO1 HF1 HL1 HB1 hV2 HV
  case round =>
    obtain ⟨m, bs, hm1, hmM, hgk, hm40, rfl, HO, HF, HL, HB⟩ := hrel
    have HPL := Lib.hid (packB_len bs)
    have hbl : bs.length ≤ 2000 := by have := HL.out; unfold verbLen at this; rw [List.length_take] at this; omega
    obtain ⟨P, hP⟩ : ∃ P, P = packB bs := ⟨_, rfl⟩
    rw [← hP] at HO HPL
    have HP := Lib.hid hP
    clear hP
    obtain ⟨A2, c2, rfl⟩ := HO.out.slice
    rcases (show (124 : Int) < P.length ∨ ¬ (124 : Int) < P.length by omega) with hbig | hsm
    · have hm41 : 41 ≤ m := by
        have := HL.out
        have h2 := HPL.out
        unfold verbLen at this
        rw [List.length_take] at this
        omega
      have hw1 : IntKind.i64.wrap ((m : Int) - 1) = ((m - 1 : Nat) : Int) := by rw [IntWalk.i64_in _ (by omega)]; omega
      have hme : (m : Int) - 1 = ((m - 1 : Nat) : Int) := by omega
      obtain ⟨V3, hV3, hI3⟩ := HSL.out (m - 1) (by omega)
      have HV3 := Lib.hid (hI3 _ (HI.out.bl HB.out))
      generalize hmm : m - 1 = m2 at *
      have hm2 : 40 ≤ m2 ∧ m2 ≤ 64 ∧ m2 < m ∧ m2 < x.length := by omega
      clear hI3 hmm
      go_wp2_with fail
      refine (fenc_any _ (x.take m2) _ HV3.out (chk_take HS.out hm2.2.1) (by rw [List.length_take]; omega)).mono ?_
      rintro e w2 ⟨u2, bs2, rfl, hb2, ho2, hf2, hl2⟩
      have HB2 := Lib.hid (HB.out.trans hb2)
      have HO2 := Lib.hid (ho2.low HB.out.size)
      have HF2 := Lib.hid hf2
      have HL2 := Lib.hid hl2
      clear hb2 ho2 hf2 hl2
      go_wp2_with fail
      go_roundg m2
      case measure => omega
      case rel => exact ⟨m2, bs2, by omega, by omega, rfl, .inl hm2.1, rfl, HO2, HF2, HL2, HB2⟩
    · have hPl : P.length ≤ 124 := by omega
      have HX3 := Lib.hid (HO.out.isM (G := nb2 C B) (fun k hk => nb2_iff.2 (by have := HC.out.lt; omega)))
      have hPn : P ≠ [] := fun e => by
        have h1 := HPL.out
        have h2 := frame_len HF.out
        rw [e] at h1
        simp at h1; omega
      have HPN := Lib.hid hPn
      have HPO := Lib.hid (show okB P by rw [HP.out]; exact pack_ok bs)
      clear hPn
      go_wp2_with fail
      refine (kseal_any C B _ P _ (HC.out.bl HB.out) HX3.out hPl HPO.out HPN.out).mono ?_
      rintro e w3 ⟨u3, rfl, ho3, hc3, hk3⟩
      have HO3 := Lib.hid ho3
      have HC3 := Lib.hid hc3
      have HK3 := Lib.hid ((Kp.of_bl HB.out).trans hk3)
      clear ho3 hc3 hk3
      go_wp2_with fail
      go_ret3
      refine ⟨u3, sealM P, m, rfl, hm1, by omega, by omega, hm40, ⟨bs, HF.out, by rw [← HP.out]; exact hPl, by rw [HP.out]⟩, HO3.out.low HB.out.size, HC3.out, HK3.out⟩

/-- blocks of samples, one behind the other, and how many samples each has -/
inductive AllR : List Int → List (List Int) → List Int → Prop
  | nil : AllR [] [] []
  | cons {x : List Int} {s : List Int} {ls : List (List Int)} {cs : List Int} (m : Nat) (h1 : 1 ≤ m) (h2 : m ≤ x.length) (h3 : m ≤ 64) (h4 : 40 ≤ m ∨ m = x.length) (hb : BlockOf (x.take m) s) (hr : AllR (x.drop m) ls cs) : AllR x (s :: ls) (m :: cs)
theorem AllR.bound {x : List Int} {ls : List (List Int)} {cs : List Int} (h : AllR x ls cs) : ls.length ≤ blocksM x.length := by
  induction h with
  | nil => simp [blocksM]
  | cons m h1 h2 h3 h4 hb hr ih =>
    rw [List.length_cons]
    rw [List.length_drop] at ih
    exact blocks_step _ m _ h2 h4 (by omega) ih
theorem infoHead : (Try.prog.info? 44).map (fun i => (i.zero, i.size, i.bytes)) = some (some (.slice none 0 0), 1, 24) := by kernel_rfl
def AllP (w w' : World) (C B : Nat) (x : List Int) (u uc : Value) : Prop := ∃ hs ls cs, headE.Own 44 w' w.heap.size u hs ∧ intE.Own 3 w' w.heap.size uc cs ∧ BRows (only w' (frn w [u.ownBlock, uc.ownBlock, some C, some B])) hs ls ∧ AllR x ls cs ∧ CodSt w' C B ∧ Kp (nb2 C B) w w'
/-- what stands while blocks are packed one behind the other -/
structure KS (w0 w : World) (C B : Nat) (u uc : Value) (hs hr : List Head) (ls : List (List Int)) (cs : List Int) : Prop where
  o : headE.Own 44 w w0.heap.size u hs
  c : intE.Own 3 w w0.heap.size uc cs
  r : BRows (only w (frn w0 [u.ownBlock, uc.ownBlock, some C, some B])) hr ls
  k : CodSt w C B
  s : Kp (nb2 C B) w0 w
  lt : C < w0.heap.size ∧ B < w0.heap.size
theorem KS.bl {w0 w w1 : World} {C B : Nat} {u uc : Value} {hs hr : List Head} {ls : List (List Int)} {cs : List Int} (h : KS w0 w C B u uc hs hr ls cs) (hb : Bl w w1) : KS w0 w1 C B u uc hs hr ls cs :=
  ⟨h.o.bl hb, h.c.bl hb, h.r.sub (Sub.bl (hb.only _)), h.k.bl hb, h.s.trans (Kp.of_bl hb), h.lt⟩
theorem CodSt.gb {w w1 : World} {C B : Nat} (h : CodSt w C B) {row : Option Nat} (hg : w.grownBy w1 row) (hC : row ≠ some C) (hB : row ≠ some B) : CodSt w1 C B := by
  obtain ⟨s, o, hk⟩ := h.cod
  refine ⟨⟨s, o, hk.grown hg hC⟩, ?_⟩
  rcases h.tab with h | h
  · exact .inl (h.grown hg hB)
  · exact .inr (h.grown hg hB)
theorem own_far {α : Type} {E : Enc α} {e : TypeId} {w : World} {base : Nat} {v : Value} {xs : List α} (h : E.Own e w base v xs) {C : Nat} (hC : C < base) : v.ownBlock ≠ some C := fun q => by have := (h.lt C q).1; omega
theorem KS.app1 {w0 w w1 : World} {C B : Nat} {u uc u1 : Value} {hs hr hs1 : List Head} {ls : List (List Int)} {cs : List Int} (h : KS w0 w C B u uc hs hr ls cs)
    (ho : headE.Own 44 w1 w0.heap.size u1 hs1) (hg : w.grownBy w1 u.ownBlock) (hl : Lies w u.ownBlock u1.ownBlock) (hne : uc.ownBlock = none ∨ uc.ownBlock ≠ u.ownBlock) : KS w0 w1 C B u1 uc hs1 hr ls cs := by
  have hC := own_far h.o h.lt.1
  have hB := own_far h.o h.lt.2
  refine ⟨ho, h.c.grown hg hne, h.r.sub ?_, h.k.gb hg hC hB, h.s.grown hg (fun k hk => (h.o.lt k hk).1), h.lt⟩
  refine (Kp.of_gb hg (fun k hk => nbs_not (by rw [← hk]; simp))).stepF fun o ho => ?_
  simp only [List.mem_cons, List.not_mem_nil, or_false] at ho
  rcases ho with rfl | ho | ho | ho
  · exact hl.step _ (by simp)
  · exact .inl (by simp [ho])
  · exact .inl (by simp [ho])
  · exact .inl (by simp [ho])
theorem KS.app2 {w0 w w1 : World} {C B : Nat} {u uc u1 : Value} {hs hr : List Head} {ls : List (List Int)} {cs cs1 : List Int} (h : KS w0 w C B u uc hs hr ls cs)
    (ho : intE.Own 3 w1 w0.heap.size u1 cs1) (hg : w.grownBy w1 uc.ownBlock) (hl : Lies w uc.ownBlock u1.ownBlock) (hne : u.ownBlock = none ∨ u.ownBlock ≠ uc.ownBlock) : KS w0 w1 C B u u1 hs hr ls cs1 := by
  have hC := own_far h.c h.lt.1
  have hB := own_far h.c h.lt.2
  refine ⟨h.o.grown hg hne, ho, h.r.sub ?_, h.k.gb hg hC hB, h.s.grown hg (fun k hk => (h.c.lt k hk).1), h.lt⟩
  refine (Kp.of_gb hg (fun k hk => nbs_not (by rw [← hk]; simp))).stepF fun o ho => ?_
  simp only [List.mem_cons, List.not_mem_nil, or_false] at ho
  rcases ho with ho | rfl | ho | ho
  · exact .inl (by simp [ho])
  · exact hl.step _ (by simp)
  · exact .inl (by simp [ho])
  · exact .inl (by simp [ho])
/-- rows of two kinds never share a block -/
theorem own_two {α β : Type} {E : Enc α} {F : Enc β} {e f : TypeId} {w : World} {b1 b2 : Nat} {u v : Value} {xs : List α} {ys : List β} (h : E.Own e w b1 u xs) (k : F.Own f w b2 v ys) (hne : e ≠ f) : u.ownBlock = none ∨ u.ownBlock ≠ v.ownBlock := by
  rcases h.2 with ⟨rfl, _⟩ | ⟨g, cap, cur, rfl, _, h3, _⟩
  · exact .inl rfl
  · refine .inr fun q => ?_
    rcases k.2 with ⟨rfl, _⟩ | ⟨g', cap', cur', rfl, _, k3, _⟩
    · cases q
    · obtain rfl : g = g' := Option.some.inj q
      rw [h3] at k3
      injection k3 with k3
      injection k3 with _ k3 _
      exact hne k3
set_option maxRecDepth 100000 in
set_option maxHeartbeats 1000000 in
theorem kall_any (C B : Nat) (vx : Value) (x : List Int) (w : World) (h : CodSt w C B) (hx : intE.Is (only w (nb2 C B)) vx x) (hn : x.length ≤ 1000000) (hs : x.all okS = true) :
    Calls Try.prog 6 #[.pointer (some ⟨C, 0, none⟩), vx] w fun e w' => ∃ u uc, e = .returned (.tuple #[u, uc, .int .i64 0]) ∧ AllP w w' C B x u uc := by
  have HC := Lib.hid h
  have HX := Lib.hid hx
  have HS := Lib.hid hs
  have HI := Lib.hid ((Sub.un _ _).is hx)
  obtain ⟨A, c, rfl, h2, h3, h4, h5⟩ := hx
  clear h h2 h3 h4 h5 hs
  go_enter Try.func6, Try.ntmps6
  go_wp2_with fail
  refine (kright_any _ x _ HI.out hn).mono ?_
  rintro e w' ⟨rfl, rfl⟩
  rw [HS.out]
  go_wp2_with fail
  go_loopg [1, 7, 8] x.length (fun gk vr vo vc wr => ∃ (d : Nat) (hs : List Head) (ls : List (List Int)) (cs : List Int), d ≤ x.length ∧ gk = x.length - d ∧ hs.length ≤ d ∧ cs.length ≤ d ∧ Hid (intE.Is (only w' (nb2 C B)) vr (x.drop d)) ∧ Hid (∀ ls' cs', AllR (x.drop d) ls' cs' → AllR x (ls ++ ls') (cs ++ cs')) ∧ Hid (KS w' wr C B vo vc hs hs ls cs))
  case atStart => exact ⟨0, [], [], [], by omega, rfl, by simp, by simp, HX, Lib.hid (fun _ _ h => h), Lib.hid ⟨Enc.Own.nil _ _ _, Enc.Own.nil _ _ _, BRows.nil _, HC.out, Kp.refl _ _, HC.out.lt⟩⟩
  case round =>
    obtain ⟨d, hs, ls, cs, hd, hgk, hhl, hcl, HV, HA, HKS⟩ := hrel
    obtain ⟨y, hy⟩ : ∃ y, y = x.drop d := ⟨_, rfl⟩
    have hyl : y.length = x.length - d := by rw [hy, List.length_drop]
    have HYO := Lib.hid (show y.all okS = true by have := HS.out; rw [List.all_eq_true] at this ⊢; exact fun v hv => this v (by rw [hy] at hv; exact List.mem_of_mem_drop hv))
    rw [← hy] at HV HA
    have HY := Lib.hid hy
    have HYL := Lib.hid hyl
    clear hy hyl
    obtain ⟨A2, c2, rfl, g2, g3, g4, g5⟩ := id HV.out
    have HCP := Lib.hid g2
    clear g2 g3 g4 g5
    rcases (show (0 : Int) < y.length ∨ ¬ (0 : Int) < y.length by omega) with hpos | hz
    · go_wp2_with fail
      refine (kpack_any C B _ y _ HKS.out.k (HKS.out.s.sub.is HV.out) (by have := HYL.out; omega) (by omega) HYO.out).mono ?_
      rintro e w2 ⟨u, s, m, rfl, hm1, hmy, hm64, hm40, hbo, ho2, hc2, hk2⟩
      obtain ⟨A3, c3, rfl⟩ := ho2.slice
      have hgC : ∀ {α : Type} {E : Enc α} {e : TypeId} {v : Value} {xs : List α}, E.Own e wr w'.heap.size v xs → ∀ k, v.ownBlock = some k → nb2 C B k = true := fun h k hk => nb2_iff.2 (by have := (h.lt k hk).1; have := HC.out.lt; omega)
      have hkm : Kp (nbs [u7.ownBlock, u8.ownBlock, some C, some B]) wr w2 := hk2.mono fun b hb => by
        have h1 := nbs_iff.1 hb
        exact nb2_iff.2 ⟨fun e => h1 (by rw [e]; simp), fun e => h1 (by rw [e]; simp)⟩
      have hsI : byteE.Is (only w2 (frn w' [u7.ownBlock, u8.ownBlock, some C, some B])) (.slice A3 s.length c3) s := ho2.isM fun k hk => by
        have hl := HKS.out.k.lt
        unfold frn
        simp only [Bool.and_eq_true]
        refine ⟨fr_ge HKS.out.s.size hk, nbs_iff.2 fun hm => ?_⟩
        simp only [List.mem_cons, List.not_mem_nil, or_false, Option.some.injEq] at hm
        rcases hm with e | e | e | e
        · have := (HKS.out.o.lt k e.symm).2; omega
        · have := (HKS.out.c.lt k e.symm).2; omega
        · omega
        · omega
      have HK2 := Lib.hid (show KS w' w2 C B u7 u8 hs (hs ++ [(⟨A3, s.length, c3⟩ : Head)]) (ls ++ [s]) cs from ⟨hk2.own HKS.out.o (hgC HKS.out.o), hk2.own HKS.out.c (hgC HKS.out.c), (HKS.out.r.sub (hkm.stepF (w0 := w') fun o ho => .inl ho)).snoc (x := ⟨A3, s.length, c3⟩) hsI, hc2, HKS.out.s.trans hk2, HKS.out.lt⟩)
      have HA2 := Lib.hid (show ∀ ls' cs', AllR (x.drop (d + m)) ls' cs' → AllR x ((ls ++ [s]) ++ ls') ((cs ++ [(m : Int)]) ++ cs') from fun ls' cs' h => by
        rw [List.append_assoc, List.append_assoc]
        refine HA.out _ _ (AllR.cons m hm1 hmy hm64 hm40 hbo ?_)
        rw [HY.out, List.drop_drop]; exact h)
      have hml : (m : Int) ≤ y.length := by omega
      obtain ⟨V4, hV4, hI4⟩ := slice_l (E := intE) (P := Try.prog) (t := 22) (by kernel_rfl) (fun w => by kernel_rfl) A2 c2 y (m : Int) (by omega) (by omega)
      have HV4 := Lib.hid (show intE.Is (only w' (nb2 C B)) V4 (x.drop (d + m)) by
        have := hI4 _ HV.out
        rw [HY.out, List.drop_drop] at this
        exact this)
      have hhl2 : hs.length ≤ 1000000 := by omega
      have hcl2 : cs.length ≤ 1000000 := by omega
      have hdm : d + m ≤ x.length := by have := HYL.out; omega
      clear hk2 hkm hsI hI4 ho2 hc2 hbo hgC HV HA HYO HKS
      go_wp2_with fail
      refine wp_region_ways (S := (fun w' => C < w'.heap.size)) [0, 1, 4, 5, 8, 9, 10, 11, 12, 13] (y := .take 0 (.take 1 (.take 4 (.take 5 (.take 8 (.take 9 (.take 10 (.ev 2 (.ev 3 (.ev 6 (.ev 7 (.take 11 (.take 12 (.take 13 (.done)))) (.stop)) (.stop)) (.ev 6 (.ev 3 (.ev 7 (.take 11 (.take 12 (.take 13 (.done)))) (.stop)) (.stop)) (.stop))) (.ev 6 (.ev 2 (.ev 3 (.ev 7 (.take 11 (.take 12 (.take 13 (.done)))) (.stop)) (.stop)) (.stop)) (.stop)))))))))) (by kernel_rfl) (by kernel_rfl) (by kernel_rfl) ?_ (fun hHeld => ?_)
      · exact HK2.out.k.lt.1
      replace HK2 := Lib.hid (HK2.out.bl (Bl.refl _).drew)
      clear hHeld
      generalize w2.drew = w3 at *
      repeat (first | (refine wpWay_take rfl (by rfl) (by intro w hSw; (try dsimp only at hSw); first | (go_simp; done) | (go_simp; with_reducible rfl)) ?_; try simp only [Act.put, List.setIfInBounds_toArray, List.set_cons_zero, List.set_cons_succ]) | (refine wpWay_skip rfl (by rfl) ?_; try simp only [Act.put, List.setIfInBounds_toArray, List.set_cons_zero, List.set_cons_succ]))
      refine wpWay_ev rfl (fun K hK => ?_) ?_
      · go_wp2_with fail
        have HSa := Lib.hid (show headE.Own 44 (w3.alloc (.cells #[.slice A3 s.length c3] 44)) 0 (.slice (some ⟨w3.heap.size, 0, none⟩) 1 1) [(⟨A3, s.length, c3⟩ : Head)] from Enc.Own.lit _ _ _ _ rfl 1 rfl (Nat.zero_le _) (by decide) rfl)
        replace HK2 := Lib.hid (HK2.out.bl ((Bl.refl _).alloc (.cells #[.slice A3 s.length c3] 44)))
        refine ⟨HK2.out.k.lt.1, ?_⟩
        have HBl := Lib.hid ((Bl.refl w3).alloc (.cells #[.slice A3 s.length c3] 44))
        generalize w3.alloc (.cells #[.slice A3 s.length c3] 44) = w4 at *
        repeat (first | (refine wpWay_take rfl (by rfl) (by intro w hSw; (try dsimp only at hSw); first | (go_simp; done) | (go_simp; with_reducible rfl)) ?_; try simp only [Act.put, List.setIfInBounds_toArray, List.set_cons_zero, List.set_cons_succ]) | (refine wpWay_skip rfl (by rfl) ?_; try simp only [Act.put, List.setIfInBounds_toArray, List.set_cons_zero, List.set_cons_succ]))
        refine wpWay_ev rfl (fun K hK => ?_) ?_
        · have HKo := Lib.hid HK2.out.o
          go_wp2_with (at_builtin; refine Enc.Own.appendL (E := headE) rfl (.tmp 28) (.tmp 30) 26 rfl w'.heap.size 44 (.slice none 0 0) 1 24 Try.underlying26 infoHead rfl rfl (by decide) (by decide) _ hs rfl HK2.out.o _ _ rfl HSa.out.is (by simp) (by simp; omega) HK2.out.s.size ?_; intro v5 w5 ho5 hg5 hl5)
          replace HK2 := Lib.hid (HK2.out.app1 ho5 hg5 hl5 (own_two HK2.out.c HK2.out.o (by decide)))
          refine ⟨HK2.out.k.lt.1, ?_⟩
          repeat (first | (refine wpWay_take rfl (by rfl) (by intro w hSw; (try dsimp only at hSw); first | (go_simp; done) | (go_simp; with_reducible rfl)) ?_; try simp only [Act.put, List.setIfInBounds_toArray, List.set_cons_zero, List.set_cons_succ]) | (refine wpWay_skip rfl (by rfl) ?_; try simp only [Act.put, List.setIfInBounds_toArray, List.set_cons_zero, List.set_cons_succ]))
          refine wpWay_ev rfl (fun K hK => ?_) wpWay_stop
          go_wp2_with fail
          have HSb := Lib.hid (show intE.Own 3 (w5.alloc (.cells #[.int .i64 m] 3)) 0 (.slice (some ⟨w5.heap.size, 0, none⟩) 1 1) [(m : Int)] from Enc.Own.lit _ _ _ _ rfl 1 rfl (Nat.zero_le _) (by decide) rfl)
          replace HK2 := Lib.hid (HK2.out.bl ((Bl.refl _).alloc (.cells #[.int .i64 m] 3)))
          refine ⟨HK2.out.k.lt.1, ?_⟩
          have HBl := Lib.hid ((Bl.refl w5).alloc (.cells #[.int .i64 m] 3))
          generalize w5.alloc (.cells #[.int .i64 m] 3) = w6 at *
          repeat (first | (refine wpWay_take rfl (by rfl) (by intro w hSw; (try dsimp only at hSw); first | (go_simp; done) | (go_simp; with_reducible rfl)) ?_; try simp only [Act.put, List.setIfInBounds_toArray, List.set_cons_zero, List.set_cons_succ]) | (refine wpWay_skip rfl (by rfl) ?_; try simp only [Act.put, List.setIfInBounds_toArray, List.set_cons_zero, List.set_cons_succ]))
          refine wpWay_ev rfl (fun K hK => ?_) wpWay_stop
          go_wp2_with (at_builtin; refine Enc.Own.appendL (E := intE) rfl (.tmp 32) (.tmp 34) 22 rfl w'.heap.size 3 (.int .i64 0) 1 8 Try.underlying22 infoIntX rfl rfl (by decide) (by decide) _ cs rfl HK2.out.c _ _ rfl HSb.out.is (by simp) (by simp; omega) HK2.out.s.size ?_; intro v7 w7 ho7 hg7 hl7)
          replace HK2 := Lib.hid (HK2.out.app2 ho7 hg7 hl7 (own_two HK2.out.o HK2.out.c (by decide)))
          refine ⟨HK2.out.k.lt.1, ?_⟩
          repeat (first | (refine wpWay_take rfl (by rfl) (by intro w hSw; (try dsimp only at hSw); first | (go_simp; done) | (go_simp; with_reducible rfl)) ?_; try simp only [Act.put, List.setIfInBounds_toArray, List.set_cons_zero, List.set_cons_succ]) | (refine wpWay_skip rfl (by rfl) ?_; try simp only [Act.put, List.setIfInBounds_toArray, List.set_cons_zero, List.set_cons_succ]))
          refine wpWay_done ?_
          go_wp2_with fail
          go_roundg (x.length - (d + m))
          case measure => omega
          case rel => exact ⟨d + m, hs ++ [(⟨A3, s.length, c3⟩ : Head)], ls ++ [s], cs ++ [(m : Int)], hdm, rfl, by simp; omega, by simp; omega, HV4, HA2, HK2⟩
        · refine wpWay_ev rfl (fun K hK => ?_) wpWay_stop
          go_wp2_with fail
          have HSb := Lib.hid (show intE.Own 3 (w4.alloc (.cells #[.int .i64 m] 3)) 0 (.slice (some ⟨w4.heap.size, 0, none⟩) 1 1) [(m : Int)] from Enc.Own.lit _ _ _ _ rfl 1 rfl (Nat.zero_le _) (by decide) rfl)
          replace HK2 := Lib.hid (HK2.out.bl ((Bl.refl _).alloc (.cells #[.int .i64 m] 3)))
          refine ⟨HK2.out.k.lt.1, ?_⟩
          have HBl := Lib.hid ((Bl.refl w4).alloc (.cells #[.int .i64 m] 3))
          generalize w4.alloc (.cells #[.int .i64 m] 3) = w6 at *
          repeat (first | (refine wpWay_take rfl (by rfl) (by intro w hSw; (try dsimp only at hSw); first | (go_simp; done) | (go_simp; with_reducible rfl)) ?_; try simp only [Act.put, List.setIfInBounds_toArray, List.set_cons_zero, List.set_cons_succ]) | (refine wpWay_skip rfl (by rfl) ?_; try simp only [Act.put, List.setIfInBounds_toArray, List.set_cons_zero, List.set_cons_succ]))
          replace HSa := Lib.hid (HSa.out.bl HBl.out)
          refine wpWay_ev rfl (fun K hK => ?_) wpWay_stop
          have HKo := Lib.hid HK2.out.o
          go_wp2_with (at_builtin; refine Enc.Own.appendL (E := headE) rfl (.tmp 28) (.tmp 30) 26 rfl w'.heap.size 44 (.slice none 0 0) 1 24 Try.underlying26 infoHead rfl rfl (by decide) (by decide) _ hs rfl HK2.out.o _ _ rfl HSa.out.is (by simp) (by simp; omega) HK2.out.s.size ?_; intro v5 w5 ho5 hg5 hl5)
          replace HK2 := Lib.hid (HK2.out.app1 ho5 hg5 hl5 (own_two HK2.out.c HK2.out.o (by decide)))
          refine ⟨HK2.out.k.lt.1, ?_⟩
          repeat (first | (refine wpWay_take rfl (by rfl) (by intro w hSw; (try dsimp only at hSw); first | (go_simp; done) | (go_simp; with_reducible rfl)) ?_; try simp only [Act.put, List.setIfInBounds_toArray, List.set_cons_zero, List.set_cons_succ]) | (refine wpWay_skip rfl (by rfl) ?_; try simp only [Act.put, List.setIfInBounds_toArray, List.set_cons_zero, List.set_cons_succ]))
          replace HSb := Lib.hid (HSb.out.grown hg5 (own_two HSb.out HKo.out (by decide)))
          refine wpWay_ev rfl (fun K hK => ?_) wpWay_stop
          go_wp2_with (at_builtin; refine Enc.Own.appendL (E := intE) rfl (.tmp 32) (.tmp 34) 22 rfl w'.heap.size 3 (.int .i64 0) 1 8 Try.underlying22 infoIntX rfl rfl (by decide) (by decide) _ cs rfl HK2.out.c _ _ rfl HSb.out.is (by simp) (by simp; omega) HK2.out.s.size ?_; intro v7 w7 ho7 hg7 hl7)
          replace HK2 := Lib.hid (HK2.out.app2 ho7 hg7 hl7 (own_two HK2.out.o HK2.out.c (by decide)))
          refine ⟨HK2.out.k.lt.1, ?_⟩
          repeat (first | (refine wpWay_take rfl (by rfl) (by intro w hSw; (try dsimp only at hSw); first | (go_simp; done) | (go_simp; with_reducible rfl)) ?_; try simp only [Act.put, List.setIfInBounds_toArray, List.set_cons_zero, List.set_cons_succ]) | (refine wpWay_skip rfl (by rfl) ?_; try simp only [Act.put, List.setIfInBounds_toArray, List.set_cons_zero, List.set_cons_succ]))
          refine wpWay_done ?_
          go_wp2_with fail
          go_roundg (x.length - (d + m))
          case measure => omega
          case rel => exact ⟨d + m, hs ++ [(⟨A3, s.length, c3⟩ : Head)], ls ++ [s], cs ++ [(m : Int)], hdm, rfl, by simp; omega, by simp; omega, HV4, HA2, HK2⟩
      · refine wpWay_ev rfl (fun K hK => ?_) wpWay_stop
        go_wp2_with fail
        have HSb := Lib.hid (show intE.Own 3 (w3.alloc (.cells #[.int .i64 m] 3)) 0 (.slice (some ⟨w3.heap.size, 0, none⟩) 1 1) [(m : Int)] from Enc.Own.lit _ _ _ _ rfl 1 rfl (Nat.zero_le _) (by decide) rfl)
        replace HK2 := Lib.hid (HK2.out.bl ((Bl.refl _).alloc (.cells #[.int .i64 m] 3)))
        refine ⟨HK2.out.k.lt.1, ?_⟩
        have HBl := Lib.hid ((Bl.refl w3).alloc (.cells #[.int .i64 m] 3))
        generalize w3.alloc (.cells #[.int .i64 m] 3) = w6 at *
        repeat (first | (refine wpWay_take rfl (by rfl) (by intro w hSw; (try dsimp only at hSw); first | (go_simp; done) | (go_simp; with_reducible rfl)) ?_; try simp only [Act.put, List.setIfInBounds_toArray, List.set_cons_zero, List.set_cons_succ]) | (refine wpWay_skip rfl (by rfl) ?_; try simp only [Act.put, List.setIfInBounds_toArray, List.set_cons_zero, List.set_cons_succ]))
        refine wpWay_ev rfl (fun K hK => ?_) wpWay_stop
        go_wp2_with fail
        have HSa := Lib.hid (show headE.Own 44 (w6.alloc (.cells #[.slice A3 s.length c3] 44)) 0 (.slice (some ⟨w6.heap.size, 0, none⟩) 1 1) [(⟨A3, s.length, c3⟩ : Head)] from Enc.Own.lit _ _ _ _ rfl 1 rfl (Nat.zero_le _) (by decide) rfl)
        replace HK2 := Lib.hid (HK2.out.bl ((Bl.refl _).alloc (.cells #[.slice A3 s.length c3] 44)))
        refine ⟨HK2.out.k.lt.1, ?_⟩
        have HBl := Lib.hid ((Bl.refl w6).alloc (.cells #[.slice A3 s.length c3] 44))
        generalize w6.alloc (.cells #[.slice A3 s.length c3] 44) = w4 at *
        repeat (first | (refine wpWay_take rfl (by rfl) (by intro w hSw; (try dsimp only at hSw); first | (go_simp; done) | (go_simp; with_reducible rfl)) ?_; try simp only [Act.put, List.setIfInBounds_toArray, List.set_cons_zero, List.set_cons_succ]) | (refine wpWay_skip rfl (by rfl) ?_; try simp only [Act.put, List.setIfInBounds_toArray, List.set_cons_zero, List.set_cons_succ]))
        replace HSb := Lib.hid (HSb.out.bl HBl.out)
        refine wpWay_ev rfl (fun K hK => ?_) wpWay_stop
        have HKo := Lib.hid HK2.out.o
        go_wp2_with (at_builtin; refine Enc.Own.appendL (E := headE) rfl (.tmp 28) (.tmp 30) 26 rfl w'.heap.size 44 (.slice none 0 0) 1 24 Try.underlying26 infoHead rfl rfl (by decide) (by decide) _ hs rfl HK2.out.o _ _ rfl HSa.out.is (by simp) (by simp; omega) HK2.out.s.size ?_; intro v5 w5 ho5 hg5 hl5)
        replace HK2 := Lib.hid (HK2.out.app1 ho5 hg5 hl5 (own_two HK2.out.c HK2.out.o (by decide)))
        refine ⟨HK2.out.k.lt.1, ?_⟩
        repeat (first | (refine wpWay_take rfl (by rfl) (by intro w hSw; (try dsimp only at hSw); first | (go_simp; done) | (go_simp; with_reducible rfl)) ?_; try simp only [Act.put, List.setIfInBounds_toArray, List.set_cons_zero, List.set_cons_succ]) | (refine wpWay_skip rfl (by rfl) ?_; try simp only [Act.put, List.setIfInBounds_toArray, List.set_cons_zero, List.set_cons_succ]))
        replace HSb := Lib.hid (HSb.out.grown hg5 (own_two HSb.out HKo.out (by decide)))
        refine wpWay_ev rfl (fun K hK => ?_) wpWay_stop
        go_wp2_with (at_builtin; refine Enc.Own.appendL (E := intE) rfl (.tmp 32) (.tmp 34) 22 rfl w'.heap.size 3 (.int .i64 0) 1 8 Try.underlying22 infoIntX rfl rfl (by decide) (by decide) _ cs rfl HK2.out.c _ _ rfl HSb.out.is (by simp) (by simp; omega) HK2.out.s.size ?_; intro v7 w7 ho7 hg7 hl7)
        replace HK2 := Lib.hid (HK2.out.app2 ho7 hg7 hl7 (own_two HK2.out.o HK2.out.c (by decide)))
        refine ⟨HK2.out.k.lt.1, ?_⟩
        repeat (first | (refine wpWay_take rfl (by rfl) (by intro w hSw; (try dsimp only at hSw); first | (go_simp; done) | (go_simp; with_reducible rfl)) ?_; try simp only [Act.put, List.setIfInBounds_toArray, List.set_cons_zero, List.set_cons_succ]) | (refine wpWay_skip rfl (by rfl) ?_; try simp only [Act.put, List.setIfInBounds_toArray, List.set_cons_zero, List.set_cons_succ]))
        refine wpWay_done ?_
        go_wp2_with fail
        go_roundg (x.length - (d + m))
        case measure => omega
        case rel => exact ⟨d + m, hs ++ [(⟨A3, s.length, c3⟩ : Head)], ls ++ [s], cs ++ [(m : Int)], hdm, rfl, by simp; omega, by simp; omega, HV4, HA2, HK2⟩
    · have hnil : y = [] := List.eq_nil_of_length_eq_zero (by omega)
      have HF := Lib.hid (show AllR x ls cs by
        have := HA.out [] [] (by rw [hnil]; exact AllR.nil)
        rwa [List.append_nil, List.append_nil] at this)
      have HK3 := HKS
      clear hnil HA HV HY HYL HKS
      go_wp2
      go_ret3
      exact ⟨_, _, rfl, hs, ls, cs, HK3.out.o, HK3.out.c, HK3.out.r, HF.out, HK3.out.k, HK3.out.s⟩
end Go.Proofs.Ytoocebghlchcoaa.ExtW
