/- Several texts joined (see each one's head). -/
import Derived.Test.YtoocebghlchcoaaGreatPkAU
import Derived.Test.YtoocebghlchcoaaGreatPkAN
import Derived.Test.YtoocebghlchcoaaGreatPkAR
/- Contracts of audit: Reach, Show, Journal, Samples, where a disk is none, is corrupt, has no root. -/
namespace Go.Proofs.YtoocebghlchcoaaGreat.ExtW
open Go.RowKit Go.Ov Go.Proofs.YtoocebghlchcoaaGreat.Need
/-- nothing is found in an image, and why -/
def FoundErr (v : Value) (w : World) (c : Int) : Prop := ∀ w1, Bl w w1 → Calls Tryz.prog 30 #[v] w1 fun e w2 => e = .returned (.tuple #[.pointer none, .int .i64 c]) ∧ Bl w1 w2
/-- a disk without a root is found -/
def FoundZero (v : Value) (w : World) : Prop := ∀ w1, Bl w w1 → Calls Tryz.prog 30 #[v] w1 fun e w2 => ∃ F M g f d c, e = .returned (.tuple #[.pointer (some ⟨F, 0, none⟩), .int .i64 0]) ∧ Bl w1 w2 ∧ Blk w2 F (foundC g f d c M) 76
theorem aReach_err (v : Value) (c : Int) (w : World) (h : FoundErr v w c) (h0 : c ≠ 0) :
    Calls Tryz.prog 16 #[v] w fun e w' => e = .returned (.tuple #[.slice none 0 0, .int .i64 c]) ∧ Bl w w' := by
  go_enter Tryz.func16, Tryz.ntmps16
  go_wp2_with fail
  refine (h _ (Bl.refl _)).mono ?_
  rintro e w1 ⟨rfl, hb⟩
  go_wp2
  go_ret2
  exact ⟨rfl, hb⟩
theorem aReach_zero (v : Value) (w : World) (h : FoundZero v w) :
    Calls Tryz.prog 16 #[v] w fun e w' => e = .returned (.tuple #[.slice none 0 0, .int .i64 0]) ∧ Bl w w' := by
  go_enter Tryz.func16, Tryz.ntmps16
  go_wp2_with fail
  refine (h _ (Bl.refl _)).mono ?_
  rintro e w1 ⟨F, M, g, f, d, c, rfl, hb, hF⟩
  have c8 := hF.cell 8
  simp [foundC] at c8
  go_wp2
  go_ret2
  exact ⟨rfl, hb⟩
theorem aJournal_err (v : Value) (c : Int) (w : World) (h : FoundErr v w c) (h0 : c ≠ 0) :
    Calls Tryz.prog 18 #[v] w fun e w' => e = .returned (.tuple #[.slice none 0 0, .int .i64 c]) ∧ Bl w w' := by
  go_enter Tryz.func18, Tryz.ntmps18
  go_wp2_with fail
  refine (h _ (Bl.refl _)).mono ?_
  rintro e w1 ⟨rfl, hb⟩
  go_wp2
  go_ret2
  exact ⟨rfl, hb⟩
theorem results_cell2 {P : Program} {fn : Func} {p q : Tmp} {ty : TypeId} (h : fn.results = #[.cell p ty, .tmp q]) (tmps : Array Value) {w : World} {g : Nat} {t : TypeId} {cs : Array Value} {d : TypeDesc}
    (hp : tmps.getD p undef = .pointer (some ⟨g, 0, none⟩)) (hg : Blk w g cs t)
    (hu : P.underlying ty = some d) (hd : (match d with | .struct _ | .array _ _ => true | _ => false) = true) (hi : (P.info? ty).map (·.size) = some cs.size) :
    (results fn tmps).run P w = .ok (.tuple #[.agg cs, tmps.getD q undef]) w := by
  have hp' : tmps[p]?.getD undef = .pointer (some ⟨g, 0, none⟩) := by simpa using hp
  simp [results, h, hp', asAddr, run_loadVar_row w g t ty cs (0, 0) d hg hu hd hi]
/-- a view of nothing -/
def viewC : Array Value := #[.slice none 0 0, .slice none 0 0, .slice none 0 0]
set_option maxHeartbeats 1000000 in
theorem aShow_err (v : Value) (c : Int) (w : World) (h : FoundErr v w c) (h0 : c ≠ 0) :
    Calls Tryz.prog 17 #[v] w fun e w' => e = .returned (.tuple #[.agg viewC, .int .i64 c]) ∧ Bl w w' := by
  have hal := (Bl.refl w).alloc (.cells viewC 50)
  have HV := Lib.hid (Blk.new w viewC 50)
  have HAL := Lib.hid hal
  clear hal
  go_enter Tryz.func17, Tryz.ntmps17
  go_wp2_with fail
  unfold viewC at HV HAL
  generalize hN : w.heap.size = N at *
  generalize w.alloc (.cells #[.slice none 0 0, .slice none 0 0, .slice none 0 0] 50) = w0 at *
  refine (h _ HAL.out).mono ?_
  rintro e w1 ⟨rfl, hb⟩
  have HV1 := Lib.hid (HV.out.bl hb)
  have HB1 := Lib.hid (HAL.out.trans hb)
  clear hb
  have v0 := HV1.out.cell 0
  have v1 := HV1.out.cell 1
  have v2 := HV1.out.cell 2
  have f0 := HV1.out.frozen 0
  have f1 := HV1.out.frozen 1
  have f2 := HV1.out.frozen 2
  simp at v0 v1 v2
  go_wp2
  have HF := Lib.hid (((HV1.out.set 0 (.slice none 0 0)).set 1 (.slice none 0 0)).set 2 (.slice none 0 0))
  have HB2 := Lib.hid (((HB1.out.grown (setCell_grown _ N 0 (.slice none 0 0)) (fun k hk => by injection hk with hk; omega)).grown (setCell_grown _ N 1 (.slice none 0 0)) (fun k hk => by injection hk with hk; omega)).grown (setCell_grown _ N 2 (.slice none 0 0)) (fun k hk => by injection hk with hk; omega))
  try simp only [Exit.inBlock, Exit.then]
  refine bodyPost_ret (results_cell2 rfl _ rfl HF.out Tryz.underlying50 rfl (by kernel_rfl)) rfl ?_
  exact ⟨rfl, HB2.out⟩
set_option maxHeartbeats 1000000 in
theorem aShow_zero (v : Value) (w : World) (h : FoundZero v w) :
    Calls Tryz.prog 17 #[v] w fun e w' => e = .returned (.tuple #[.agg viewC, .int .i64 0]) ∧ Bl w w' := by
  have hal := (Bl.refl w).alloc (.cells viewC 50)
  have HV := Lib.hid (Blk.new w viewC 50)
  have HAL := Lib.hid hal
  clear hal
  go_enter Tryz.func17, Tryz.ntmps17
  go_wp2_with fail
  unfold viewC at HV HAL
  generalize hN : w.heap.size = N at *
  generalize w.alloc (.cells #[.slice none 0 0, .slice none 0 0, .slice none 0 0] 50) = w0 at *
  refine (h _ HAL.out).mono ?_
  rintro e w1 ⟨F, M, g, f, d, c, rfl, hb, hF⟩
  have HV1 := Lib.hid (HV.out.bl hb)
  have HB1 := Lib.hid (HAL.out.trans hb)
  have c5 := hF.cell 5
  simp [foundC] at c5
  clear hb hF
  have v0 := HV1.out.cell 0
  have v1 := HV1.out.cell 1
  have v2 := HV1.out.cell 2
  have f0 := HV1.out.frozen 0
  have f1 := HV1.out.frozen 1
  have f2 := HV1.out.frozen 2
  simp at v0 v1 v2
  go_wp2
  have HF := Lib.hid (((HV1.out.set 0 (.slice none 0 0)).set 1 (.slice none 0 0)).set 2 (.slice none 0 0))
  have HB2 := Lib.hid (((HB1.out.grown (setCell_grown _ N 0 (.slice none 0 0)) (fun k hk => by injection hk with hk; omega)).grown (setCell_grown _ N 1 (.slice none 0 0)) (fun k hk => by injection hk with hk; omega)).grown (setCell_grown _ N 2 (.slice none 0 0)) (fun k hk => by injection hk with hk; omega))
  try simp only [Exit.inBlock, Exit.then]
  refine bodyPost_ret (results_cell2 rfl _ rfl HF.out Tryz.underlying50 rfl (by kernel_rfl)) rfl ?_
  exact ⟨rfl, HB2.out⟩
end Go.Proofs.YtoocebghlchcoaaGreat.ExtW

/- Contract of audit.Samples where no extent is asked for. -/
namespace Go.Proofs.YtoocebghlchcoaaGreat.ExtW
open Go.RowKit Go.Ov Go.Proofs.YtoocebghlchcoaaGreat.Need
theorem knewN_any (w : World) : Calls Tryz.prog 42 #[] w fun e w' => ∃ C, e = .returned (.pointer (some ⟨C, 0, none⟩)) ∧ Bl w w' := by
  go_enter Tryz.func42, Tryz.ntmps42
  go_wp2_with fail
  refine (cnew_any _).mono ?_
  rintro e w1 ⟨rfl, hb, hk⟩
  clear hk
  go_wp2
  go_ret
  exact ⟨_, rfl, hb.alloc _⟩
theorem asamples_nil (v : Value) (w : World) :
    Calls Tryz.prog 23 #[v, .slice none 0 0] w fun e w' => e = .returned (.tuple #[.slice none 0 0, .bool true]) ∧ Bl w w' := by
  go_enter Tryz.func23, Tryz.ntmps23
  go_wp2_with fail
  refine (knewN_any _).mono ?_
  rintro e w1 ⟨C, rfl, hb⟩
  go_wp2_with fail
  refine wp_loop_rounds 1 ?_
  rw [rounds_succ]
  go_wp2
  go_ret2
  exact ⟨rfl, hb⟩
theorem aSamples_arg (v : Value) (l : List Int) (w : World) (h : byteE.Is w v l) (hl : l.length ≤ 1000000) (hs : sectorsM l = 0) :
    Calls Tryz.prog 10 #[v, .slice none 0 0] w fun e w' => e = .returned (.tuple #[.slice none 0 0, .int .i64 1]) ∧ Bl w w' := by
  have HI := Lib.hid h
  clear h
  go_enter Tryz.func10, Tryz.ntmps10
  go_wp2_with fail
  refine (asectors_any _ l _ HI.out (by omega)).mono ?_
  rintro e w1 ⟨rfl, rfl⟩
  rw [hs]
  go_wp2
  go_ret2
  exact ⟨rfl, Bl.refl _⟩
theorem aSamples_nil (v : Value) (l : List Int) (w : World) (n : Nat) (h : byteE.Is w v l) (hl : l.length ≤ 1000000) (hs : sectorsM l = n) (h0 : n ≠ 0) :
    Calls Tryz.prog 10 #[v, .slice none 0 0] w fun e w' => e = .returned (.tuple #[.slice none 0 0, .int .i64 0]) ∧ Bl w w' := by
  have HI := Lib.hid h
  clear h
  go_enter Tryz.func10, Tryz.ntmps10
  go_wp2_with fail
  refine (asectors_any _ l _ HI.out (by omega)).mono ?_
  rintro e w1 ⟨rfl, rfl⟩
  rw [hs]
  have hn0 : ¬ (n : Int) = 0 := by omega
  go_wp2_with fail
  refine (valid_any _ [] _ (Enc.Is.nil _)).mono ?_
  rintro e w2 ⟨rfl, hb2⟩
  rw [show validFrom 0 [] = true from rfl]
  go_wp2_with fail
  refine (asamples_nil _ _).mono ?_
  rintro e w3 ⟨rfl, hb3⟩
  go_wp2
  go_ret2
  exact ⟨rfl, hb2.trans hb3⟩
end Go.Proofs.YtoocebghlchcoaaGreat.ExtW

/- Contract of audit.samples: any row that may be. -/
namespace Go.Proofs.YtoocebghlchcoaaGreat.ExtW
open Go.RowKit Go.Ov Go.Proofs.YtoocebghlchcoaaGreat.Need
/-- an extent's samples on an image -/
def extO (img : List Int) (e : Ext) : Option (List Int) := if (img.length : Int) / 128 ≤ e.sector then none else (openM (rdM img e.sector)).bind fun x => if (x.length : Int) = e.count then some ((x.take (e.skip + e.take).toNat).drop e.skip.toNat) else none
/-- a row's samples on an image, behind others -/
def smpO (img : List Int) : List Int → List Ext → Option (List Int)
  | out, [] => some out
  | out, e :: l => (extO img e).bind fun y => smpO img (out ++ y) l
theorem smpO_snoc (img : List Int) : ∀ (l : List Ext) (out : List Int) (e : Ext), smpO img out (l ++ [e]) = (smpO img out l).bind fun x => (extO img e).map fun y => x ++ y
  | [], out, e => by
    simp only [List.nil_append, smpO, Option.bind_some]
    cases extO img e <;> rfl
  | a :: l, out, e => by
    rw [List.cons_append]
    simp only [smpO]
    cases extO img a with
    | none => rfl
    | some y => simp only [Option.bind_some]; exact smpO_snoc img l _ e
theorem smpO_none (img : List Int) : ∀ (l m : List Ext) (out : List Int), smpO img out l = none → smpO img out (l ++ m) = none
  | [], m, out, h => by cases h
  | a :: l, m, out, h => by
    rw [List.cons_append]
    simp only [smpO] at h ⊢
    cases hx : extO img a with
    | none => rfl
    | some y =>
      rw [hx] at h
      simp only [Option.bind_some] at h ⊢
      exact smpO_none img l m _ h
theorem valid_ones : ∀ (l : List Ext) (a : Int), validFrom a l = true → ∀ e ∈ l, oneB e = true
  | [], _, _, e, he => by cases he
  | x :: l, a, h, e, he => by
    simp only [validFrom, Bool.and_eq_true] at h
    rcases List.mem_cons.1 he with rfl | he
    · exact h.1.1.1
    · exact valid_ones l _ h.2 e he
/-- a row's samples: a call's answer -/
def SmpRP (w w' : World) (o : Option (List Int)) (e : Ending) : Prop := match o with
  | some x => ∃ u, e = .returned (.tuple #[u, .bool true]) ∧ intE.Own 3 w' w.heap.size u x
  | none => e = .returned (.tuple #[.slice none 0 0, .bool false])
theorem CodSt.grown {w w' : World} {C B : Nat} {row : Option Nat} (h : CodSt w C B) (hg : w.grownBy w' row) (hC : row ≠ some C) (hB : row ≠ some B) : CodSt w' C B := by
  obtain ⟨s, o, h1⟩ := h.cod
  refine ⟨⟨s, o, h1.grown hg hC⟩, ?_⟩
  rcases h.tab with ht | ht
  · exact .inl (ht.grown hg hB)
  · exact .inr (ht.grown hg hB)
theorem sub_nb2 {w w1 : World} {C B : Nat} (hb : Bl w w1) (hC : w.heap.size ≤ C) (hB : w.heap.size ≤ B) : Sub w (only w1 (nb2 C B)) := sub_old hb fun k hk => nb2_iff.2 ⟨by omega, by omega⟩
set_option maxHeartbeats 1000000 in
theorem asectorW_any (v : Value) (l : List Int) (i : Int) (wm w : World) (h : byteE.Is wm v l) (hl : l.length ≤ 1000000) (hi : -9223372036854775808 ≤ i ∧ i ≤ 9223372036854775807) :
    Calls Tryz.prog 33 #[v, .int .i64 i] w fun e w' => RdP wm l i e ∧ w' = w := by
  have HI := Lib.hid h
  obtain ⟨A, c, rfl, h1, h2, h3, h4⟩ := h
  have HC := Lib.hid h1
  have HM := Lib.hid h2
  clear h1 h2 h3 h4
  have e1 : (l.length : Int).tdiv 128 = (l.length : Int) / 128 := Int.tdiv_eq_ediv_of_nonneg (by omega)
  have e3 : IntKind.i64.wrap ((l.length : Int) / 128) = (l.length : Int) / 128 := IntWalk.i64_in _ (by omega)
  go_enter Tryz.func33, Tryz.ntmps33
  rcases (show i < 0 ∨ (¬ i < 0 ∧ (l.length : Int) / 128 ≤ i) ∨ (¬ i < 0 ∧ ¬ (l.length : Int) / 128 ≤ i) by omega) with h | ⟨h, h2⟩ | ⟨h, h2⟩
  · go_wp2
    go_ret2
    refine ⟨⟨_, by rw [decide_eq_false (show ¬ 0 ≤ i by omega)]; rfl, ?_⟩, rfl⟩
    unfold rdM; rw [if_pos (by omega)]; exact Enc.Is.nil _
  · go_wp2
    go_ret2
    refine ⟨⟨_, by rw [decide_eq_false (show ¬ i < (l.length : Int) / 128 by omega), Bool.and_false]; rfl, ?_⟩, rfl⟩
    unfold rdM; rw [if_pos (by omega)]; exact Enc.Is.nil _
  · have hk : ∃ k : Nat, i = k := ⟨i.toNat, by omega⟩
    obtain ⟨k, rfl⟩ := hk
    have w1 : IntKind.i64.wrap ((k : Int) * 128) = (k : Int) * 128 := IntWalk.i64_in _ (by omega)
    have w2 : IntKind.i64.wrap ((k : Int) + 1) = (k : Int) + 1 := IntWalk.i64_in _ (by omega)
    have w3 : IntKind.i64.wrap (((k : Int) + 1) * 128) = ((k : Int) + 1) * 128 := IntWalk.i64_in _ (by omega)
    have hc := HC.out
    have q : 0 ≤ ((k : Int) + 1) * 128 ∧ ((k : Int) + 1) * 128 ≤ c := by omega
    have q0 : (k : Int) * 128 ≤ ((k : Int) + 1) * 128 := by omega
    have HSec := Lib.hid (sec_is HI.out (show k < l.length / 128 by omega))
    have HMx := Lib.hid (show rdM l k = secM l k by unfold rdM; rw [if_neg (by omega), Int.toNat_natCast])
    clear hc
    go_wp2
    go_ret2
    refine ⟨⟨_, by rw [decide_eq_true (show (0 : Int) ≤ k by omega), decide_eq_true (show (k : Int) < (l.length : Int) / 128 by omega)]; rfl, ?_⟩, rfl⟩
    rw [HMx.out]
    exact HSec.out
set_option maxRecDepth 100000 in
set_option maxHeartbeats 4000000 in
theorem asamples_any (v vl : Value) (img : List Int) (l : List Ext) (w : World) (h : byteE.Is w v img) (hi : img.length ≤ 1000000) (hok : okB img) (hl : extE.Is w vl l) (hn : l.length ≤ 1000) (hone : ∀ e ∈ l, oneB e = true) :
    Calls Tryz.prog 23 #[v, vl] w fun e w' => SmpRP w w' (smpO img [] l) e ∧ Bl w w' := by
  have HI := Lib.hid h
  have HO := Lib.hid hok
  have HOne := Lib.hid hone
  obtain ⟨A, c, rfl, h1, h2, h3, h4⟩ := hl
  have HA := Lib.hid h4
  obtain ⟨o, hO⟩ : ∃ o, o = smpO img [] l := ⟨_, rfl⟩
  rw [← hO]
  have HR := Lib.hid hO
  have hu := Tryz.underlying34
  clear h h1 h2 h3 h4 hok hone hO
  go_enter Tryz.func23, Tryz.ntmps23
  go_wp2_with fail
  refine (knew_any _).mono ?_
  rintro e w1 ⟨C, B, rfl, hb1, hC, hB, hcod⟩
  have HB1 := Lib.hid hb1
  have HCB := Lib.hid (show w.heap.size ≤ C ∧ w.heap.size ≤ B from ⟨hC, hB⟩)
  have HCod := Lib.hid hcod
  have HSub := Lib.hid (sub_nb2 hb1 hC hB)
  clear hb1 hC hB hcod
  go_wp2_with fail
  go_loopg [7, 17] l.length (fun gk s i wr => ∃ (k : Nat) (x : List Int), k ≤ l.length ∧ gk = l.length - k ∧ i = .int .i64 k ∧ Hid (x.length ≤ 64 * k) ∧ Hid (intE.Own 3 wr w1.heap.size s x) ∧ Hid (smpO img [] (l.take k) = some x) ∧ Hid (Kp (nb2 C B) w1 wr) ∧ Hid (CodSt wr C B))
  case atStart => exact ⟨0, [], by omega, rfl, rfl, Lib.hid (by simp), Lib.hid (Enc.Own.nil _ _ _), Lib.hid rfl, Lib.hid (Kp.refl _ _), HCod⟩
  case round =>
    obtain ⟨k, x, hk, hgk, rfl, HL, HX, HRn, HK, HCd⟩ := hrel
    obtain ⟨A3, c3, rfl⟩ := HX.out.slice
    have HBl := Lib.hid (Kp.bl HB1.out HK.out fun i hi => nb2_iff.2 ⟨by have := HCB.out; omega, by have := HCB.out; omega⟩)
    by_cases hlt : k < l.length
    · have hlti : (k : Int) < l.length := by omega
      obtain ⟨ad, rfl, c0, c1, c2, c3, c4⟩ := ext_at (HA.out.bl HBl.out) k hlt
      have HT := Lib.hid (show smpO img [] (l.take (k + 1)) = _ by rw [List.take_succ_eq_append_getElem hlt, smpO_snoc, HRn.out, Option.bind_some])
      have HD := Lib.hid (List.take_append_drop (k + 1) l)
      have h1 := HOne.out _ (List.getElem_mem hlt)
      generalize l[k] = x at *
      obtain ⟨x0, x1, x2, x3, x4⟩ := x
      dsimp only at c0 c1 c2 c3 c4
      unfold oneB at h1
      simp only [Bool.and_eq_true, decide_eq_true_eq] at h1
      obtain ⟨⟨⟨⟨⟨⟨g1, g2⟩, g3⟩, g4⟩, g5⟩, g6⟩, g7⟩ := h1
      have hal := (Bl.refl wr).alloc (.cells #[.int .i64 x0, .int .i64 x1, .int .i64 x2, .int .i64 x3, .int .i64 x4] 34)
      have HBe := Lib.hid (Blk.new wr #[.int .i64 x0, .int .i64 x1, .int .i64 x2, .int .i64 x3, .int .i64 x4] 34)
      have HNe := Lib.hid (show wr.heap.size ≠ C ∧ wr.heap.size ≠ B from ⟨by have := HCd.out.lt; omega, by have := HCd.out.lt; omega⟩)
      have HK2 := Lib.hid (HK.out.trans (Kp.of_bl hal))
      have HCd2 := Lib.hid (HCd.out.bl hal)
      have HX2 := Lib.hid (HX.out.bl hal)
      have HI2 := Lib.hid (HK2.out.sub.is (HSub.out.is HI.out))
      have HNN := Lib.hid (fun (h : extO img ⟨x0, x1, x2, x3, x4⟩ = none) => (show o = none by
        rw [HR.out, ← HD.out]
        refine smpO_none img _ _ _ ?_
        rw [HT.out, h]; rfl))
      clear hal
      go_wp2_with fail
      clear c0 c1 c2 c3 c4
      generalize wr.heap.size = N at *
      generalize wr.alloc (.cells #[.int .i64 x0, .int .i64 x1, .int .i64 x2, .int .i64 x3, .int .i64 x4] 34) = w2 at *
      refine (asectorW_any v img x1 _ _ HI2.out hi (by omega)).mono ?_
      rintro e w3 ⟨⟨u, rfl, hu⟩, rfl⟩
      have HU := Lib.hid hu
      have hge : decide (0 ≤ x1) = true := by simp; omega
      rw [hge, Bool.true_and]
      clear hu hge
      by_cases hsec : (img.length : Int) / 128 ≤ x1
      · have e := HNN.out (by unfold extO; rw [if_pos hsec])
        subst e
        rw [decide_eq_false (show ¬ x1 < (img.length : Int) / 128 by omega)]
        have HBl2 := Lib.hid (Kp.bl HB1.out HK2.out fun i hi => nb2_iff.2 ⟨by have := HCB.out; omega, by have := HCB.out; omega⟩)
        go_wp2
        go_ret2
        exact ⟨rfl, HBl2.out⟩
      · have HSec := Lib.hid hsec
        rw [decide_eq_true (show x1 < (img.length : Int) / 128 by omega)]
        go_wp2_with fail
        refine (kOpen_any C B u (rdM img x1) _ HCd2.out HU.out (by have := rd_len img x1; omega) (rd_ok HO.out x1)).mono ?_
        rintro e w4 ⟨hd, hcd, hk4⟩
        have HK4 := Lib.hid (HK2.out.trans hk4)
        have HCd4 := Lib.hid hcd
        have HX4 := Lib.hid (hk4.own HX2.out fun g hg => nb2_iff.2 ⟨by
          have := (HX2.out.lt g hg).1
          have := HCod.out.lt
          omega, by
          have := (HX2.out.lt g hg).1
          have := HCod.out.lt
          omega⟩)
        have hbe := hk4.blk HBe.out (nb2_iff.2 HNe.out)
        have c1 := hbe.cell 1
        have c2 := hbe.cell 2
        have c3 := hbe.cell 3
        have c4 := hbe.cell 4
        simp at c1 c2 c3 c4
        have HBl4 := Lib.hid (Kp.bl HB1.out HK4.out fun i hi => nb2_iff.2 ⟨by have := HCB.out; omega, by have := HCB.out; omega⟩)
        clear hcd hk4 hbe
        cases hop : openM (rdM img x1) with
        | none =>
          rw [hop] at hd
          obtain rfl := hd
          have e := HNN.out (by unfold extO; rw [if_neg (show ¬ ((img.length : Int) / 128 ≤ x1) by have := HSec.out; omega), hop]; rfl)
          subst e
          go_wp2
          go_ret2
          exact ⟨rfl, HBl4.out⟩
        | some y =>
          rw [hop] at hd
          obtain ⟨uy, rfl, hy, hyl⟩ := hd
          obtain ⟨Ay, cy, rfl⟩ := hy.slice
          by_cases hcnt : (y.length : Int) = x2
          · have HY := Lib.hid hy
            have hcap : y.length ≤ cy := by
              obtain ⟨_, _, e, h1, _⟩ := hy.is
              simp only [Value.slice.injEq] at e
              obtain ⟨-, -, rfl⟩ := e
              exact h1
            obtain ⟨V, hV, hVI⟩ := slice_lh (E := intE) (P := Tryz.prog) (t := 24) (by kernel_rfl) (fun w => by kernel_rfl) Ay cy y x3 (x3 + x4) (by omega) (by omega) (by omega) hcap
            have HV := Lib.hid (hVI _ HY.out.is)
            have HT2 := Lib.hid (HT.out.trans (show _ = some (x ++ (y.take (x3 + x4).toNat).drop x3.toNat) by unfold extO; rw [if_neg (show ¬ ((img.length : Int) / 128 ≤ x1) by have := HSec.out; omega), hop, Option.bind_some, if_pos hcnt]; rfl))
            have hw1 : IntKind.i64.wrap (x3 + x4) = x3 + x4 := IntWalk.i64_in _ (by omega)
            have HVl := Lib.hid (show ((y.take (x3 + x4).toNat).drop x3.toNat).length ≤ 64 by simp; omega)
            clear hy hVI hcap HT HNN
            go_wp2_with (at_builtin; refine Enc.Own.append (E := intE) rfl (.tmp 45) (.tmp 54) 24 rfl w1.heap.size 3 (.int .i64 0) 1 8 Tryz.underlying24 infoIntF rfl rfl (by decide) (by decide) _ x rfl HX4.out _ _ rfl HV.out (by have := HL.out; have := HVl.out; omega) HK4.out.size ?_; intro u5 w5 ho hg)
            have HX5 := Lib.hid ho
            have hr := fun g e => (HX4.out.lt g e).1
            have HK5 := Lib.hid (HK4.out.grown hg hr)
            have HCd5 := Lib.hid (HCd4.out.grown hg (fun e => by have := hr _ e; have := HCod.out.lt; omega) (fun e => by have := hr _ e; have := HCod.out.lt; omega))
            clear ho hg hr
            go_roundg (l.length - (k + 1))
            case measure => omega
            case rel => exact ⟨k + 1, _, by omega, rfl, by go_num, Lib.hid (by rw [List.length_append]; have := HL.out; have := HVl.out; omega), HX5, HT2, HK5, HCd5⟩
          · have e := HNN.out (by unfold extO; rw [if_neg (show ¬ ((img.length : Int) / 128 ≤ x1) by have := HSec.out; omega), hop, Option.bind_some, if_neg hcnt])
            subst e
            go_wp2
            go_ret2
            exact ⟨rfl, HBl4.out⟩
    · obtain rfl : k = l.length := by omega
      have e : o = some x := by rw [HR.out, ← HRn.out, List.take_of_length_le (Nat.le_refl _)]
      subst e
      go_wp2
      go_ret2
      exact ⟨⟨_, rfl, HX.out.low HB1.out.size⟩, HBl.out⟩
end Go.Proofs.YtoocebghlchcoaaGreat.ExtW
