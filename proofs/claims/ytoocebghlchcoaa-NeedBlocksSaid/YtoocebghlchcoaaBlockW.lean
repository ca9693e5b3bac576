/- Contracts of block.Coder: New, sum, Seal, right. -/
import Derived.Test.YtoocebghlchcoaaOnceD
import Derived.Test.YtoocebghlchcoaaKpP
import Derived.Test.YtoocebghlchcoaaFrameE
namespace Go.Proofs.Ytoocebghlchcoaa.ExtW
open Go.RowKit Go.Ov Go.Proofs.Ytoocebghlchcoaa.Need

theorem aadd_any (a : Addr) (x d : Int) (w : World) (h : w.cell? a = some (.int .i64 x)) (f : w.frozen? a = false) :
    Calls Try.prog 21 #[.pointer (some a), .int .i64 d] w fun e w' => e = .returned (.int .i64 (wrap64 (x + d))) ∧ w' = w.setCell a (.int .i64 (wrap64 (x + d))) := by
  have hadd := run_call_add (P := Try.prog) Try.func29 (by kernel_rfl) (by kernel_rfl) (by kernel_rfl) .i64 (by kernel_rfl) (y := d) (s := wrap64 (x + d)) h f (by simp [go_sem, IntKind.wrap_i64]; unfold wrap64; rfl)
  go_enter Try.func21, Try.ntmps21
  go_wp2
  go_ret
  exact ⟨rfl, rfl⟩
/-- a coder in block C, its table in block B -/
structure CodSt (w : World) (C B : Nat) : Prop where
  cod : ∃ s o : Int, Blk w C #[.pointer (some ⟨B, 0, none⟩), .int .i64 s, .int .i64 o] 42
  tab : TabSt w B
theorem TabSt.any {w : World} {B : Nat} (h : TabSt w B) : ∃ cs, Blk w B cs 59 := by
  rcases h with h | h
  · exact ⟨_, h⟩
  · exact ⟨_, h⟩
theorem CodSt.ne {w : World} {C B : Nat} (h : CodSt w C B) : C ≠ B := fun e => by
  subst e
  obtain ⟨s, o, h1⟩ := h.cod
  obtain ⟨cs, h2⟩ := h.tab.any
  unfold Blk at h1 h2
  rw [h1] at h2
  injection h2 with h2
  injection h2 with _ h2 _
  cases h2
theorem TabSt.bl {w w' : World} {B : Nat} (h : TabSt w B) (hb : Bl w w') : TabSt w' B := by
  rcases h with h | h
  · exact .inl (h.bl hb)
  · exact .inr (h.bl hb)
theorem TabSt.kp {w w' : World} {B : Nat} {G : Nat → Bool} (h : TabSt w B) (hb : Kp G w w') (hg : G B = true) : TabSt w' B := by
  rcases h with h | h
  · exact .inl (hb.blk h hg)
  · exact .inr (hb.blk h hg)
theorem CodSt.bl {w w' : World} {C B : Nat} (h : CodSt w C B) (hb : Bl w w') : CodSt w' C B := by
  obtain ⟨s, o, h1⟩ := h.cod
  exact ⟨⟨s, o, h1.bl hb⟩, h.tab.bl hb⟩
theorem CodSt.lt {w : World} {C B : Nat} (h : CodSt w C B) : C < w.heap.size ∧ B < w.heap.size := by
  obtain ⟨s, o, h1⟩ := h.cod
  obtain ⟨cs, h2⟩ := h.tab.any
  exact ⟨h1.lt, h2.lt⟩

theorem knew_any (w : World) : Calls Try.prog 5 #[] w fun e w' => ∃ C B, e = .returned (.pointer (some ⟨C, 0, none⟩)) ∧ Bl w w' ∧ w.heap.size ≤ C ∧ w.heap.size ≤ B ∧ CodSt w' C B := by
  go_enter Try.func5, Try.ntmps5
  go_wp2_with fail
  refine (cnew_any _).mono ?_
  rintro e w1 ⟨rfl, hb, hk⟩
  have HB := Lib.hid hb
  have HK := Lib.hid hk
  clear hb hk
  go_wp2
  go_ret
  exact ⟨_, _, rfl, HB.out.alloc _, HB.out.size, Nat.le_refl _, ⟨0, 0, Blk.newC _ _ rfl⟩, .inl (HK.out.bl ((Bl.refl _).alloc _))⟩

set_option maxRecDepth 100000 in
set_option maxHeartbeats 1000000 in
theorem ksum_any (C B : Nat) (vb : Value) (l : List Int) (w : World) (h : CodSt w C B) (hb : byteE.Is (only w (nb2 C B)) vb l) (hl : l.length ≤ 1000000) (ho : okB l) :
    Calls Try.prog 22 #[.pointer (some ⟨C, 0, none⟩), vb] w fun e w' => ∃ u, e = .returned u ∧ byteE.Own 5 w' w.heap.size u (sum4 l) ∧ CodSt w' C B ∧ Kp (nb2 C B) w w' := by
  have HC := Lib.hid h
  have HX := Lib.hid ((Sub.mono (G' := nb1 B) (fun b hb => by simp [nb1]; exact (nb2_iff.1 hb).2)).is hb)
  have HO := Lib.hid ho
  obtain ⟨s, o, hk⟩ := h.cod
  have c0 := hk.cell 0
  simp at c0
  clear h hb ho hk
  go_enter Try.func22, Try.ntmps22
  go_wp2_with fail
  refine (csum_any B vb l _ HC.out.tab HX.out hl HO.out).mono ?_
  rintro e w1 ⟨rfl, ht, hg⟩
  have HC1 := Lib.hid (show CodSt w1 C B from by
    obtain ⟨s, o, hk⟩ := HC.out.cod
    exact ⟨⟨s, o, hk.grown hg (fun e => HC.out.ne (by injection e with e; exact e.symm))⟩, ht⟩)
  have HG := Lib.hid hg
  obtain ⟨q, hq⟩ : ∃ q, q = crcSum l := ⟨_, rfl⟩
  rw [← hq]
  have HQ := Lib.hid hq
  have hlt := q.isLt
  clear ht hg hq
  go_wp2
  go_ret
  refine ⟨_, rfl, Enc.Own.lit (E := byteE) w1 _ (sum4 l) _ ?_ 4 rfl HG.out.size (by decide) rfl, HC1.out.bl ((Bl.refl _).alloc _), (Kp.of_gb HG.out (fun k hk => by injection hk with hk; subst hk; exact nb2_r _ _)).trans (Kp.of_bl ((Bl.refl _).alloc _))⟩
  rw [byte_flat]
  unfold sum4
  rw [← HQ.out]
  simp

theorem lay_pad (l : List Int) (h : l.length ≤ 124) : lay (List.replicate 124 0) 0 (l.take (min l.length 124)) = padB l := by
  unfold lay padB
  rw [Nat.min_eq_left h, List.take_length, List.take_zero, List.nil_append, Nat.zero_add, List.drop_replicate]
theorem pad_ok {l : List Int} (h : okB l) : okB (padB l) := fun c hc => by
  unfold padB at hc
  rcases List.mem_append.1 hc with h1 | h1
  · exact h c h1
  · obtain ⟨_, rfl⟩ := List.mem_replicate.1 h1; omega
set_option maxRecDepth 100000 in
set_option maxHeartbeats 1000000 in
theorem kseal_any (C B : Nat) (vb : Value) (l : List Int) (w : World) (h : CodSt w C B) (hb : byteE.Is (only w (nb2 C B)) vb l) (hl : l.length ≤ 124) (ho : okB l) (hne : l ≠ []) :
    Calls Try.prog 16 #[.pointer (some ⟨C, 0, none⟩), vb] w fun e w' => ∃ u, e = .returned (.tuple #[u, .int .i64 0]) ∧ byteE.Own 5 w' w.heap.size u (sealM l) ∧ CodSt w' C B ∧ Kp (nb2 C B) w w' := by
  have HC := Lib.hid h
  have HX := Lib.hid hb
  have HO := Lib.hid ho
  have HNE := Lib.hid hne
  have hlt := HC.out.lt
  obtain ⟨A, c, rfl, h1, h2, h3, h4⟩ := hb
  have hli : ¬ (124 : Int) < l.length := by omega
  clear h h1 h2 h3 h4 ho hne
  obtain ⟨Z, hZ⟩ : ∃ Z, Z = rowB (List.replicate 124 0) := ⟨_, rfl⟩
  have hmk : ∀ w, (Instr.makeSlice 44 (.int .i64 124) (.int .i64 124)).run Try.prog w = .ok (.slice (some ⟨w.heap.size, 0, none⟩) 124 124) (w.alloc (.cells Z 5)) := fun w => by
    have := run_make_row' (P := Try.prog) 44 5 (.int .u8 0) 1 Try.underlying44 infoByte rfl .i64 .i64 124 (by omega) (by omega) w
    rw [hZ, ← row_made]; exact this
  have HB1 := Lib.hid ((Bl.refl w).alloc (.cells Z 5))
  have HZ := Lib.hid (show Blk (w.alloc (.cells Z 5)) w.heap.size (rowB (List.replicate 124 0)) 5 by rw [← hZ]; exact Blk.new _ _ _)
  obtain ⟨R, hR⟩ : ∃ R, R = rowB (padB l) := ⟨_, rfl⟩
  have hcp : ∀ ty, (Builtin.copy_ #[44, 44] ty #[.slice (some ⟨w.heap.size, 0, none⟩) 124 124, .slice A l.length c]).run Try.prog (w.alloc (.cells Z 5)) = .ok (goInt (min l.length 124 : Nat)) ((w.alloc (.cells Z 5)).setRow w.heap.size R) := fun ty => by
    rw [hR, ← lay_pad l hl]
    exact byte_copy (P := Try.prog) _ _ _ _ 5 _ 0 124 124 A c (List.replicate 124 0) l _ Try.underlying44 (by kernel_rfl) HZ.out (((Sub.un _ _).is HX.out).bl HB1.out) HNE.out (by rw [List.length_replicate]; omega)
  have HP := Lib.hid (show Blk ((w.alloc (.cells Z 5)).setRow w.heap.size R) w.heap.size (rowB (padB l)) 5 by rw [hR]; exact blk_setRow HZ.out)
  have HK := Lib.hid (show Kp (nb2 C B) w ((w.alloc (.cells Z 5)).setRow w.heap.size R) from ⟨rfl, rfl, rfl, by rw [setRow_size]; exact HB1.out.size, fun k hk _ => by rw [setRow_other _ _ _ _ (by omega)]; exact HB1.out.block k hk⟩)
  have HC2 := Lib.hid (show CodSt ((w.alloc (.cells Z 5)).setRow w.heap.size R) C B from by
    refine HC.out.bl ⟨rfl, rfl, rfl, by rw [setRow_size]; exact HB1.out.size, fun k hk => by rw [setRow_other _ _ _ _ (by omega)]; exact HB1.out.block k hk⟩)
  clear hZ hR
  obtain ⟨s, o, hk⟩ := HC2.out.cod
  have c1 := hk.cell 1
  simp at c1
  have f1 := hk.frozen 1
  have HC3 := Lib.hid (show CodSt (((w.alloc (.cells Z 5)).setRow w.heap.size R).setCell ⟨C, 1, none⟩ (.int .i64 (wrap64 (s + 1)))) C B from ⟨⟨_, o, by have := hk.set 1 (.int .i64 (wrap64 (s + 1))); simpa using this⟩, by
    rcases HC2.out.tab with h | h
    · exact .inl (h.set_else _ _ _ HC2.out.ne)
    · exact .inr (h.set_else _ _ _ HC2.out.ne)⟩)
  have HP3 := Lib.hid (HP.out.set_else C 1 (.int .i64 (wrap64 (s + 1))) (by omega))
  have HK3 := Lib.hid (HK.out.trans (Kp.of_gb (setCell_grown _ C 1 (.int .i64 (wrap64 (s + 1)))) (fun k hk => by injection hk with hk; subst hk; exact nb2_l _ _)))
  clear hk
  go_enter Try.func16, Try.ntmps16
  go_wp2_with (go_at_call 21; refine (aadd_any ⟨C, 1, none⟩ s 1 _ c1 f1).mono ?_; rintro e w' ⟨rfl, rfl⟩)
  generalize (((w.alloc (.cells Z 5)).setRow w.heap.size R).setCell ⟨C, 1, none⟩ (.int .i64 (wrap64 (s + 1)))) = w3 at *
  have HOw := Lib.hid (own_row (base := w.heap.size) HP3.out (Nat.le_refl _) (n := 124) (padB_len hl).symm (by decide))
  refine (ksum_any C B _ (padB l) _ HC3.out (HOw.out.isM (fun k hk => nb2_iff.2 (by omega))) (by rw [padB_len hl]; omega) (pad_ok HO.out)).mono ?_
  rintro e w4 ⟨u, rfl, hu, hc4, hk4⟩
  have HU := Lib.hid hu
  have HC4 := Lib.hid hc4
  have HK4 := Lib.hid (HK3.out.trans hk4)
  have HO4 := Lib.hid (hk4.own HOw.out (fun k hk => nb2_iff.2 (by have := (HOw.out.lt k hk).1; omega)))
  clear hu hc4 hk4
  go_wp2_with (at_builtin; refine Enc.Own.append (E := byteE) rfl _ _ 44 rfl w.heap.size 5 (.int .u8 0) 1 1 Try.underlying44 infoByte rfl rfl (by decide) (by decide) _ (padB l) rfl HO4.out _ _ rfl HU.out.is ?hlen HK4.out.size ?_; (case hlen => rw [padB_len hl]; simp [sum4]); intro u5 w5 ho hg)
  go_ret2
  refine ⟨u5, rfl, ho, ?_, ⟨hg.os.trans HK4.out.os, hg.tape.trans HK4.out.tape, hg.output.trans HK4.out.output, Nat.le_trans HK4.out.size hg.size, fun k hk hq => ?_⟩⟩
  · obtain ⟨s, o, hk⟩ := HC4.out.cod
    refine ⟨⟨s, o, hk.grown hg (fun e => by have e := Option.some.inj e; simp only at e; omega)⟩, ?_⟩
    rcases HC4.out.tab with h | h
    · exact .inl (h.grown hg (fun e => by have e := Option.some.inj e; simp only at e; omega))
    · exact .inr (h.grown hg (fun e => by have e := Option.some.inj e; simp only at e; omega))
  · rw [hg.block k (Nat.lt_of_lt_of_le hk HK4.out.size) (fun e => by have e := Option.some.inj e; simp only at e; omega)]
    exact HK4.out.block k hk hq

theorem kright_any (v : Value) (l : List Int) (w : World) (h : intE.Is w v l) (hn : l.length ≤ 1000000) :
    Calls Try.prog 11 #[v] w fun e w' => e = .returned (.bool (l.all okS)) ∧ w' = w := by
  obtain ⟨A, c, rfl, h1, h2, h3, h4⟩ := h
  have HA := Lib.hid h4
  clear h1 h2 h3 h4
  obtain ⟨r, hr⟩ : ∃ r, r = l.all okS := ⟨_, rfl⟩
  rw [← hr]
  have HR := Lib.hid hr
  clear hr
  go_enter Try.func11, Try.ntmps11
  go_wp2_with fail
  go_loopg [7] l.length (fun gk i wr => ∃ k : Nat, k ≤ l.length ∧ gk = l.length - k ∧ i = .int .i64 k ∧ Hid ((l.take k).all okS = true) ∧ wr = w)
  case atStart => exact ⟨0, by omega, rfl, rfl, Lib.hid (by simp), rfl⟩
  case round =>
    obtain ⟨k, hk, hgk, rfl, HK, hw⟩ := hrel
    obtain rfl : w = wr := hw.symm
    by_cases hlt : k < l.length
    · have hlti : (k : Int) < l.length := by omega
      obtain ⟨ad, rfl, c0⟩ := int_at HA.out k hlt
      obtain ⟨x, hx⟩ : ∃ x, x = l[k] := ⟨_, rfl⟩
      rw [← hx] at c0
      have HX := Lib.hid hx
      clear hx
      go_wp2_with fail
      refine (xsample_any _ _).mono ?_
      rintro e w' ⟨rfl, rfl⟩
      cases hz : okS x
      · have HF := Lib.hid (show r = false by
          rw [HR.out, Bool.eq_false_iff]
          intro h
          rw [List.all_eq_true] at h
          have := h _ (List.getElem_mem hlt)
          rw [← HX.out, hz] at this
          cases this)
        clear HR
        go_wp2
        go_ret
        exact ⟨by rw [HF.out]; rfl, rfl⟩
      · go_wp2
        go_roundg (l.length - (k + 1))
        case measure => omega
        case rel => exact ⟨k + 1, by omega, rfl, by go_num, Lib.hid (by rw [List.take_succ_eq_append_getElem hlt, List.all_append, HK.out, ← HX.out]; simp [hz]), rfl⟩
    · obtain rfl : k = l.length := by omega
      have HF := Lib.hid (show r = true by rw [HR.out]; have := HK.out; rwa [List.take_of_length_le (Nat.le_refl _)] at this)
      clear HR
      go_wp2
      go_ret
      exact ⟨by rw [HF.out]; rfl, rfl⟩
end Go.Proofs.Ytoocebghlchcoaa.ExtW
