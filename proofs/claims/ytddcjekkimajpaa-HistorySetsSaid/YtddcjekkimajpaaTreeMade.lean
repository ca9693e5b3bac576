/- Contract of tree.made. -/
import Derived.Test.YtddcjekkimajpaaTreeW
import Derived.Test.YtddcjekkimajpaaLib2
import Derived.Test.YtddcjekkimajpaaLib4
namespace Go.Proofs.Ytddcjekkimajpaa.ExtW
open Go.RowKit Go.Ov Go.Proofs.Ytddcjekkimajpaa.Need

def nilH : Head := ⟨none, 0, 0⟩
theorem infoNode : (Try.prog.info? 89).map (fun i => (i.zero, i.size, i.bytes)) = some (some (.agg #[.slice none 0 0, .slice none 0 0, .slice none 0 0]), 3, 72) := by kernel_rfl

theorem szs_at (n k : Nat) (h : k < grp n) : (szs n (grp n))[k]? = some ((sizeM n (grp n) k : Nat) : Int) := by
  unfold szs szI
  rw [List.getElem?_map, List.getElem?_range h]; rfl

set_option maxRecDepth 100000 in
set_option maxHeartbeats 4000000 in
theorem tmade_any (v : Value) (l : List Ext) (w : World) (h : extE.Is w v l) (hn : l.length ≤ 1000) :
    Calls Try.prog 58 #[v] w fun e w' => ∃ h : NH, e = .returned h.v ∧ NodeR w' (madeM l) h ∧ Bl w w' := by
  obtain ⟨A, c, rfl, h1, h2, h3, h4⟩ := h
  have HA := Lib.hid (show extE.Is w (.slice A l.length c) l from ⟨A, c, rfl, h1, h2, h3, h4⟩)
  have hu := Try.underlying89
  have hgn : grp l.length ≤ 1000 := by unfold grp; omega
  clear h4 h1 h2 h3
  go_enter Try.func58, Try.ntmps58
  go_wp2_with fail
  refine (tcut_any l.length _ (by omega)).mono ?_
  rintro e w1 ⟨u, rfl, ho, hb⟩
  have HS := Lib.hid ho
  have HK1 := Lib.hid ((Blk.new w #[.slice none 0 0, .slice none 0 0, .slice none 0 0] 89).bl hb)
  have HB1 := Lib.hid (((Bl.refl w).alloc _).bl hb)
  clear ho hb
  obtain ⟨A2, c2, rfl, _, _, _, at2⟩ := HS.out.is
  rw [szs_len] at *
  have HAT := Lib.hid at2
  clear at2
  have hgi : (grp l.length : Int) ≤ 1000 := by omega
  go_wp2_with fail
  go_loopg [0, 3, 16] (grp l.length) (fun g v0 v3 i wr => ∃ (k : Nat) (hs : List NH), k ≤ grp l.length ∧ g = grp l.length - k ∧ i = .int .i64 k ∧ Hid (extE.Is w1 v0 (l.drop (preM l.length (grp l.length) k))) ∧
    Hid (nodeE.Own 89 wr w1.heap.size v3 hs) ∧ Hid (Stab wr v3.ownBlock fun w' => Stab w' (some w.heap.size) fun w'' => NRows w'' hs (pmap (leafM l) (List.range (grp l.length)) k)) ∧ Hid (Bl w1 wr))
  case atStart => exact ⟨0, [], by omega, rfl, rfl, Lib.hid (by rw [preM_zero]; exact HA.out.bl HB1.out), Lib.hid (Enc.Own.nil _ _ _), Lib.hid (fun w' _ w'' _ => NRows.nil w''), Lib.hid (Bl.refl _)⟩
  case round =>
    obtain ⟨k, hs, hk, rfl, rfl, HV, HO, HR, HB⟩ := hrel
    by_cases hlt : k < grp l.length
    · obtain ⟨A0, c0, rfl, q1, q2, q3, q4⟩ := HV.out
      have hsz := preM_size l.length (grp l.length) k hlt
      have hps := Lib.hid (preM_succ l.length (grp l.length) k)
      have hpm := Lib.hid (pmap_succ (leafM l) (List.range (grp l.length)) k (by simpa using hlt))
      have hle := Lib.hid (show (pmap (leafM l) (List.range (grp l.length)) k).length = k from pmap_len _ _ _ (by simpa using hk))
      obtain ⟨ad2, rfl, d0⟩ := int_at (HAT.out.bl HB.out) k (by rw [szs_len]; exact hlt)
      have hsa : (szs l.length (grp l.length))[k]'(by rw [szs_len]; exact hlt) = ((sizeM l.length (grp l.length) k : Nat) : Int) := by
        have := szs_at l.length k hlt
        rw [List.getElem?_eq_getElem (by rw [szs_len]; exact hlt)] at this
        exact Option.some.inj this
      rw [hsa] at d0
      have hrl : (l.drop (preM l.length (grp l.length) k)).length = l.length - preM l.length (grp l.length) k := List.length_drop
      have hlf : leafM l k = .mk ((l.drop (preM l.length (grp l.length) k)).take (sizeM l.length (grp l.length) k)) [] [] := rfl
      have hdd : l.drop (preM l.length (grp l.length) k + sizeM l.length (grp l.length) k) = (l.drop (preM l.length (grp l.length) k)).drop (sizeM l.length (grp l.length) k) := by rw [List.drop_drop]
      have HLF := Lib.hid hlf
      have HDD := Lib.hid hdd
      have hgk : (List.range (grp l.length))[k]'(by simpa using hlt) = k := by simp
      rw [hgk] at hpm
      clear hsa hlf hdd hgk q4
      generalize l.drop (preM l.length (grp l.length) k) = R at *
      generalize sizeM l.length (grp l.length) k = S at *
      have hSR : S ≤ R.length := by omega
      have hSi : (S : Int) ≤ R.length := by omega
      obtain ⟨V1, hV1, hI1⟩ := slice_h (E := extE) (P := Try.prog) (t := 31) (by kernel_rfl) (fun w => by kernel_rfl) A0 c0 R (S : Int) (by omega) (by omega) q1
      obtain ⟨V2, hV2, hI2⟩ := slice_l (E := extE) (P := Try.prog) (t := 31) (by kernel_rfl) (fun w => by kernel_rfl) A0 c0 R (S : Int) (by omega) (by omega)
      have HI1 := Lib.hid hI1
      have HI2 := Lib.hid hI2
      have hR1 : R.length ≤ 1000 := by omega
      clear hI1 hI2 q3 hsz hrl
      go_wp2_with fail
      refine (tfresh_any V1 (R.take S) _ (HI1.out _ (HV.out.bl HB.out)) (by rw [List.length_take]; omega)).mono ?_
      rintro e w2 ⟨u1, rfl, ho, hb⟩
      have HI3 := Lib.hid ho
      obtain ⟨A3, c3, rfl⟩ := ho.slice
      have HB2 := Lib.hid hb
      clear ho hb
      go_wp2_with (at_builtin; refine Enc.Own.append1L (E := nodeE) rfl (.tmp 20) (.tmp 26) 87 rfl w1.heap.size 89 (.agg #[.slice none 0 0, .slice none 0 0, .slice none 0 0]) 3 72 Try.underlying87 infoNode rfl rfl (by decide) (by decide) u3 hs rfl (HO.out.bl HB2.out) ⟨⟨A3, S, c3⟩, nilH, nilH⟩ _ rfl rfl rfl ?hlen ?hbase ?_; (case hlen => have := hle.out; have := HR.out.here.here.1; omega); (case hbase => exact (HB.out.bl HB2.out).size); intro v1 w3 ho hg hl)
      have HB3 := Lib.hid (((HB.out.bl HB2.out).alloc _).grown hg (fun k hk => (Enc.Own.lt HO.out k hk).1))
      have HO3 := Lib.hid ho
      have hst : Stab w3 v1.ownBlock (fun w' => Stab w' (some w.heap.size) fun w'' => NRows w'' (hs ++ [⟨⟨A3, S, c3⟩, nilH, nilH⟩]) (pmap (leafM l) (List.range (grp l.length)) k ++ [leafM l k])) := by
        have s1 := (HR.out.bl HB2.out).bl ((Bl.refl _).alloc (.cells #[.slice A3 S c3, .slice none 0 0, .slice none 0 0] 89))
        have s2 := Stab.own2 (row := u3.ownBlock) (B := w.heap.size) HI3.out (fun g hg => (Enc.Own.lt HO.out g hg).2) (Nat.lt_of_lt_of_le HK1.out.lt HB.out.size)
        have s3 := s2.bl ((Bl.refl _).alloc (.cells #[.slice A3 S c3, .slice none 0 0, .slice none 0 0] 89))
        refine ((s1.and s3).mono ?_).grow hg hl
        rintro w' ⟨g1, g2⟩
        refine (g1.and g2).mono ?_
        rintro w'' ⟨g1, g2⟩
        refine g1.snoc ?_
        rw [HLF.out]
        exact NodeR.mk' (by have := g2.is; rw [show (R.take S).length = S by rw [List.length_take]; omega] at this; exact this) (Enc.Is.nil _) (Enc.Is.nil _) (NRows.nil _)
      have HST := Lib.hid hst
      have HV3 := Lib.hid (HI2.out _ HV.out)
      clear hst ho hg hl
      go_wp2_with fail
      go_roundg (grp l.length - (k + 1))
      case measure => omega
      case rel => exact ⟨k + 1, _, by omega, rfl, by go_num, Lib.hid (by rw [hps.out, HDD.out]; simpa using HV3.out), HO3, Lib.hid (by rw [hpm.out]; exact HST.out), HB3⟩
    · have hke : k = grp l.length := by omega
      have HR2 := Lib.hid (show Stab wr u3.ownBlock fun w' => Stab w' (some w.heap.size) fun w'' => NRows w'' hs (leavesM l) from by
        have := HR.out
        rw [pmap_all _ _ _ (by simp; omega)] at this
        exact this)
      have HX := Lib.hid (leaves_first l)
      have HT := Lib.hid (show topM (leavesM l) = madeM l from rfl)
      have hll := leavesM_len l
      have HIS := Lib.hid ((Stab.own (row := some w.heap.size) HO.out (fun g hg => by injection hg with hg; rw [← hg]; exact HK1.out.lt)).mono fun w' h => h.is)
      clear HR HV HO HS HAT hke
      go_wp2_with fail
      obtain ⟨wo, rfl⟩ : ∃ wo : World, wo = wr := ⟨_, rfl⟩
      go_loopg [3] (leavesM l).length (fun g v3 wr => ∃ (ns : List NodeM) (hs : List NH), g = ns.length ∧ Hid (Stab wr (some w.heap.size) fun w' => nodeE.Is w' v3 hs ∧ NRows w' hs ns) ∧ Hid (topM ns = madeM l) ∧ Hid (∀ x ∈ ns, x.hasFirst = true) ∧ Hid (ns.length ≤ 1000) ∧ Hid (Bl wo wr))
      case atStart => exact ⟨leavesM l, hs, rfl, Lib.hid (HIS.out.and HR2.out.here), HT, HX, Lib.hid (by omega), Lib.hid (Bl.refl _)⟩
      case round =>
        clear HIS HR2 HT HX hll
        obtain ⟨ns, hs, rfl, HR, HT, HX, HN, HD⟩ := hrel
        obtain ⟨wp, rfl⟩ : ∃ wp : World, wp = wr := ⟨_, rfl⟩
        obtain ⟨A5, c5, rfl, p1, p2, p3, p4⟩ := HR.out.here.1
        have hln := Lib.hid HR.out.here.2.1
        have hn1 := HN.out
        have hln2 : (hs.length : Int) ≤ 1000 := by have := hln.out; omega
        by_cases hlt1 : 1 < hs.length
        · have hlti : (1 : Int) < hs.length := by omega
          have hgg := grp_le hs.length hlt1
          go_wp2_with fail
          refine (tcut_any hs.length _ (by omega)).mono ?_
          rintro e w2 ⟨u, rfl, ho, hb⟩
          have HS := Lib.hid ho
          have HB2 := Lib.hid hb
          clear ho hb p4
          obtain ⟨A6, c6, rfl, _, _, _, at6⟩ := HS.out.is
          rw [szs_len] at *
          have HAT := Lib.hid at6
          clear at6
          have hgi2 : (grp hs.length : Int) ≤ 1000 := by omega
          go_wp2_with fail
          go_loopg [3, 6, 39] (grp hs.length) (fun g v3 v6 i wr => ∃ (k : Nat) (us : List NH), k ≤ grp hs.length ∧ g = grp hs.length - k ∧ i = .int .i64 k ∧ Hid (Stab w2 (some w.heap.size) fun w' => nodeE.Is w' v3 (hs.drop (preM hs.length (grp hs.length) k))) ∧
            Hid (nodeE.Own 89 wr w2.heap.size v6 us) ∧ Hid (Stab wr v6.ownBlock fun w' => Stab w' (some w.heap.size) fun w'' => NRows w'' us (pmap (nodeM ns) (List.range (grp hs.length)) k)) ∧ Hid (Bl w2 wr))
          case atStart => exact ⟨0, [], by omega, rfl, rfl, Lib.hid (by rw [preM_zero]; exact (HR.out.bl HB2.out).mono fun w' h => h.1), Lib.hid (Enc.Own.nil _ _ _), Lib.hid (fun w' _ w'' _ => NRows.nil w''), Lib.hid (Bl.refl _)⟩
          case round =>
            obtain ⟨k, us, hk, rfl, rfl, HV, HO, HU, HE⟩ := hrel
            by_cases hltk : k < grp hs.length
            · obtain ⟨A0, c0, rfl, q1, q2, q3, q4⟩ := HV.out.here
              have hsz := preM_size hs.length (grp hs.length) k hltk
              have hgl : grp hs.length ≤ hs.length := by omega
              have hS1 := size_pos hs.length (grp hs.length) k (by omega) hgl
              have hps := Lib.hid (preM_succ hs.length (grp hs.length) k)
              have hpm := Lib.hid (pmap_succ (nodeM ns) (List.range (grp hs.length)) k (by simpa using hltk))
              have hle := Lib.hid (show (pmap (nodeM ns) (List.range (grp hs.length)) k).length = k from pmap_len _ _ _ (by simpa using hk))
              obtain ⟨ad2, rfl, d0⟩ := int_at (HAT.out.bl HE.out) k (by rw [szs_len]; exact hltk)
              have hsa : (szs hs.length (grp hs.length))[k]'(by rw [szs_len]; exact hltk) = ((sizeM hs.length (grp hs.length) k : Nat) : Int) := by
                have := szs_at hs.length k hltk
                rw [List.getElem?_eq_getElem (by rw [szs_len]; exact hltk)] at this
                exact Option.some.inj this
              rw [hsa] at d0
              have hrl : (hs.drop (preM hs.length (grp hs.length) k)).length = hs.length - preM hs.length (grp hs.length) k := List.length_drop
              have hln2 := hln.out
              have hnf : nodeM ns k = .mk [] (((ns.drop (preM hs.length (grp hs.length) k)).take (sizeM hs.length (grp hs.length) k)).map NodeM.first1) ((ns.drop (preM hs.length (grp hs.length) k)).take (sizeM hs.length (grp hs.length) k)) := by
                unfold nodeM partM; rw [hln2]
              have hnr : Stab w2 (some w.heap.size) fun w' => NRows w' ((hs.drop (preM hs.length (grp hs.length) k)).take (sizeM hs.length (grp hs.length) k)) ((ns.drop (preM hs.length (grp hs.length) k)).take (sizeM hs.length (grp hs.length) k)) := (HR.out.bl HB2.out).mono fun w' h => (h.2.drop _).take _
              have hxx : ∀ x ∈ (ns.drop (preM hs.length (grp hs.length) k)).take (sizeM hs.length (grp hs.length) k), x.hasFirst = true := fun x hx => HX.out x (List.mem_of_mem_drop (List.mem_of_mem_take hx))
              have hdd : hs.drop (preM hs.length (grp hs.length) k + sizeM hs.length (grp hs.length) k) = (hs.drop (preM hs.length (grp hs.length) k)).drop (sizeM hs.length (grp hs.length) k) := by rw [List.drop_drop]
              have HNF := Lib.hid hnf
              have HNR := Lib.hid hnr
              have HXX := Lib.hid hxx
              have HDD := Lib.hid hdd
              have hgk : (List.range (grp hs.length))[k]'(by simpa using hltk) = k := by simp
              rw [hgk] at hpm
              clear hsa hnf hdd hgk q4 hnr hxx hln2
              generalize hs.drop (preM hs.length (grp hs.length) k) = R at *
              generalize (ns.drop (preM hs.length (grp hs.length) k)).take (sizeM hs.length (grp hs.length) k) = T at *
              generalize sizeM hs.length (grp hs.length) k = S at *
              have hSR : S ≤ R.length := by omega
              have hSi : (S : Int) ≤ R.length := by omega
              have hS2 : (S : Int) ≤ 1000 := by omega
              obtain ⟨hV1, hI1⟩ := slice_full (E := nodeE) (P := Try.prog) (t := 87) (by kernel_rfl) (fun w => by kernel_rfl) A0 c0 R S hSR q1
              obtain ⟨V2, hV2, hI2⟩ := slice_l (E := nodeE) (P := Try.prog) (t := 87) (by kernel_rfl) (fun w => by kernel_rfl) A0 c0 R (S : Int) (by omega) (by omega)
              have HI1 := Lib.hid (HV.out.mono fun w' h => hI1 w' h)
              have HI2 := Lib.hid hI2
              have hcc : (S : Int) ≤ c0 := by omega
              clear hI1 hI2 q3 hsz hrl
              go_wp2_with fail
              have htl : T.length = S := by
                have := HNR.out.here.1
                rw [List.length_take] at this; omega
              have HTL := Lib.hid htl
              clear htl
              obtain ⟨wq, rfl⟩ : ∃ wq : World, wq = wr := ⟨_, rfl⟩
              have hB9 : ∃ B9, B9 = wq.heap.size := ⟨_, rfl⟩
              go_loopg [51] S (fun g i wr => ∃ (j : Nat) (fv : Value), j ≤ S ∧ g = S - j ∧ i = .int .i64 j ∧ Hid (Blk wr wq.heap.size #[.slice none 0 0, fv, .slice A0 S S] 89) ∧ Hid (intE.Own 3 wr (wq.heap.size + 1) fv (pmap NodeM.first1 T j)) ∧ Hid (Bl wq wr))
              case atStart => exact ⟨0, .slice none 0 0, by omega, rfl, rfl, Lib.hid (Blk.new _ _ _), Lib.hid (Enc.Own.nil _ _ _), Lib.hid ((Bl.refl _).alloc _)⟩
              case round =>
                obtain ⟨j, fv, hj, rfl, rfl, HK9, HF, HG⟩ := hrel
                have d9 := HK9.out.cell 2
                simp at d9
                by_cases hltj : j < S
                · have hjR : j < (R.take S).length := by rw [List.length_take]; omega
                  have hjT : j < T.length := by have := HTL.out; omega
                  obtain ⟨_, hn⟩ := HNR.out.here.at j hjT
                  obtain ⟨A7, c7, e7, z1, z2, z3, at7⟩ := HI1.out.here
                  simp only [Value.slice.injEq] at e7
                  obtain ⟨rfl, z0, rfl⟩ := e7
                  clear z0 z1 z2 z3
                  obtain ⟨ad, rfl, k0, k1, k2⟩ := node_at (at7.bl (HE.out.bl HG.out)) j hjR
                  have hxf := HXX.out T[j] (List.getElem_mem hjT)
                  have hpn := Lib.hid (pmap_succ NodeM.first1 T j hjT)
                  have hpl := Lib.hid (pmap_len NodeM.first1 T j (by omega))
                  have HN2 := Lib.hid (hn.bl (HE.out.bl HG.out))
                  generalize (R.take S)[j] = h' at *
                  generalize T[j] = x at *
                  generalize pmap NodeM.first1 T j = fs at *
                  simp only [Head.v] at k0 k1 k2
                  have HXF := Lib.hid hxf
                  clear hn hxf at7
                  obtain ⟨A8, c8, rfl⟩ := HF.out.slice
                  have hji : (j : Int) < S := by omega
                  go_wp2_with fail
                  refine wp_region_ways (S := (fun w' => w'.cell? ⟨wr.heap.size, 0, none⟩ = some (.slice h'.a.A h'.a.n h'.a.cap) ∧ w'.cell? ⟨wr.heap.size, 1, none⟩ = some (.slice h'.b.A h'.b.n h'.b.cap) ∧ w'.cell? ⟨wr.heap.size, 2, none⟩ = some (.slice h'.c.A h'.c.n h'.c.cap))) [0, 2, 6] (y := .take 0 (.take 2 (.ev 1 (.ev 3 (.ev 4 (.ev 5 (.take 6 (.ev 7 (.done) (.stop))) (.stop)) (.stop)) (.stop)) (.ev 3 (.ev 1 (.ev 4 (.ev 5 (.take 6 (.ev 7 (.done) (.stop))) (.stop)) (.stop)) (.ev 4 (.ev 1 (.ev 5 (.take 6 (.ev 7 (.done) (.stop))) (.stop)) (.stop)) (.stop))) (.stop))))) (by kernel_rfl) (by kernel_rfl) (by kernel_rfl) ?_ (fun hHeld => ?_)
                  · have hb := ((Blk.new wr #[.slice h'.a.A h'.a.n h'.a.cap, .slice h'.b.A h'.b.n h'.b.cap, .slice h'.c.A h'.c.n h'.c.cap] 89).bl (Bl.refl _).drew).cell
                    exact ⟨hb 0, hb 1, hb 2⟩
                  have HH := Lib.hid hHeld
                  repeat (first | (refine wpWay_take rfl (by rfl) (by intro w hSw; (try dsimp only at hSw); first | (go_simp; done) | (go_simp; with_reducible rfl)) ?_; try simp only [Act.put, List.setIfInBounds_toArray, List.set_cons_zero, List.set_cons_succ]) | (refine wpWay_skip rfl (by rfl) ?_; try simp only [Act.put, List.setIfInBounds_toArray, List.set_cons_zero, List.set_cons_succ]))
                  clear hHeld
                  have GB := Lib.hid ((((Bl.refl wr).alloc (.cells #[.slice h'.a.A h'.a.n h'.a.cap, .slice h'.b.A h'.b.n h'.b.cap, .slice h'.c.A h'.c.n h'.c.cap] 89)).drew))
                  have GC := Lib.hid ((HK9.out.bl GB.out).cell 1)
                  have GS := HH
                  refine wpWay_ev rfl (fun K hK => ?_) ?_
                  · have c1 := GC.out
                    simp at c1
                    go_wp2_with fail
                    clear c1
                    refine ⟨GS.out, ?_⟩
                    repeat (first | (refine wpWay_take rfl (by rfl) (by intro w hSw; (try dsimp only at hSw); first | (go_simp; done) | (go_simp; with_reducible rfl)) ?_; try simp only [Act.put, List.setIfInBounds_toArray, List.set_cons_zero, List.set_cons_succ]) | (refine wpWay_skip rfl (by rfl) ?_; try simp only [Act.put, List.setIfInBounds_toArray, List.set_cons_zero, List.set_cons_succ]))
                    refine wpWay_ev rfl (fun K hK => ?_) wpWay_stop
                    go_wp2_with fail
                    refine (tfirst_any x h' _ (HN2.out.bl GB.out) HXF.out).mono ?_
                    rintro e w3 ⟨rfl, hb⟩
                    replace GC := Lib.hid (hb.cell GC.out)
                    replace GB := Lib.hid (GB.out.bl hb)
                    replace GS := Lib.hid (And.intro (hb.cell GS.out.1) (And.intro (hb.cell GS.out.2.1) (hb.cell GS.out.2.2)))
                    clear hb
                    go_wp2_with fail
                    refine ⟨GS.out, ?_⟩
                    repeat (first | (refine wpWay_take rfl (by rfl) (by intro w hSw; (try dsimp only at hSw); first | (go_simp; done) | (go_simp; with_reducible rfl)) ?_; try simp only [Act.put, List.setIfInBounds_toArray, List.set_cons_zero, List.set_cons_succ]) | (refine wpWay_skip rfl (by rfl) ?_; try simp only [Act.put, List.setIfInBounds_toArray, List.set_cons_zero, List.set_cons_succ]))
                    refine wpWay_ev rfl (fun K hK => ?_) wpWay_stop
                    go_wp2_with fail
                    have hb4 := Bl.alloc (Bl.refl w3) (.cells #[.int .i64 x.first1] 3)
                    have GC2 := Lib.hid (hb4.cell GC.out)
                    have GS2 := Lib.hid (And.intro (hb4.cell GS.out.1) (And.intro (hb4.cell GS.out.2.1) (hb4.cell GS.out.2.2)))
                    clear hb4
                    refine ⟨GS2.out, ?_⟩
                    repeat (first | (refine wpWay_take rfl (by rfl) (by intro w hSw; (try dsimp only at hSw); first | (go_simp; done) | (go_simp; with_reducible rfl)) ?_; try simp only [Act.put, List.setIfInBounds_toArray, List.set_cons_zero, List.set_cons_succ]) | (refine wpWay_skip rfl (by rfl) ?_; try simp only [Act.put, List.setIfInBounds_toArray, List.set_cons_zero, List.set_cons_succ]))
                    refine wpWay_ev rfl (fun K hK => ?_) wpWay_stop
                    go_wp2_with (at_builtin; refine Enc.Own.append1 (E := intE) rfl (.tmp 56) (.tmp 59) 22 rfl (wq.heap.size + 1) 3 (.int .i64 0) 1 8 Try.underlying22 infoIntT rfl rfl (by decide) (by decide) (.slice A8 fs.length c8) fs rfl (HF.out.bl GB.out) x.first1 _ rfl rfl rfl ?hlen ?hbase ?_; (case hlen => have := hpl.out; omega); (case hbase => exact Nat.le_trans HK9.out.lt GB.out.size); intro v5 w4 ho hg)
                    have hne1 : some wq.heap.size ≠ (Value.slice A8 fs.length c8).ownBlock := fun he => by
                      have := (Enc.Own.lt HF.out _ he.symm).1; omega
                    have hne2 : some wr.heap.size ≠ (Value.slice A8 fs.length c8).ownBlock := fun he => by
                      have := (Enc.Own.lt HF.out _ he.symm).2; omega
                    have GS4 := Lib.hid (And.intro (World.grownBy.cell hg GS2.out.1 hne2) (And.intro (World.grownBy.cell hg GS2.out.2.1 hne2) (World.grownBy.cell hg GS2.out.2.2 hne2)))
                    refine ⟨GS4.out, ?_⟩
                    have HK4 := Lib.hid (((HK9.out.bl GB.out).bl ((Bl.refl _).alloc (.cells #[.int .i64 x.first1] 3))).grown hg (fun h => hne1 h.symm))
                    have HB5 := Lib.hid (((HG.out.bl GB.out).alloc _).grown hg (fun k hk => by have := (Enc.Own.lt HF.out k hk).1; omega))
                    have HO5 := Lib.hid ho
                    obtain ⟨A10, c10, rfl⟩ := ho.slice
                    clear hne1 hne2 hg ho
                    repeat (first | (refine wpWay_take rfl (by rfl) (by intro w hSw; (try dsimp only at hSw); first | (go_simp; done) | (go_simp; with_reducible rfl)) ?_; try simp only [Act.put, List.setIfInBounds_toArray, List.set_cons_zero, List.set_cons_succ]) | (refine wpWay_skip rfl (by rfl) ?_; try simp only [Act.put, List.setIfInBounds_toArray, List.set_cons_zero, List.set_cons_succ]))
                    have e0 := HK4.out.cell 1
                    simp at e0
                    have e1 := HK4.out.frozen 1
                    have e2 := HK4.out.lt
                    have e3 := HG.out.size
                    refine wpWay_ev rfl (fun K hK => ?_) wpWay_stop
                    go_wp2_with fail
                    have hnw : wq.heap.size ≠ wr.heap.size := by have := HK9.out.lt; omega
                    refine ⟨⟨?_, ?_, ?_⟩, ?_⟩
                    · rw [World.cell?_setCell_other _ _ _ _ (fun h => hnw (congrArg Addr.block h))]; exact GS4.out.1
                    · rw [World.cell?_setCell_other _ _ _ _ (fun h => hnw (congrArg Addr.block h))]; exact GS4.out.2.1
                    · rw [World.cell?_setCell_other _ _ _ _ (fun h => hnw (congrArg Addr.block h))]; exact GS4.out.2.2
                    refine wpWay_done ?_
                    clear e0 e1 e2 e3
                    go_wp2_with fail
                    go_roundg (S - (j + 1))
                    case measure => omega
                    case rel =>
                      refine ⟨j + 1, _, by omega, rfl, by go_num, Lib.hid (HK4.out.set 1 _), Lib.hid ?_, Lib.hid (Bl.set HB5.out _ _ _ (Nat.le_refl _))⟩
                      have h1 := Enc.Own.set HO5.out wq.heap.size 1 (.slice A10 (fs ++ [x.first1]).length c10) (Nat.lt_succ_self _)
                      rw [hpn.out]
                      simpa using h1
                  · refine wpWay_ev rfl (fun K hK => ?_) wpWay_stop
                    go_wp2_with fail
                    refine (tfirst_any x h' _ (HN2.out.bl GB.out) HXF.out).mono ?_
                    rintro e w3 ⟨rfl, hb⟩
                    replace GC := Lib.hid (hb.cell GC.out)
                    replace GB := Lib.hid (GB.out.bl hb)
                    replace GS := Lib.hid (And.intro (hb.cell GS.out.1) (And.intro (hb.cell GS.out.2.1) (hb.cell GS.out.2.2)))
                    clear hb
                    go_wp2_with fail
                    refine ⟨GS.out, ?_⟩
                    repeat (first | (refine wpWay_take rfl (by rfl) (by intro w hSw; (try dsimp only at hSw); first | (go_simp; done) | (go_simp; with_reducible rfl)) ?_; try simp only [Act.put, List.setIfInBounds_toArray, List.set_cons_zero, List.set_cons_succ]) | (refine wpWay_skip rfl (by rfl) ?_; try simp only [Act.put, List.setIfInBounds_toArray, List.set_cons_zero, List.set_cons_succ]))
                    refine wpWay_ev rfl (fun K hK => ?_) ?_
                    · have c1 := GC.out
                      simp at c1
                      go_wp2_with fail
                      clear c1
                      refine ⟨GS.out, ?_⟩
                      repeat (first | (refine wpWay_take rfl (by rfl) (by intro w hSw; (try dsimp only at hSw); first | (go_simp; done) | (go_simp; with_reducible rfl)) ?_; try simp only [Act.put, List.setIfInBounds_toArray, List.set_cons_zero, List.set_cons_succ]) | (refine wpWay_skip rfl (by rfl) ?_; try simp only [Act.put, List.setIfInBounds_toArray, List.set_cons_zero, List.set_cons_succ]))
                      refine wpWay_ev rfl (fun K hK => ?_) wpWay_stop
                      go_wp2_with fail
                      have hb4 := Bl.alloc (Bl.refl w3) (.cells #[.int .i64 x.first1] 3)
                      have GC2 := Lib.hid (hb4.cell GC.out)
                      have GS2 := Lib.hid (And.intro (hb4.cell GS.out.1) (And.intro (hb4.cell GS.out.2.1) (hb4.cell GS.out.2.2)))
                      clear hb4
                      refine ⟨GS2.out, ?_⟩
                      repeat (first | (refine wpWay_take rfl (by rfl) (by intro w hSw; (try dsimp only at hSw); first | (go_simp; done) | (go_simp; with_reducible rfl)) ?_; try simp only [Act.put, List.setIfInBounds_toArray, List.set_cons_zero, List.set_cons_succ]) | (refine wpWay_skip rfl (by rfl) ?_; try simp only [Act.put, List.setIfInBounds_toArray, List.set_cons_zero, List.set_cons_succ]))
                      refine wpWay_ev rfl (fun K hK => ?_) wpWay_stop
                      go_wp2_with (at_builtin; refine Enc.Own.append1 (E := intE) rfl (.tmp 56) (.tmp 59) 22 rfl (wq.heap.size + 1) 3 (.int .i64 0) 1 8 Try.underlying22 infoIntT rfl rfl (by decide) (by decide) (.slice A8 fs.length c8) fs rfl (HF.out.bl GB.out) x.first1 _ rfl rfl rfl ?hlen ?hbase ?_; (case hlen => have := hpl.out; omega); (case hbase => exact Nat.le_trans HK9.out.lt GB.out.size); intro v5 w4 ho hg)
                      have hne1 : some wq.heap.size ≠ (Value.slice A8 fs.length c8).ownBlock := fun he => by
                        have := (Enc.Own.lt HF.out _ he.symm).1; omega
                      have hne2 : some wr.heap.size ≠ (Value.slice A8 fs.length c8).ownBlock := fun he => by
                        have := (Enc.Own.lt HF.out _ he.symm).2; omega
                      have GS4 := Lib.hid (And.intro (World.grownBy.cell hg GS2.out.1 hne2) (And.intro (World.grownBy.cell hg GS2.out.2.1 hne2) (World.grownBy.cell hg GS2.out.2.2 hne2)))
                      refine ⟨GS4.out, ?_⟩
                      have HK4 := Lib.hid (((HK9.out.bl GB.out).bl ((Bl.refl _).alloc (.cells #[.int .i64 x.first1] 3))).grown hg (fun h => hne1 h.symm))
                      have HB5 := Lib.hid (((HG.out.bl GB.out).alloc _).grown hg (fun k hk => by have := (Enc.Own.lt HF.out k hk).1; omega))
                      have HO5 := Lib.hid ho
                      obtain ⟨A10, c10, rfl⟩ := ho.slice
                      clear hne1 hne2 hg ho
                      repeat (first | (refine wpWay_take rfl (by rfl) (by intro w hSw; (try dsimp only at hSw); first | (go_simp; done) | (go_simp; with_reducible rfl)) ?_; try simp only [Act.put, List.setIfInBounds_toArray, List.set_cons_zero, List.set_cons_succ]) | (refine wpWay_skip rfl (by rfl) ?_; try simp only [Act.put, List.setIfInBounds_toArray, List.set_cons_zero, List.set_cons_succ]))
                      have e0 := HK4.out.cell 1
                      simp at e0
                      have e1 := HK4.out.frozen 1
                      have e2 := HK4.out.lt
                      have e3 := HG.out.size
                      refine wpWay_ev rfl (fun K hK => ?_) wpWay_stop
                      go_wp2_with fail
                      have hnw : wq.heap.size ≠ wr.heap.size := by have := HK9.out.lt; omega
                      refine ⟨⟨?_, ?_, ?_⟩, ?_⟩
                      · rw [World.cell?_setCell_other _ _ _ _ (fun h => hnw (congrArg Addr.block h))]; exact GS4.out.1
                      · rw [World.cell?_setCell_other _ _ _ _ (fun h => hnw (congrArg Addr.block h))]; exact GS4.out.2.1
                      · rw [World.cell?_setCell_other _ _ _ _ (fun h => hnw (congrArg Addr.block h))]; exact GS4.out.2.2
                      refine wpWay_done ?_
                      clear e0 e1 e2 e3
                      go_wp2_with fail
                      go_roundg (S - (j + 1))
                      case measure => omega
                      case rel =>
                        refine ⟨j + 1, _, by omega, rfl, by go_num, Lib.hid (HK4.out.set 1 _), Lib.hid ?_, Lib.hid (Bl.set HB5.out _ _ _ (Nat.le_refl _))⟩
                        have h1 := Enc.Own.set HO5.out wq.heap.size 1 (.slice A10 (fs ++ [x.first1]).length c10) (Nat.lt_succ_self _)
                        rw [hpn.out]
                        simpa using h1
                    · refine wpWay_ev rfl (fun K hK => ?_) wpWay_stop
                      go_wp2_with fail
                      have hb4 := Bl.alloc (Bl.refl w3) (.cells #[.int .i64 x.first1] 3)
                      have GC2 := Lib.hid (hb4.cell GC.out)
                      have GS2 := Lib.hid (And.intro (hb4.cell GS.out.1) (And.intro (hb4.cell GS.out.2.1) (hb4.cell GS.out.2.2)))
                      clear hb4
                      refine ⟨GS2.out, ?_⟩
                      repeat (first | (refine wpWay_take rfl (by rfl) (by intro w hSw; (try dsimp only at hSw); first | (go_simp; done) | (go_simp; with_reducible rfl)) ?_; try simp only [Act.put, List.setIfInBounds_toArray, List.set_cons_zero, List.set_cons_succ]) | (refine wpWay_skip rfl (by rfl) ?_; try simp only [Act.put, List.setIfInBounds_toArray, List.set_cons_zero, List.set_cons_succ]))
                      refine wpWay_ev rfl (fun K hK => ?_) wpWay_stop
                      have c1 := GC2.out
                      simp at c1
                      go_wp2_with fail
                      clear c1
                      refine ⟨GS2.out, ?_⟩
                      repeat (first | (refine wpWay_take rfl (by rfl) (by intro w hSw; (try dsimp only at hSw); first | (go_simp; done) | (go_simp; with_reducible rfl)) ?_; try simp only [Act.put, List.setIfInBounds_toArray, List.set_cons_zero, List.set_cons_succ]) | (refine wpWay_skip rfl (by rfl) ?_; try simp only [Act.put, List.setIfInBounds_toArray, List.set_cons_zero, List.set_cons_succ]))
                      refine wpWay_ev rfl (fun K hK => ?_) wpWay_stop
                      go_wp2_with (at_builtin; refine Enc.Own.append1 (E := intE) rfl (.tmp 56) (.tmp 59) 22 rfl (wq.heap.size + 1) 3 (.int .i64 0) 1 8 Try.underlying22 infoIntT rfl rfl (by decide) (by decide) (.slice A8 fs.length c8) fs rfl (HF.out.bl GB.out) x.first1 _ rfl rfl rfl ?hlen ?hbase ?_; (case hlen => have := hpl.out; omega); (case hbase => exact Nat.le_trans HK9.out.lt GB.out.size); intro v5 w4 ho hg)
                      have hne1 : some wq.heap.size ≠ (Value.slice A8 fs.length c8).ownBlock := fun he => by
                        have := (Enc.Own.lt HF.out _ he.symm).1; omega
                      have hne2 : some wr.heap.size ≠ (Value.slice A8 fs.length c8).ownBlock := fun he => by
                        have := (Enc.Own.lt HF.out _ he.symm).2; omega
                      have GS4 := Lib.hid (And.intro (World.grownBy.cell hg GS2.out.1 hne2) (And.intro (World.grownBy.cell hg GS2.out.2.1 hne2) (World.grownBy.cell hg GS2.out.2.2 hne2)))
                      refine ⟨GS4.out, ?_⟩
                      have HK4 := Lib.hid (((HK9.out.bl GB.out).bl ((Bl.refl _).alloc (.cells #[.int .i64 x.first1] 3))).grown hg (fun h => hne1 h.symm))
                      have HB5 := Lib.hid (((HG.out.bl GB.out).alloc _).grown hg (fun k hk => by have := (Enc.Own.lt HF.out k hk).1; omega))
                      have HO5 := Lib.hid ho
                      obtain ⟨A10, c10, rfl⟩ := ho.slice
                      clear hne1 hne2 hg ho
                      repeat (first | (refine wpWay_take rfl (by rfl) (by intro w hSw; (try dsimp only at hSw); first | (go_simp; done) | (go_simp; with_reducible rfl)) ?_; try simp only [Act.put, List.setIfInBounds_toArray, List.set_cons_zero, List.set_cons_succ]) | (refine wpWay_skip rfl (by rfl) ?_; try simp only [Act.put, List.setIfInBounds_toArray, List.set_cons_zero, List.set_cons_succ]))
                      have e0 := HK4.out.cell 1
                      simp at e0
                      have e1 := HK4.out.frozen 1
                      have e2 := HK4.out.lt
                      have e3 := HG.out.size
                      refine wpWay_ev rfl (fun K hK => ?_) wpWay_stop
                      go_wp2_with fail
                      have hnw : wq.heap.size ≠ wr.heap.size := by have := HK9.out.lt; omega
                      refine ⟨⟨?_, ?_, ?_⟩, ?_⟩
                      · rw [World.cell?_setCell_other _ _ _ _ (fun h => hnw (congrArg Addr.block h))]; exact GS4.out.1
                      · rw [World.cell?_setCell_other _ _ _ _ (fun h => hnw (congrArg Addr.block h))]; exact GS4.out.2.1
                      · rw [World.cell?_setCell_other _ _ _ _ (fun h => hnw (congrArg Addr.block h))]; exact GS4.out.2.2
                      refine wpWay_done ?_
                      clear e0 e1 e2 e3
                      go_wp2_with fail
                      go_roundg (S - (j + 1))
                      case measure => omega
                      case rel =>
                        refine ⟨j + 1, _, by omega, rfl, by go_num, Lib.hid (HK4.out.set 1 _), Lib.hid ?_, Lib.hid (Bl.set HB5.out _ _ _ (Nat.le_refl _))⟩
                        have h1 := Enc.Own.set HO5.out wq.heap.size 1 (.slice A10 (fs ++ [x.first1]).length c10) (Nat.lt_succ_self _)
                        rw [hpn.out]
                        simpa using h1
                · have hfs : pmap NodeM.first1 T j = T.map NodeM.first1 := pmap_all _ _ _ (by have := HTL.out; omega)
                  have HF2 := Lib.hid (show intE.Own 3 wr (wq.heap.size + 1) fv (T.map NodeM.first1) by rw [← hfs]; exact HF.out)
                  clear hfs HF
                  generalize T.map NodeM.first1 = fs at *
                  obtain ⟨A8, c8, rfl⟩ := HF2.out.slice
                  have d0 := HK9.out.cell 0
                  have d1 := HK9.out.cell 1
                  simp at d0 d1
                  go_wp2_with (at_builtin; refine Enc.Own.append1L (E := nodeE) rfl (.tmp 63) (.tmp 65) 87 rfl w2.heap.size 89 (.agg #[.slice none 0 0, .slice none 0 0, .slice none 0 0]) 3 72 Try.underlying87 infoNode rfl rfl (by decide) (by decide) u6 us rfl (HO.out.bl HG.out) ⟨nilH, ⟨A8, fs.length, c8⟩, ⟨A0, S, S⟩⟩ _ rfl rfl rfl ?hlen ?hbase ?_; (case hlen => have := hle.out; have := HU.out.here.here.1; omega); (case hbase => exact (HE.out.bl HG.out).size); intro v1 w3 ho hg hl)
                  have HE3 := Lib.hid (((HE.out.bl HG.out).alloc _).grown hg (fun k hk => (Enc.Own.lt HO.out k hk).1))
                  have HO3 := Lib.hid ho
                  have hst : Stab w3 v1.ownBlock (fun w' => Stab w' (some w.heap.size) fun w'' => NRows w'' (us ++ [⟨nilH, ⟨A8, fs.length, c8⟩, ⟨A0, S, S⟩⟩]) (pmap (nodeM ns) (List.range (grp hs.length)) k ++ [nodeM ns k])) := by
                    have s1 := HU.out.bl HG.out
                    have hw9 : w.heap.size < wq.heap.size + 1 := by have := HK1.out.lt; have := (((HB.out.bl HD.out).bl HB2.out).bl HE.out).size; omega
                    have s2 := Stab.own2 (row := u6.ownBlock) (B := w.heap.size) HF2.out (fun g hg => by have := (Enc.Own.lt HO.out g hg).2; omega) hw9
                    have s3 := Stab.old (W := w2) (w := wr) (row := u6.ownBlock) (P := fun w' => Stab w' (some w.heap.size) fun w'' => nodeE.Is w'' (.slice A0 S S) (R.take S) ∧ NRows w'' (R.take S) T) (fun h hb => h.bl hb) (HI1.out.and HNR.out) (HE.out.bl HG.out) (fun g hg => (Enc.Own.lt HO.out g hg).1)
                    refine (((s1.and (s2.and s3)).bl ((Bl.refl _).alloc (.cells #[.slice none 0 0, .slice A8 fs.length c8, .slice A0 S S] 89))).mono ?_).grow hg hl
                    rintro w' ⟨g1, g2, g3⟩
                    refine (g1.and (g2.and g3)).mono ?_
                    rintro w'' ⟨g1, g2, g3, g4⟩
                    refine g1.snoc ?_
                    rw [HNF.out]
                    exact NodeR.mk' (Enc.Is.nil _) g2.is g3 g4
                  have HST := Lib.hid hst
                  have HV3 := Lib.hid (HV.out.mono fun w' h => HI2.out w' h)
                  clear hst ho hg hl d0 d1
                  go_wp2_with fail
                  go_roundg (grp hs.length - (k + 1))
                  case measure => omega
                  case rel => exact ⟨k + 1, _, by omega, rfl, by go_num, Lib.hid (by rw [hps.out, HDD.out]; simpa using HV3.out), HO3, Lib.hid (by rw [hpm.out]; exact HST.out), HE3⟩
            · have hke : k = grp hs.length := by omega
              have hup : pmap (nodeM ns) (List.range (grp hs.length)) k = upM ns := by
                rw [pmap_all _ _ _ (by simp; omega), hln.out]; rfl
              have HU2 := Lib.hid (show Stab wr (some w.heap.size) (fun w' => NRows w' us (upM ns)) by rw [← hup]; exact HU.out.here)
              have HO2 := Lib.hid ((Stab.own (row := some w.heap.size) HO.out (fun g hg => by injection hg with hg; rw [← hg]; exact Nat.lt_of_lt_of_le HK1.out.lt (((HB.out.bl HD.out).bl HB2.out).size))).mono fun w' h => h.is)
              clear hup HU hke
              go_wp2_with fail
              go_roundg (upM ns).length
              case measure => rw [upM_len]; have := hln.out; rw [← this]; exact hgg
              case rel =>
                refine ⟨upM ns, us, rfl, Lib.hid (HO2.out.and HU2.out), Lib.hid ?_, Lib.hid (up_first ns HX.out), Lib.hid ?_, Lib.hid ((HD.out.bl HB2.out).bl HE.out)⟩
                · rw [← topM_up ns (by have := hln.out; omega)]; exact HT.out
                · rw [upM_len]; have := hln.out; rw [← this]; omega
        · have hB := Lib.hid ((HB1.out.bl HB.out).bl HD.out)
          have HK := Lib.hid ((HK1.out.bl HB.out).bl HD.out)
          have z0 := HK.out.cell 0
          have z1 := HK.out.cell 1
          have z2 := HK.out.cell 2
          simp at z0 z1 z2
          have z3 := HK.out.frozen 0
          have z4 := HK.out.frozen 1
          have z5 := HK.out.frozen 2
          have z6 := HK.out.lt
          have htn := topM_one ns (by have := hln.out; omega)
          rw [HT.out] at htn
          have HTN := Lib.hid htn
          clear htn
          cases hs with
          | nil =>
            have hns : ns = [] := List.eq_nil_of_length_eq_zero hln.out.symm
            subst hns
            go_wp2_with fail
            refine bodyPost_ret (v := .agg #[.slice none 0 0, .slice none 0 0, .slice none 0 0]) (by simp [results, Try.results58, go_sem, z0, z1, z2]) rfl ⟨⟨nilH, nilH, nilH⟩, rfl, ?_, ?_⟩
            · rw [HTN.out]; exact NodeR.mk' (Enc.Is.nil _) (Enc.Is.nil _) (Enc.Is.nil _) (NRows.nil _)
            · iterate 3 refine Bl.set ?_ _ _ _ (Nat.le_refl _)
              exact hB.out
          | cons h0 hs =>
            have hl0 : hs = [] := by
              cases hs with
              | nil => rfl
              | cons a b => simp at hlt1
            subst hl0
            have hns : ∃ n, ns = [n] := by
              have := hln.out
              cases ns with
              | nil => simp at this
              | cons n b => cases b with
                | nil => exact ⟨n, rfl⟩
                | cons c d => simp at this
            obtain ⟨n, rfl⟩ := hns
            obtain ⟨ad, rfl, k0, k1, k2⟩ := node_at0 p4 (by simp)
            simp only [List.getElem_cons_zero, Head.v] at k0 k1 k2
            have HN0 := Lib.hid (HR.out.mono fun w' h => h.2.2 0 n h0 rfl rfl)
            go_wp2_with fail
            refine bodyPost_ret (v := .agg #[.slice h0.a.A h0.a.n h0.a.cap, .slice h0.b.A h0.b.n h0.b.cap, .slice h0.c.A h0.c.n h0.c.cap]) (by simp [results, Try.results58, go_sem, z0, z1, z2]) rfl ⟨h0, rfl, ?_, ?_⟩
            · rw [HTN.out]
              exact (((HN0.out.set _ _).set _ _).set _ _).here
            · iterate 3 refine Bl.set ?_ _ _ _ (Nat.le_refl _)
              exact hB.out
end Go.Proofs.Ytddcjekkimajpaa.ExtW
