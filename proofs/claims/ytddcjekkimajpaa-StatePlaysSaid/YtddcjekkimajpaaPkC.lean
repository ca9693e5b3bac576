/- Several texts joined (see each one's head). -/
import Derived.Test.YtddcjekkimajpaaPkB
import Derived.Test.YtddcjekkimajpaaPkA
import Derived.Deep.RegionHeld3
import Derived.Deep.DeepMust
import Derived.IntWalk
/- Contract of tree.made. -/
namespace Go.Proofs.Ytddcjekkimajpaa.ExtW
open Go.RowKit Go.Ov Go.Proofs.Ytddcjekkimajpaa.Need

def nilH : Head := ⟨none, 0, 0⟩
theorem infoNode : (Try.prog.info? 89).map (fun i => (i.zero, i.size, i.bytes)) = some (some (.agg #[.slice none 0 0, .slice none 0 0, .slice none 0 0]), 3, 72) := by kernel_rfl

theorem szs_at (n k : Nat) (h : k < grp n) : (szs n (grp n))[k]? = some ((sizeM n (grp n) k : Nat) : Int) := by
  unfold szs szI
  rw [List.getElem?_map, List.getElem?_range h]; rfl

set_option maxRecDepth 100000 in
set_option maxHeartbeats 4000000 in
theorem tmade_G (v : Value) (l : List Ext) (w : World) (h : extE.Is w v l) (hn : l.length ≤ 1000) :
    Calls Try.prog 58 #[v] w fun e w' => ∃ h : NH, e = .returned h.v ∧ NodeR (only w' (fr w)) (madeM l) h ∧ Bl w w' := by
  obtain ⟨A, c, rfl, h1, h2, h3, h4⟩ := h
  have HA := Lib.hid (show extE.Is w (.slice A l.length c) l from ⟨A, c, rfl, h1, h2, h3, h4⟩)
  have hu := Try.underlying89
  have hgn : grp l.length ≤ 1000 := by unfold grp; omega
  clear h4 h1 h2 h3
  go_enter Try.func58, Try.ntmps58
  go_wp2_with fail
  refine (tcut_any l.length _ (by omega)).mono ?_
  rintro e w1 ⟨u, rfl, ho, hb⟩
  have HS := Lib.hid ho
  have HK1 := Lib.hid ((Blk.new w #[.slice none 0 0, .slice none 0 0, .slice none 0 0] 89).bl hb)
  have HB1 := Lib.hid (((Bl.refl w).alloc _).bl hb)
  clear ho hb
  obtain ⟨A2, c2, rfl, _, _, _, at2⟩ := HS.out.is
  rw [szs_len] at *
  have HAT := Lib.hid at2
  clear at2
  have hgi : (grp l.length : Int) ≤ 1000 := by omega
  go_wp2_with fail
  go_loopg [0, 3, 16] (grp l.length) (fun g v0 v3 i wr => ∃ (k : Nat) (hs : List NH), k ≤ grp l.length ∧ g = grp l.length - k ∧ i = .int .i64 k ∧ Hid (extE.Is w1 v0 (l.drop (preM l.length (grp l.length) k))) ∧
    Hid (nodeE.Own 89 wr w1.heap.size v3 hs) ∧ Hid (Stab wr v3.ownBlock fun w' => Stab w' (some w.heap.size) fun w'' => NRows (only w'' (fr w)) hs (pmap (leafM l) (List.range (grp l.length)) k)) ∧ Hid (Bl w1 wr))
  case atStart => exact ⟨0, [], by omega, rfl, rfl, Lib.hid (by rw [preM_zero]; exact HA.out.bl HB1.out), Lib.hid (Enc.Own.nil _ _ _), Lib.hid (fun w' _ w'' _ => NRows.nil _), Lib.hid (Bl.refl _)⟩
  case round =>
    obtain ⟨k, hs, hk, rfl, rfl, HV, HO, HR, HB⟩ := hrel
    by_cases hlt : k < grp l.length
    · obtain ⟨A0, c0, rfl, q1, q2, q3, q4⟩ := HV.out
      have hsz := preM_size l.length (grp l.length) k hlt
      have hps := Lib.hid (preM_succ l.length (grp l.length) k)
      have hpm := Lib.hid (pmap_succ (leafM l) (List.range (grp l.length)) k (by simpa using hlt))
      have hle := Lib.hid (show (pmap (leafM l) (List.range (grp l.length)) k).length = k from pmap_len _ _ _ (by simpa using hk))
      obtain ⟨ad2, rfl, d0⟩ := int_at (HAT.out.bl HB.out) k (by rw [szs_len]; exact hlt)
      have hsa : (szs l.length (grp l.length))[k]'(by rw [szs_len]; exact hlt) = ((sizeM l.length (grp l.length) k : Nat) : Int) := by
        have := szs_at l.length k hlt
        rw [List.getElem?_eq_getElem (by rw [szs_len]; exact hlt)] at this
        exact Option.some.inj this
      rw [hsa] at d0
      have hrl : (l.drop (preM l.length (grp l.length) k)).length = l.length - preM l.length (grp l.length) k := List.length_drop
      have hlf : leafM l k = .mk ((l.drop (preM l.length (grp l.length) k)).take (sizeM l.length (grp l.length) k)) [] [] := rfl
      have hdd : l.drop (preM l.length (grp l.length) k + sizeM l.length (grp l.length) k) = (l.drop (preM l.length (grp l.length) k)).drop (sizeM l.length (grp l.length) k) := by rw [List.drop_drop]
      have HLF := Lib.hid hlf
      have HDD := Lib.hid hdd
      have hgk : (List.range (grp l.length))[k]'(by simpa using hlt) = k := by simp
      rw [hgk] at hpm
      clear hsa hlf hdd hgk q4
      generalize l.drop (preM l.length (grp l.length) k) = R at *
      generalize sizeM l.length (grp l.length) k = S at *
      have hSR : S ≤ R.length := by omega
      have hSi : (S : Int) ≤ R.length := by omega
      obtain ⟨V1, hV1, hI1⟩ := slice_h (E := extE) (P := Try.prog) (t := 31) (by kernel_rfl) (fun w => by kernel_rfl) A0 c0 R (S : Int) (by omega) (by omega) q1
      obtain ⟨V2, hV2, hI2⟩ := slice_l (E := extE) (P := Try.prog) (t := 31) (by kernel_rfl) (fun w => by kernel_rfl) A0 c0 R (S : Int) (by omega) (by omega)
      have HI1 := Lib.hid hI1
      have HI2 := Lib.hid hI2
      have hR1 : R.length ≤ 1000 := by omega
      clear hI1 hI2 q3 hsz hrl
      go_wp2_with fail
      refine (tfresh_any V1 (R.take S) _ (HI1.out _ (HV.out.bl HB.out)) (by rw [List.length_take]; omega)).mono ?_
      rintro e w2 ⟨u1, rfl, ho, hb⟩
      have HI3 := Lib.hid ho
      obtain ⟨A3, c3, rfl⟩ := ho.slice
      have HB2 := Lib.hid hb
      clear ho hb
      go_wp2_with (at_builtin; refine Enc.Own.append1L (E := nodeE) rfl (.tmp 20) (.tmp 26) 87 rfl w1.heap.size 89 (.agg #[.slice none 0 0, .slice none 0 0, .slice none 0 0]) 3 72 Try.underlying87 infoNode rfl rfl (by decide) (by decide) u3 hs rfl (HO.out.bl HB2.out) ⟨⟨A3, S, c3⟩, nilH, nilH⟩ _ rfl rfl rfl ?hlen ?hbase ?_; (case hlen => have := hle.out; have := HR.out.here.here.1; omega); (case hbase => exact (HB.out.bl HB2.out).size); intro v1 w3 ho hg hl)
      have HB3 := Lib.hid (((HB.out.bl HB2.out).alloc _).grown hg (fun k hk => (Enc.Own.lt HO.out k hk).1))
      have HO3 := Lib.hid ho
      have hst : Stab w3 v1.ownBlock (fun w' => Stab w' (some w.heap.size) fun w'' => NRows (only w'' (fr w)) (hs ++ [⟨⟨A3, S, c3⟩, nilH, nilH⟩]) (pmap (leafM l) (List.range (grp l.length)) k ++ [leafM l k])) := by
        have s1 := (HR.out.bl HB2.out).bl ((Bl.refl _).alloc (.cells #[.slice A3 S c3, .slice none 0 0, .slice none 0 0] 89))
        have s2 := Stab.own2 (row := u3.ownBlock) (B := w.heap.size) HI3.out (fun g hg => (Enc.Own.lt HO.out g hg).2) (Nat.lt_of_lt_of_le HK1.out.lt HB.out.size)
        have s3 := s2.bl ((Bl.refl _).alloc (.cells #[.slice A3 S c3, .slice none 0 0, .slice none 0 0] 89))
        refine ((s1.and s3).mono ?_).grow hg hl
        rintro w' ⟨g1, g2⟩
        refine (g1.and g2).mono ?_
        rintro w'' ⟨g1, g2⟩
        refine g1.snoc ?_
        rw [HLF.out]
        exact NodeR.mk' (by have := g2.isM (G := fr w) (fun k hk => fr_ge (Nat.le_trans HB1.out.size HB.out.size) hk); rw [show (R.take S).length = S by rw [List.length_take]; omega] at this; exact this) (Enc.Is.nil _) (Enc.Is.nil _) (NRows.nil _)
      have HST := Lib.hid hst
      have HV3 := Lib.hid (HI2.out _ HV.out)
      clear hst ho hg hl
      go_wp2_with fail
      go_roundg (grp l.length - (k + 1))
      case measure => omega
      case rel => exact ⟨k + 1, _, by omega, rfl, by go_num, Lib.hid (by rw [hps.out, HDD.out]; simpa using HV3.out), HO3, Lib.hid (by rw [hpm.out]; exact HST.out), HB3⟩
    · have hke : k = grp l.length := by omega
      have HR2 := Lib.hid (show Stab wr u3.ownBlock fun w' => Stab w' (some w.heap.size) fun w'' => NRows (only w'' (fr w)) hs (leavesM l) from by
        have := HR.out
        rw [pmap_all _ _ _ (by simp; omega)] at this
        exact this)
      have HX := Lib.hid (leaves_first l)
      have HT := Lib.hid (show topM (leavesM l) = madeM l from rfl)
      have hll := leavesM_len l
      have HIS := Lib.hid ((Stab.own (row := some w.heap.size) HO.out (fun g hg => by injection hg with hg; rw [← hg]; exact HK1.out.lt)).mono fun w' h => h.isM (G := fr w) (fun k hk => fr_ge HB1.out.size hk))
      clear HR HV HO HS HAT hke
      go_wp2_with fail
      obtain ⟨wo, rfl⟩ : ∃ wo : World, wo = wr := ⟨_, rfl⟩
      go_loopg [3] (leavesM l).length (fun g v3 wr => ∃ (ns : List NodeM) (hs : List NH), g = ns.length ∧ Hid (Stab wr (some w.heap.size) fun w' => nodeE.Is (only w' (fr w)) v3 hs ∧ NRows (only w' (fr w)) hs ns) ∧ Hid (topM ns = madeM l) ∧ Hid (∀ x ∈ ns, x.hasFirst = true) ∧ Hid (ns.length ≤ 1000) ∧ Hid (Bl wo wr))
      case atStart => exact ⟨leavesM l, hs, rfl, Lib.hid (HIS.out.and HR2.out.here), HT, HX, Lib.hid (by omega), Lib.hid (Bl.refl _)⟩
      case round =>
        clear HIS HR2 HT HX hll
        obtain ⟨ns, hs, rfl, HR, HT, HX, HN, HD⟩ := hrel
        obtain ⟨wp, rfl⟩ : ∃ wp : World, wp = wr := ⟨_, rfl⟩
        obtain ⟨A5, c5, rfl, p1, p2, p3, p4⟩ := (Sub.un _ _).is HR.out.here.1
        have hln := Lib.hid HR.out.here.2.1
        have hn1 := HN.out
        have hln2 : (hs.length : Int) ≤ 1000 := by have := hln.out; omega
        by_cases hlt1 : 1 < hs.length
        · have hlti : (1 : Int) < hs.length := by omega
          have hgg := grp_le hs.length hlt1
          go_wp2_with fail
          refine (tcut_any hs.length _ (by omega)).mono ?_
          rintro e w2 ⟨u, rfl, ho, hb⟩
          have HS := Lib.hid ho
          have HB2 := Lib.hid hb
          clear ho hb p4
          obtain ⟨A6, c6, rfl, _, _, _, at6⟩ := HS.out.is
          rw [szs_len] at *
          have HAT := Lib.hid at6
          clear at6
          have hgi2 : (grp hs.length : Int) ≤ 1000 := by omega
          go_wp2_with fail
          go_loopg [3, 6, 39] (grp hs.length) (fun g v3 v6 i wr => ∃ (k : Nat) (us : List NH), k ≤ grp hs.length ∧ g = grp hs.length - k ∧ i = .int .i64 k ∧ Hid (Stab w2 (some w.heap.size) fun w' => nodeE.Is (only w' (fr w)) v3 (hs.drop (preM hs.length (grp hs.length) k))) ∧
            Hid (nodeE.Own 89 wr w2.heap.size v6 us) ∧ Hid (Stab wr v6.ownBlock fun w' => Stab w' (some w.heap.size) fun w'' => NRows (only w'' (fr w)) us (pmap (nodeM ns) (List.range (grp hs.length)) k)) ∧ Hid (Bl w2 wr))
          case atStart => exact ⟨0, [], by omega, rfl, rfl, Lib.hid (by rw [preM_zero]; exact (HR.out.bl HB2.out).mono fun w' h => h.1), Lib.hid (Enc.Own.nil _ _ _), Lib.hid (fun w' _ w'' _ => NRows.nil _), Lib.hid (Bl.refl _)⟩
          case round =>
            obtain ⟨k, us, hk, rfl, rfl, HV, HO, HU, HE⟩ := hrel
            by_cases hltk : k < grp hs.length
            · obtain ⟨A0, c0, rfl, q1, q2, q3, q4⟩ := (Sub.un _ _).is HV.out.here
              have hsz := preM_size hs.length (grp hs.length) k hltk
              have hgl : grp hs.length ≤ hs.length := by omega
              have hS1 := size_pos hs.length (grp hs.length) k (by omega) hgl
              have hps := Lib.hid (preM_succ hs.length (grp hs.length) k)
              have hpm := Lib.hid (pmap_succ (nodeM ns) (List.range (grp hs.length)) k (by simpa using hltk))
              have hle := Lib.hid (show (pmap (nodeM ns) (List.range (grp hs.length)) k).length = k from pmap_len _ _ _ (by simpa using hk))
              obtain ⟨ad2, rfl, d0⟩ := int_at (HAT.out.bl HE.out) k (by rw [szs_len]; exact hltk)
              have hsa : (szs hs.length (grp hs.length))[k]'(by rw [szs_len]; exact hltk) = ((sizeM hs.length (grp hs.length) k : Nat) : Int) := by
                have := szs_at hs.length k hltk
                rw [List.getElem?_eq_getElem (by rw [szs_len]; exact hltk)] at this
                exact Option.some.inj this
              rw [hsa] at d0
              have hrl : (hs.drop (preM hs.length (grp hs.length) k)).length = hs.length - preM hs.length (grp hs.length) k := List.length_drop
              have hln2 := hln.out
              have hnf : nodeM ns k = .mk [] (((ns.drop (preM hs.length (grp hs.length) k)).take (sizeM hs.length (grp hs.length) k)).map NodeM.first1) ((ns.drop (preM hs.length (grp hs.length) k)).take (sizeM hs.length (grp hs.length) k)) := by
                unfold nodeM partM; rw [hln2]
              have hnr : Stab w2 (some w.heap.size) fun w' => NRows (only w' (fr w)) ((hs.drop (preM hs.length (grp hs.length) k)).take (sizeM hs.length (grp hs.length) k)) ((ns.drop (preM hs.length (grp hs.length) k)).take (sizeM hs.length (grp hs.length) k)) := (HR.out.bl HB2.out).mono fun w' h => (h.2.drop _).take _
              have hxx : ∀ x ∈ (ns.drop (preM hs.length (grp hs.length) k)).take (sizeM hs.length (grp hs.length) k), x.hasFirst = true := fun x hx => HX.out x (List.mem_of_mem_drop (List.mem_of_mem_take hx))
              have hdd : hs.drop (preM hs.length (grp hs.length) k + sizeM hs.length (grp hs.length) k) = (hs.drop (preM hs.length (grp hs.length) k)).drop (sizeM hs.length (grp hs.length) k) := by rw [List.drop_drop]
              have HNF := Lib.hid hnf
              have HNR := Lib.hid hnr
              have HXX := Lib.hid hxx
              have HDD := Lib.hid hdd
              have hgk : (List.range (grp hs.length))[k]'(by simpa using hltk) = k := by simp
              rw [hgk] at hpm
              clear hsa hnf hdd hgk q4 hnr hxx hln2
              generalize hs.drop (preM hs.length (grp hs.length) k) = R at *
              generalize (ns.drop (preM hs.length (grp hs.length) k)).take (sizeM hs.length (grp hs.length) k) = T at *
              generalize sizeM hs.length (grp hs.length) k = S at *
              have hSR : S ≤ R.length := by omega
              have hSi : (S : Int) ≤ R.length := by omega
              have hS2 : (S : Int) ≤ 1000 := by omega
              obtain ⟨hV1, hI1⟩ := slice_full (E := nodeE) (P := Try.prog) (t := 87) (by kernel_rfl) (fun w => by kernel_rfl) A0 c0 R S hSR q1
              obtain ⟨V2, hV2, hI2⟩ := slice_l (E := nodeE) (P := Try.prog) (t := 87) (by kernel_rfl) (fun w => by kernel_rfl) A0 c0 R (S : Int) (by omega) (by omega)
              have HI1 := Lib.hid (HV.out.mono fun w' h => hI1 _ h)
              have HI2 := Lib.hid hI2
              have hcc : (S : Int) ≤ c0 := by omega
              clear hI1 hI2 q3 hsz hrl
              go_wp2_with fail
              have htl : T.length = S := by
                have := HNR.out.here.1
                rw [List.length_take] at this; omega
              have HTL := Lib.hid htl
              clear htl
              obtain ⟨wq, rfl⟩ : ∃ wq : World, wq = wr := ⟨_, rfl⟩
              have hB9 : ∃ B9, B9 = wq.heap.size := ⟨_, rfl⟩
              go_loopg [51] S (fun g i wr => ∃ (j : Nat) (fv : Value), j ≤ S ∧ g = S - j ∧ i = .int .i64 j ∧ Hid (Blk wr wq.heap.size #[.slice none 0 0, fv, .slice A0 S S] 89) ∧ Hid (intE.Own 3 wr (wq.heap.size + 1) fv (pmap NodeM.first1 T j)) ∧ Hid (Bl wq wr))
              case atStart => exact ⟨0, .slice none 0 0, by omega, rfl, rfl, Lib.hid (Blk.new _ _ _), Lib.hid (Enc.Own.nil _ _ _), Lib.hid ((Bl.refl _).alloc _)⟩
              case round =>
                obtain ⟨j, fv, hj, rfl, rfl, HK9, HF, HG⟩ := hrel
                have d9 := HK9.out.cell 2
                simp at d9
                by_cases hltj : j < S
                · have hjR : j < (R.take S).length := by rw [List.length_take]; omega
                  have hjT : j < T.length := by have := HTL.out; omega
                  obtain ⟨_, hn⟩ := ((Sub.un _ _).nodes HNR.out.here).at j hjT
                  obtain ⟨A7, c7, e7, z1, z2, z3, at7⟩ := (Sub.un _ _).is HI1.out.here
                  simp only [Value.slice.injEq] at e7
                  obtain ⟨rfl, z0, rfl⟩ := e7
                  clear z0 z1 z2 z3
                  obtain ⟨ad, rfl, k0, k1, k2⟩ := node_at (at7.bl (HE.out.bl HG.out)) j hjR
                  have hxf := HXX.out T[j] (List.getElem_mem hjT)
                  have hpn := Lib.hid (pmap_succ NodeM.first1 T j hjT)
                  have hpl := Lib.hid (pmap_len NodeM.first1 T j (by omega))
                  have HN2 := Lib.hid (hn.bl (HE.out.bl HG.out))
                  generalize (R.take S)[j] = h' at *
                  generalize T[j] = x at *
                  generalize pmap NodeM.first1 T j = fs at *
                  simp only [Head.v] at k0 k1 k2
                  have HXF := Lib.hid hxf
                  clear hn hxf at7
                  obtain ⟨A8, c8, rfl⟩ := HF.out.slice
                  have hji : (j : Int) < S := by omega
                  go_wp2_with fail
                  refine wp_region_ways (S := (fun w' => w'.cell? ⟨wr.heap.size, 0, none⟩ = some (.slice h'.a.A h'.a.n h'.a.cap) ∧ w'.cell? ⟨wr.heap.size, 1, none⟩ = some (.slice h'.b.A h'.b.n h'.b.cap) ∧ w'.cell? ⟨wr.heap.size, 2, none⟩ = some (.slice h'.c.A h'.c.n h'.c.cap))) [0, 2, 6] (y := .take 0 (.take 2 (.ev 1 (.ev 3 (.ev 4 (.ev 5 (.take 6 (.ev 7 (.done) (.stop))) (.stop)) (.stop)) (.stop)) (.ev 3 (.ev 1 (.ev 4 (.ev 5 (.take 6 (.ev 7 (.done) (.stop))) (.stop)) (.stop)) (.ev 4 (.ev 1 (.ev 5 (.take 6 (.ev 7 (.done) (.stop))) (.stop)) (.stop)) (.stop))) (.stop))))) (by kernel_rfl) (by kernel_rfl) (by kernel_rfl) ?_ (fun hHeld => ?_)
                  · have hb := ((Blk.new wr #[.slice h'.a.A h'.a.n h'.a.cap, .slice h'.b.A h'.b.n h'.b.cap, .slice h'.c.A h'.c.n h'.c.cap] 89).bl (Bl.refl _).drew).cell
                    exact ⟨hb 0, hb 1, hb 2⟩
                  have HH := Lib.hid hHeld
                  repeat (first | (refine wpWay_take rfl (by rfl) (by intro w hSw; (try dsimp only at hSw); first | (go_simp; done) | (go_simp; with_reducible rfl)) ?_; try simp only [Act.put, List.setIfInBounds_toArray, List.set_cons_zero, List.set_cons_succ]) | (refine wpWay_skip rfl (by rfl) ?_; try simp only [Act.put, List.setIfInBounds_toArray, List.set_cons_zero, List.set_cons_succ]))
                  clear hHeld
                  have GB := Lib.hid ((((Bl.refl wr).alloc (.cells #[.slice h'.a.A h'.a.n h'.a.cap, .slice h'.b.A h'.b.n h'.b.cap, .slice h'.c.A h'.c.n h'.c.cap] 89)).drew))
                  have GC := Lib.hid ((HK9.out.bl GB.out).cell 1)
                  have GS := HH
                  refine wpWay_ev rfl (fun K hK => ?_) ?_
                  · have c1 := GC.out
                    simp at c1
                    go_wp2_with fail
                    clear c1
                    refine ⟨GS.out, ?_⟩
                    repeat (first | (refine wpWay_take rfl (by rfl) (by intro w hSw; (try dsimp only at hSw); first | (go_simp; done) | (go_simp; with_reducible rfl)) ?_; try simp only [Act.put, List.setIfInBounds_toArray, List.set_cons_zero, List.set_cons_succ]) | (refine wpWay_skip rfl (by rfl) ?_; try simp only [Act.put, List.setIfInBounds_toArray, List.set_cons_zero, List.set_cons_succ]))
                    refine wpWay_ev rfl (fun K hK => ?_) wpWay_stop
                    go_wp2_with fail
                    refine (tfirst_any x h' _ (HN2.out.bl GB.out) HXF.out).mono ?_
                    rintro e w3 ⟨rfl, hb⟩
                    replace GC := Lib.hid (hb.cell GC.out)
                    replace GB := Lib.hid (GB.out.bl hb)
                    replace GS := Lib.hid (And.intro (hb.cell GS.out.1) (And.intro (hb.cell GS.out.2.1) (hb.cell GS.out.2.2)))
                    clear hb
                    go_wp2_with fail
                    refine ⟨GS.out, ?_⟩
                    repeat (first | (refine wpWay_take rfl (by rfl) (by intro w hSw; (try dsimp only at hSw); first | (go_simp; done) | (go_simp; with_reducible rfl)) ?_; try simp only [Act.put, List.setIfInBounds_toArray, List.set_cons_zero, List.set_cons_succ]) | (refine wpWay_skip rfl (by rfl) ?_; try simp only [Act.put, List.setIfInBounds_toArray, List.set_cons_zero, List.set_cons_succ]))
                    refine wpWay_ev rfl (fun K hK => ?_) wpWay_stop
                    go_wp2_with fail
                    have hb4 := Bl.alloc (Bl.refl w3) (.cells #[.int .i64 x.first1] 3)
                    have GC2 := Lib.hid (hb4.cell GC.out)
                    have GS2 := Lib.hid (And.intro (hb4.cell GS.out.1) (And.intro (hb4.cell GS.out.2.1) (hb4.cell GS.out.2.2)))
                    clear hb4
                    refine ⟨GS2.out, ?_⟩
                    repeat (first | (refine wpWay_take rfl (by rfl) (by intro w hSw; (try dsimp only at hSw); first | (go_simp; done) | (go_simp; with_reducible rfl)) ?_; try simp only [Act.put, List.setIfInBounds_toArray, List.set_cons_zero, List.set_cons_succ]) | (refine wpWay_skip rfl (by rfl) ?_; try simp only [Act.put, List.setIfInBounds_toArray, List.set_cons_zero, List.set_cons_succ]))
                    refine wpWay_ev rfl (fun K hK => ?_) wpWay_stop
                    go_wp2_with (at_builtin; refine Enc.Own.append1 (E := intE) rfl (.tmp 56) (.tmp 59) 22 rfl (wq.heap.size + 1) 3 (.int .i64 0) 1 8 Try.underlying22 infoIntT rfl rfl (by decide) (by decide) (.slice A8 fs.length c8) fs rfl (HF.out.bl GB.out) x.first1 _ rfl rfl rfl ?hlen ?hbase ?_; (case hlen => have := hpl.out; omega); (case hbase => exact Nat.le_trans HK9.out.lt GB.out.size); intro v5 w4 ho hg)
                    have hne1 : some wq.heap.size ≠ (Value.slice A8 fs.length c8).ownBlock := fun he => by
                      have := (Enc.Own.lt HF.out _ he.symm).1; omega
                    have hne2 : some wr.heap.size ≠ (Value.slice A8 fs.length c8).ownBlock := fun he => by
                      have := (Enc.Own.lt HF.out _ he.symm).2; omega
                    have GS4 := Lib.hid (And.intro (World.grownBy.cell hg GS2.out.1 hne2) (And.intro (World.grownBy.cell hg GS2.out.2.1 hne2) (World.grownBy.cell hg GS2.out.2.2 hne2)))
                    refine ⟨GS4.out, ?_⟩
                    have HK4 := Lib.hid (((HK9.out.bl GB.out).bl ((Bl.refl _).alloc (.cells #[.int .i64 x.first1] 3))).grown hg (fun h => hne1 h.symm))
                    have HB5 := Lib.hid (((HG.out.bl GB.out).alloc _).grown hg (fun k hk => by have := (Enc.Own.lt HF.out k hk).1; omega))
                    have HO5 := Lib.hid ho
                    obtain ⟨A10, c10, rfl⟩ := ho.slice
                    clear hne1 hne2 hg ho
                    repeat (first | (refine wpWay_take rfl (by rfl) (by intro w hSw; (try dsimp only at hSw); first | (go_simp; done) | (go_simp; with_reducible rfl)) ?_; try simp only [Act.put, List.setIfInBounds_toArray, List.set_cons_zero, List.set_cons_succ]) | (refine wpWay_skip rfl (by rfl) ?_; try simp only [Act.put, List.setIfInBounds_toArray, List.set_cons_zero, List.set_cons_succ]))
                    have e0 := HK4.out.cell 1
                    simp at e0
                    have e1 := HK4.out.frozen 1
                    have e2 := HK4.out.lt
                    have e3 := HG.out.size
                    refine wpWay_ev rfl (fun K hK => ?_) wpWay_stop
                    go_wp2_with fail
                    have hnw : wq.heap.size ≠ wr.heap.size := by have := HK9.out.lt; omega
                    refine ⟨⟨?_, ?_, ?_⟩, ?_⟩
                    · rw [World.cell?_setCell_other _ _ _ _ (fun h => hnw (congrArg Addr.block h))]; exact GS4.out.1
                    · rw [World.cell?_setCell_other _ _ _ _ (fun h => hnw (congrArg Addr.block h))]; exact GS4.out.2.1
                    · rw [World.cell?_setCell_other _ _ _ _ (fun h => hnw (congrArg Addr.block h))]; exact GS4.out.2.2
                    refine wpWay_done ?_
                    clear e0 e1 e2 e3
                    go_wp2_with fail
                    go_roundg (S - (j + 1))
                    case measure => omega
                    case rel =>
                      refine ⟨j + 1, _, by omega, rfl, by go_num, Lib.hid (HK4.out.set 1 _), Lib.hid ?_, Lib.hid (Bl.set HB5.out _ _ _ (Nat.le_refl _))⟩
                      have h1 := Enc.Own.set HO5.out wq.heap.size 1 (.slice A10 (fs ++ [x.first1]).length c10) (Nat.lt_succ_self _)
                      rw [hpn.out]
                      simpa using h1
                  · refine wpWay_ev rfl (fun K hK => ?_) wpWay_stop
                    go_wp2_with fail
                    refine (tfirst_any x h' _ (HN2.out.bl GB.out) HXF.out).mono ?_
                    rintro e w3 ⟨rfl, hb⟩
                    replace GC := Lib.hid (hb.cell GC.out)
                    replace GB := Lib.hid (GB.out.bl hb)
                    replace GS := Lib.hid (And.intro (hb.cell GS.out.1) (And.intro (hb.cell GS.out.2.1) (hb.cell GS.out.2.2)))
                    clear hb
                    go_wp2_with fail
                    refine ⟨GS.out, ?_⟩
                    repeat (first | (refine wpWay_take rfl (by rfl) (by intro w hSw; (try dsimp only at hSw); first | (go_simp; done) | (go_simp; with_reducible rfl)) ?_; try simp only [Act.put, List.setIfInBounds_toArray, List.set_cons_zero, List.set_cons_succ]) | (refine wpWay_skip rfl (by rfl) ?_; try simp only [Act.put, List.setIfInBounds_toArray, List.set_cons_zero, List.set_cons_succ]))
                    refine wpWay_ev rfl (fun K hK => ?_) ?_
                    · have c1 := GC.out
                      simp at c1
                      go_wp2_with fail
                      clear c1
                      refine ⟨GS.out, ?_⟩
                      repeat (first | (refine wpWay_take rfl (by rfl) (by intro w hSw; (try dsimp only at hSw); first | (go_simp; done) | (go_simp; with_reducible rfl)) ?_; try simp only [Act.put, List.setIfInBounds_toArray, List.set_cons_zero, List.set_cons_succ]) | (refine wpWay_skip rfl (by rfl) ?_; try simp only [Act.put, List.setIfInBounds_toArray, List.set_cons_zero, List.set_cons_succ]))
                      refine wpWay_ev rfl (fun K hK => ?_) wpWay_stop
                      go_wp2_with fail
                      have hb4 := Bl.alloc (Bl.refl w3) (.cells #[.int .i64 x.first1] 3)
                      have GC2 := Lib.hid (hb4.cell GC.out)
                      have GS2 := Lib.hid (And.intro (hb4.cell GS.out.1) (And.intro (hb4.cell GS.out.2.1) (hb4.cell GS.out.2.2)))
                      clear hb4
                      refine ⟨GS2.out, ?_⟩
                      repeat (first | (refine wpWay_take rfl (by rfl) (by intro w hSw; (try dsimp only at hSw); first | (go_simp; done) | (go_simp; with_reducible rfl)) ?_; try simp only [Act.put, List.setIfInBounds_toArray, List.set_cons_zero, List.set_cons_succ]) | (refine wpWay_skip rfl (by rfl) ?_; try simp only [Act.put, List.setIfInBounds_toArray, List.set_cons_zero, List.set_cons_succ]))
                      refine wpWay_ev rfl (fun K hK => ?_) wpWay_stop
                      go_wp2_with (at_builtin; refine Enc.Own.append1 (E := intE) rfl (.tmp 56) (.tmp 59) 22 rfl (wq.heap.size + 1) 3 (.int .i64 0) 1 8 Try.underlying22 infoIntT rfl rfl (by decide) (by decide) (.slice A8 fs.length c8) fs rfl (HF.out.bl GB.out) x.first1 _ rfl rfl rfl ?hlen ?hbase ?_; (case hlen => have := hpl.out; omega); (case hbase => exact Nat.le_trans HK9.out.lt GB.out.size); intro v5 w4 ho hg)
                      have hne1 : some wq.heap.size ≠ (Value.slice A8 fs.length c8).ownBlock := fun he => by
                        have := (Enc.Own.lt HF.out _ he.symm).1; omega
                      have hne2 : some wr.heap.size ≠ (Value.slice A8 fs.length c8).ownBlock := fun he => by
                        have := (Enc.Own.lt HF.out _ he.symm).2; omega
                      have GS4 := Lib.hid (And.intro (World.grownBy.cell hg GS2.out.1 hne2) (And.intro (World.grownBy.cell hg GS2.out.2.1 hne2) (World.grownBy.cell hg GS2.out.2.2 hne2)))
                      refine ⟨GS4.out, ?_⟩
                      have HK4 := Lib.hid (((HK9.out.bl GB.out).bl ((Bl.refl _).alloc (.cells #[.int .i64 x.first1] 3))).grown hg (fun h => hne1 h.symm))
                      have HB5 := Lib.hid (((HG.out.bl GB.out).alloc _).grown hg (fun k hk => by have := (Enc.Own.lt HF.out k hk).1; omega))
                      have HO5 := Lib.hid ho
                      obtain ⟨A10, c10, rfl⟩ := ho.slice
                      clear hne1 hne2 hg ho
                      repeat (first | (refine wpWay_take rfl (by rfl) (by intro w hSw; (try dsimp only at hSw); first | (go_simp; done) | (go_simp; with_reducible rfl)) ?_; try simp only [Act.put, List.setIfInBounds_toArray, List.set_cons_zero, List.set_cons_succ]) | (refine wpWay_skip rfl (by rfl) ?_; try simp only [Act.put, List.setIfInBounds_toArray, List.set_cons_zero, List.set_cons_succ]))
                      have e0 := HK4.out.cell 1
                      simp at e0
                      have e1 := HK4.out.frozen 1
                      have e2 := HK4.out.lt
                      have e3 := HG.out.size
                      refine wpWay_ev rfl (fun K hK => ?_) wpWay_stop
                      go_wp2_with fail
                      have hnw : wq.heap.size ≠ wr.heap.size := by have := HK9.out.lt; omega
                      refine ⟨⟨?_, ?_, ?_⟩, ?_⟩
                      · rw [World.cell?_setCell_other _ _ _ _ (fun h => hnw (congrArg Addr.block h))]; exact GS4.out.1
                      · rw [World.cell?_setCell_other _ _ _ _ (fun h => hnw (congrArg Addr.block h))]; exact GS4.out.2.1
                      · rw [World.cell?_setCell_other _ _ _ _ (fun h => hnw (congrArg Addr.block h))]; exact GS4.out.2.2
                      refine wpWay_done ?_
                      clear e0 e1 e2 e3
                      go_wp2_with fail
                      go_roundg (S - (j + 1))
                      case measure => omega
                      case rel =>
                        refine ⟨j + 1, _, by omega, rfl, by go_num, Lib.hid (HK4.out.set 1 _), Lib.hid ?_, Lib.hid (Bl.set HB5.out _ _ _ (Nat.le_refl _))⟩
                        have h1 := Enc.Own.set HO5.out wq.heap.size 1 (.slice A10 (fs ++ [x.first1]).length c10) (Nat.lt_succ_self _)
                        rw [hpn.out]
                        simpa using h1
                    · refine wpWay_ev rfl (fun K hK => ?_) wpWay_stop
                      go_wp2_with fail
                      have hb4 := Bl.alloc (Bl.refl w3) (.cells #[.int .i64 x.first1] 3)
                      have GC2 := Lib.hid (hb4.cell GC.out)
                      have GS2 := Lib.hid (And.intro (hb4.cell GS.out.1) (And.intro (hb4.cell GS.out.2.1) (hb4.cell GS.out.2.2)))
                      clear hb4
                      refine ⟨GS2.out, ?_⟩
                      repeat (first | (refine wpWay_take rfl (by rfl) (by intro w hSw; (try dsimp only at hSw); first | (go_simp; done) | (go_simp; with_reducible rfl)) ?_; try simp only [Act.put, List.setIfInBounds_toArray, List.set_cons_zero, List.set_cons_succ]) | (refine wpWay_skip rfl (by rfl) ?_; try simp only [Act.put, List.setIfInBounds_toArray, List.set_cons_zero, List.set_cons_succ]))
                      refine wpWay_ev rfl (fun K hK => ?_) wpWay_stop
                      have c1 := GC2.out
                      simp at c1
                      go_wp2_with fail
                      clear c1
                      refine ⟨GS2.out, ?_⟩
                      repeat (first | (refine wpWay_take rfl (by rfl) (by intro w hSw; (try dsimp only at hSw); first | (go_simp; done) | (go_simp; with_reducible rfl)) ?_; try simp only [Act.put, List.setIfInBounds_toArray, List.set_cons_zero, List.set_cons_succ]) | (refine wpWay_skip rfl (by rfl) ?_; try simp only [Act.put, List.setIfInBounds_toArray, List.set_cons_zero, List.set_cons_succ]))
                      refine wpWay_ev rfl (fun K hK => ?_) wpWay_stop
                      go_wp2_with (at_builtin; refine Enc.Own.append1 (E := intE) rfl (.tmp 56) (.tmp 59) 22 rfl (wq.heap.size + 1) 3 (.int .i64 0) 1 8 Try.underlying22 infoIntT rfl rfl (by decide) (by decide) (.slice A8 fs.length c8) fs rfl (HF.out.bl GB.out) x.first1 _ rfl rfl rfl ?hlen ?hbase ?_; (case hlen => have := hpl.out; omega); (case hbase => exact Nat.le_trans HK9.out.lt GB.out.size); intro v5 w4 ho hg)
                      have hne1 : some wq.heap.size ≠ (Value.slice A8 fs.length c8).ownBlock := fun he => by
                        have := (Enc.Own.lt HF.out _ he.symm).1; omega
                      have hne2 : some wr.heap.size ≠ (Value.slice A8 fs.length c8).ownBlock := fun he => by
                        have := (Enc.Own.lt HF.out _ he.symm).2; omega
                      have GS4 := Lib.hid (And.intro (World.grownBy.cell hg GS2.out.1 hne2) (And.intro (World.grownBy.cell hg GS2.out.2.1 hne2) (World.grownBy.cell hg GS2.out.2.2 hne2)))
                      refine ⟨GS4.out, ?_⟩
                      have HK4 := Lib.hid (((HK9.out.bl GB.out).bl ((Bl.refl _).alloc (.cells #[.int .i64 x.first1] 3))).grown hg (fun h => hne1 h.symm))
                      have HB5 := Lib.hid (((HG.out.bl GB.out).alloc _).grown hg (fun k hk => by have := (Enc.Own.lt HF.out k hk).1; omega))
                      have HO5 := Lib.hid ho
                      obtain ⟨A10, c10, rfl⟩ := ho.slice
                      clear hne1 hne2 hg ho
                      repeat (first | (refine wpWay_take rfl (by rfl) (by intro w hSw; (try dsimp only at hSw); first | (go_simp; done) | (go_simp; with_reducible rfl)) ?_; try simp only [Act.put, List.setIfInBounds_toArray, List.set_cons_zero, List.set_cons_succ]) | (refine wpWay_skip rfl (by rfl) ?_; try simp only [Act.put, List.setIfInBounds_toArray, List.set_cons_zero, List.set_cons_succ]))
                      have e0 := HK4.out.cell 1
                      simp at e0
                      have e1 := HK4.out.frozen 1
                      have e2 := HK4.out.lt
                      have e3 := HG.out.size
                      refine wpWay_ev rfl (fun K hK => ?_) wpWay_stop
                      go_wp2_with fail
                      have hnw : wq.heap.size ≠ wr.heap.size := by have := HK9.out.lt; omega
                      refine ⟨⟨?_, ?_, ?_⟩, ?_⟩
                      · rw [World.cell?_setCell_other _ _ _ _ (fun h => hnw (congrArg Addr.block h))]; exact GS4.out.1
                      · rw [World.cell?_setCell_other _ _ _ _ (fun h => hnw (congrArg Addr.block h))]; exact GS4.out.2.1
                      · rw [World.cell?_setCell_other _ _ _ _ (fun h => hnw (congrArg Addr.block h))]; exact GS4.out.2.2
                      refine wpWay_done ?_
                      clear e0 e1 e2 e3
                      go_wp2_with fail
                      go_roundg (S - (j + 1))
                      case measure => omega
                      case rel =>
                        refine ⟨j + 1, _, by omega, rfl, by go_num, Lib.hid (HK4.out.set 1 _), Lib.hid ?_, Lib.hid (Bl.set HB5.out _ _ _ (Nat.le_refl _))⟩
                        have h1 := Enc.Own.set HO5.out wq.heap.size 1 (.slice A10 (fs ++ [x.first1]).length c10) (Nat.lt_succ_self _)
                        rw [hpn.out]
                        simpa using h1
                · have hfs : pmap NodeM.first1 T j = T.map NodeM.first1 := pmap_all _ _ _ (by have := HTL.out; omega)
                  have HF2 := Lib.hid (show intE.Own 3 wr (wq.heap.size + 1) fv (T.map NodeM.first1) by rw [← hfs]; exact HF.out)
                  clear hfs HF
                  generalize T.map NodeM.first1 = fs at *
                  obtain ⟨A8, c8, rfl⟩ := HF2.out.slice
                  have d0 := HK9.out.cell 0
                  have d1 := HK9.out.cell 1
                  simp at d0 d1
                  go_wp2_with (at_builtin; refine Enc.Own.append1L (E := nodeE) rfl (.tmp 63) (.tmp 65) 87 rfl w2.heap.size 89 (.agg #[.slice none 0 0, .slice none 0 0, .slice none 0 0]) 3 72 Try.underlying87 infoNode rfl rfl (by decide) (by decide) u6 us rfl (HO.out.bl HG.out) ⟨nilH, ⟨A8, fs.length, c8⟩, ⟨A0, S, S⟩⟩ _ rfl rfl rfl ?hlen ?hbase ?_; (case hlen => have := hle.out; have := HU.out.here.here.1; omega); (case hbase => exact (HE.out.bl HG.out).size); intro v1 w3 ho hg hl)
                  have HE3 := Lib.hid (((HE.out.bl HG.out).alloc _).grown hg (fun k hk => (Enc.Own.lt HO.out k hk).1))
                  have HO3 := Lib.hid ho
                  have hst : Stab w3 v1.ownBlock (fun w' => Stab w' (some w.heap.size) fun w'' => NRows (only w'' (fr w)) (us ++ [⟨nilH, ⟨A8, fs.length, c8⟩, ⟨A0, S, S⟩⟩]) (pmap (nodeM ns) (List.range (grp hs.length)) k ++ [nodeM ns k])) := by
                    have s1 := HU.out.bl HG.out
                    have hw9 : w.heap.size < wq.heap.size + 1 := by have := HK1.out.lt; have := (((HB.out.bl HD.out).bl HB2.out).bl HE.out).size; omega
                    have s2 := Stab.own2 (row := u6.ownBlock) (B := w.heap.size) HF2.out (fun g hg => by have := (Enc.Own.lt HO.out g hg).2; omega) hw9
                    have s3 := Stab.old (W := w2) (w := wr) (row := u6.ownBlock) (P := fun w' => Stab w' (some w.heap.size) fun w'' => nodeE.Is (only w'' (fr w)) (.slice A0 S S) (R.take S) ∧ NRows (only w'' (fr w)) (R.take S) T) (fun h hb => h.bl hb) (HI1.out.and HNR.out) (HE.out.bl HG.out) (fun g hg => (Enc.Own.lt HO.out g hg).1)
                    refine (((s1.and (s2.and s3)).bl ((Bl.refl _).alloc (.cells #[.slice none 0 0, .slice A8 fs.length c8, .slice A0 S S] 89))).mono ?_).grow hg hl
                    rintro w' ⟨g1, g2, g3⟩
                    refine (g1.and (g2.and g3)).mono ?_
                    rintro w'' ⟨g1, g2, g3, g4⟩
                    refine g1.snoc ?_
                    rw [HNF.out]
                    exact NodeR.mk' (Enc.Is.nil _) (g2.isM (G := fr w) (fun k hk => fr_ge (by have := HK1.out.lt; have := (((HB.out.bl HD.out).bl HB2.out).bl HE.out).size; omega) hk)) g3 g4
                  have HST := Lib.hid hst
                  have HV3 := Lib.hid (HV.out.mono fun w' h => HI2.out _ h)
                  clear hst ho hg hl d0 d1
                  go_wp2_with fail
                  go_roundg (grp hs.length - (k + 1))
                  case measure => omega
                  case rel => exact ⟨k + 1, _, by omega, rfl, by go_num, Lib.hid (by rw [hps.out, HDD.out]; simpa using HV3.out), HO3, Lib.hid (by rw [hpm.out]; exact HST.out), HE3⟩
            · have hke : k = grp hs.length := by omega
              have hup : pmap (nodeM ns) (List.range (grp hs.length)) k = upM ns := by
                rw [pmap_all _ _ _ (by simp; omega), hln.out]; rfl
              have HU2 := Lib.hid (show Stab wr (some w.heap.size) (fun w' => NRows (only w' (fr w)) us (upM ns)) by rw [← hup]; exact HU.out.here)
              have HO2 := Lib.hid ((Stab.own (row := some w.heap.size) HO.out (fun g hg => by injection hg with hg; rw [← hg]; exact Nat.lt_of_lt_of_le HK1.out.lt (((HB.out.bl HD.out).bl HB2.out).size))).mono fun w' h => h.isM (G := fr w) (fun k hk => fr_ge (by have := HB1.out.size; have := (((HB.out.bl HD.out).bl HB2.out)).size; omega) hk))
              clear hup HU hke
              go_wp2_with fail
              go_roundg (upM ns).length
              case measure => rw [upM_len]; have := hln.out; rw [← this]; exact hgg
              case rel =>
                refine ⟨upM ns, us, rfl, Lib.hid (HO2.out.and HU2.out), Lib.hid ?_, Lib.hid (up_first ns HX.out), Lib.hid ?_, Lib.hid ((HD.out.bl HB2.out).bl HE.out)⟩
                · rw [← topM_up ns (by have := hln.out; omega)]; exact HT.out
                · rw [upM_len]; have := hln.out; rw [← this]; omega
        · have hB := Lib.hid ((HB1.out.bl HB.out).bl HD.out)
          have HK := Lib.hid ((HK1.out.bl HB.out).bl HD.out)
          have z0 := HK.out.cell 0
          have z1 := HK.out.cell 1
          have z2 := HK.out.cell 2
          simp at z0 z1 z2
          have z3 := HK.out.frozen 0
          have z4 := HK.out.frozen 1
          have z5 := HK.out.frozen 2
          have z6 := HK.out.lt
          have htn := topM_one ns (by have := hln.out; omega)
          rw [HT.out] at htn
          have HTN := Lib.hid htn
          clear htn
          cases hs with
          | nil =>
            have hns : ns = [] := List.eq_nil_of_length_eq_zero hln.out.symm
            subst hns
            go_wp2_with fail
            refine bodyPost_ret (v := .agg #[.slice none 0 0, .slice none 0 0, .slice none 0 0]) (by simp [results, Try.results58, go_sem, z0, z1, z2]) rfl ⟨⟨nilH, nilH, nilH⟩, rfl, ?_, ?_⟩
            · rw [HTN.out]; exact NodeR.mk' (Enc.Is.nil _) (Enc.Is.nil _) (Enc.Is.nil _) (NRows.nil _)
            · iterate 3 refine Bl.set ?_ _ _ _ (Nat.le_refl _)
              exact hB.out
          | cons h0 hs =>
            have hl0 : hs = [] := by
              cases hs with
              | nil => rfl
              | cons a b => simp at hlt1
            subst hl0
            have hns : ∃ n, ns = [n] := by
              have := hln.out
              cases ns with
              | nil => simp at this
              | cons n b => cases b with
                | nil => exact ⟨n, rfl⟩
                | cons c d => simp at this
            obtain ⟨n, rfl⟩ := hns
            obtain ⟨ad, rfl, k0, k1, k2⟩ := node_at0 p4 (by simp)
            simp only [List.getElem_cons_zero, Head.v] at k0 k1 k2
            have HN0 := Lib.hid (HR.out.mono fun w' h => h.2.2 0 n h0 rfl rfl)
            go_wp2_with fail
            refine bodyPost_ret (v := .agg #[.slice h0.a.A h0.a.n h0.a.cap, .slice h0.b.A h0.b.n h0.b.cap, .slice h0.c.A h0.c.n h0.c.cap]) (by simp [results, Try.results58, go_sem, z0, z1, z2]) rfl ⟨h0, rfl, ?_, ?_⟩
            · rw [HTN.out]
              exact (((HN0.out.set _ _).set _ _).set _ _).here
            · iterate 3 refine Bl.set ?_ _ _ _ (Nat.le_refl _)
              exact hB.out
theorem tmade_any (v : Value) (l : List Ext) (w : World) (h : extE.Is w v l) (hn : l.length ≤ 1000) :
    Calls Try.prog 58 #[v] w fun e w' => ∃ h : NH, e = .returned h.v ∧ NodeR w' (madeM l) h ∧ Bl w w' :=
  (tmade_G v l w h hn).mono fun _ w' ⟨h, e, h1, h2⟩ => ⟨h, e, (Sub.un w' _).node h1, h2⟩
end Go.Proofs.Ytddcjekkimajpaa.ExtW

/- Contract of overdublaw16.Row. -/
namespace Go.Proofs.Ytddcjekkimajpaa.ExtW
open Go.RowKit Go.Ov Go.Proofs.Ytddcjekkimajpaa.Need

set_option maxRecDepth 100000 in
set_option maxHeartbeats 1000000 in
theorem row16_any (v : Value) (l : List Ext) (m : Nat) (w : World) (h : extE.Is w v l) (hm : m ≤ 1000) :
    Calls Try.prog 17 #[v, .int .i64 m] w fun e w' => ∃ u, e = .returned u ∧ extE.Own 38 w' w.heap.size u (rowM l m) ∧ Bl w w' := by
  obtain ⟨A, c, rfl, h1, h2, h3, h4⟩ := h
  have HA := Lib.hid h4
  have hl : l.length ≤ 9223372036854775807 := by unfold maxLen at h2; omega
  have hu := Try.underlying38
  clear h1 h2 h3 h4
  go_enter Try.func17, Try.ntmps17
  go_wp2
  go_loopg [5, 6, 7] l.length (fun g s q i wr => ∃ (k : Nat) (a : Int) (xs : List Ext), k ≤ l.length ∧ k ≤ m ∧ g = l.length - k ∧ i = .int .i64 k ∧ q = .int .i64 a ∧ 0 ≤ a ∧ a ≤ 1000 ∧ Hid (rowM l m = xs ++ rowGo a ((l.take m).drop k)) ∧ Hid (xs.length ≤ k) ∧ extE.Own 38 wr w.heap.size s xs ∧ Bl w wr)
  case atStart => exact ⟨0, 0, [], by omega, by omega, rfl, rfl, rfl, by omega, by omega, Lib.hid rfl, Lib.hid (Nat.le_refl _), Enc.Own.nil _ _ _, Bl.refl _⟩
  case round =>
    obtain ⟨k, a, xs, hk, hkm, rfl, rfl, rfl, ha0, ha1, hr, hlen, ho, hbl⟩ := hrel
    have HB := Lib.hid hbl
    have HO := Lib.hid ho
    clear hbl ho
    by_cases hlt : k < l.length ∧ k < m
    · obtain ⟨hlt, hltm⟩ := hlt
      obtain ⟨ad, rfl, c0, c1, c2, c3, c4⟩ := ext_at (HA.out.bl HB.out) k hlt
      have hd : (l.take m).drop k = l[k] :: (l.take m).drop (k + 1) := by
        rw [List.drop_eq_getElem_cons (by rw [List.length_take]; omega)]; simp
      have HD := Lib.hid hd
      clear hd
      generalize l[k] = x at *
      obtain ⟨x0, x1, x2, x3, x4⟩ := x
      dsimp only at c0 c1 c2 c3 c4
      have b1 := within_bd x2 64 (by decide)
      have b2 := within_bd x3 (1 + within x2 64) (by omega)
      have b3 := within_bd x4 (1 + within x2 64 - within x3 (1 + within x2 64)) (by omega)
      have b4 := within_bd x1 4095 (by decide)
      have hs := Lib.hid (show rowGo a (⟨x0, x1, x2, x3, x4⟩ :: (l.take m).drop (k + 1)) = _ from rowGo.eq_2 ..)
      by_cases ht : 1000 - a < 1 + within x4 (1 + within x2 64 - within x3 (1 + within x2 64))
      · go_wp2_with (go_at_call 12; refine (within_any _ _ _ (by omega)).mono ?_; rintro e w' ⟨rfl, rfl⟩)
        go_ret
        refine ⟨_, rfl, ?_, HB.out⟩
        rw [hr.out, HD.out, hs.out]
        try dsimp only
        rw [if_pos ht, List.append_nil]; exact HO.out
      · have HT := Lib.hid ht
        go_wp2_with (first | (go_at_call 12; refine (within_any _ _ _ (by omega)).mono ?_; rintro e w' ⟨rfl, rfl⟩) | (at_builtin; refine Enc.Own.append1 (E := extE) rfl (.tmp 50) (.tmp 63) 31 rfl w.heap.size 38 (.agg #[.int .i64 0, .int .i64 0, .int .i64 0, .int .i64 0, .int .i64 0]) 5 40 Try.underlying31 infoExt rfl rfl (by decide) (by decide) u5 xs rfl HO.out ⟨a, 1 + within x1 4095, 1 + within x2 64, within x3 (1 + within x2 64), 1 + within x4 (1 + within x2 64 - within x3 (1 + within x2 64))⟩ _ rfl rfl rfl ?hlen ?hbase ?_; (case hlen => have := hlen.out; omega); (case hbase => exact HB.out.size); intro v1 w1 ho hg))
        go_roundg (l.length - (k + 1))
        case measure => omega
        case rel =>
          refine ⟨k + 1, a + (1 + within x4 (1 + within x2 64 - within x3 (1 + within x2 64))), xs ++ [⟨a, 1 + within x1 4095, 1 + within x2 64, within x3 (1 + within x2 64), 1 + within x4 (1 + within x2 64 - within x3 (1 + within x2 64))⟩], by omega, by omega, rfl, by go_num, rfl, by omega, by omega, Lib.hid ?_, Lib.hid ?_, ho, (HB.out.alloc _).grown hg (fun k hk => (Enc.Own.lt HO.out k hk).1)⟩
          · rw [hr.out, HD.out, hs.out]
            try dsimp only
            rw [if_neg (by have := HT.out; omega), List.append_assoc]; rfl
          · rw [List.length_append]; have := hlen.out; simp only [List.length_cons, List.length_nil]; omega
    · have hend : (l.take m).drop k = [] := List.drop_of_length_le (by rw [List.length_take]; omega)
      have HE := Lib.hid hend
      clear hend
      have hlt' : k < l.length → ¬ k < m := fun p q => hlt ⟨p, q⟩
      clear hlt
      by_cases hkl : k < l.length
      · have hkm' := hlt' hkl
        clear hlt'
        go_wp2
        go_ret
        refine ⟨_, rfl, ?_, HB.out⟩
        rw [hr.out, HE.out, rowGo, List.append_nil]; exact HO.out
      · clear hlt'
        go_wp2
        go_ret
        refine ⟨_, rfl, ?_, HB.out⟩
        rw [hr.out, HE.out, rowGo, List.append_nil]; exact HO.out
end Go.Proofs.Ytddcjekkimajpaa.ExtW

/- Contracts of overdubkeep's generic helps at extents and at pairs. -/
namespace Go.Proofs.Ytddcjekkimajpaa.ExtW
open Go.RowKit Go.Ov Go.Proofs.Ytddcjekkimajpaa.Need

def eqE (x y : Ext) : Bool := decide (x = y)
def eqP (x y : Int × Int) : Bool := decide (x = y)
theorem eq_ext (x0 x1 x2 x3 x4 y0 y1 y2 y3 y4 : Int) (w : World) :
    (Op.equalIn 10000 38 (.agg #[.int .i64 x0, .int .i64 x1, .int .i64 x2, .int .i64 x3, .int .i64 x4]) (.agg #[.int .i64 y0, .int .i64 y1, .int .i64 y2, .int .i64 y3, .int .i64 y4])).run Try.prog w = .ok (eqE ⟨x0, x1, x2, x3, x4⟩ ⟨y0, y1, y2, y3, y4⟩) w := by
  have hu := Try.underlying38
  have hi := Try.underlying3
  unfold eqE
  go_simp
  by_cases h0 : x0 = y0 <;> by_cases h1 : x1 = y1 <;> by_cases h2 : x2 = y2 <;> by_cases h3 : x3 = y3 <;> by_cases h4 : x4 = y4 <;> simp [h0, h1, h2, h3, h4]
def pairE : Enc (Int × Int) := ⟨2, fun x => [.int .i64 x.1, .int .i64 x.2], fun _ => rfl, fun x u h => by simp at h; rcases h with rfl | rfl <;> rfl⟩
theorem pair_at {w : World} {A : Option Addr} {xs : List (Int × Int)} (h : pairE.At w A xs) (k : Nat) (hk : k < xs.length) :
    ∃ ad, A = some ad ∧ w.cell? (ad.add (k * 2)) = some (.int .i64 xs[k].1) ∧ w.cell? ⟨(ad.add (k * 2)).block, (ad.add (k * 2)).off + 1, none⟩ = some (.int .i64 xs[k].2) := by
  obtain ⟨ad, e, hc⟩ := h k _ (List.getElem?_eq_getElem hk)
  refine ⟨ad, e, ?_, ?_⟩
  · exact hc 0 _ rfl
  · rw [← add_at _ _ 1 (by decide)]; exact hc 1 _ rfl
/-- the first m of a slice -/
theorem Enc.Is.take {α : Type} {E : Enc α} {w : World} {A : Option Addr} {c : Nat} {l : List α} (h : E.Is w (.slice A l.length c) l) (m : Nat) : E.Is w (.slice A (min l.length m) c) (l.take m) := by
  obtain ⟨A', c', e, h1, h2, h3, h4⟩ := h
  simp at e
  obtain ⟨rfl, rfl⟩ := e
  refine ⟨A, c, by rw [List.length_take, Nat.min_comm], by rw [List.length_take]; omega, h2, h3, fun i x hx => h4 i x ?_⟩
  rw [List.getElem?_take] at hx
  split at hx
  · exact hx
  · cases hx
set_option maxHeartbeats 1000000 in
theorem kcutExt_any (v : Value) (l : List Ext) (m : Nat) (w : World) (h : extE.Is w v l) (hm : m ≤ 1000) :
    Calls Try.prog 51 #[v, .int .i64 m] w fun e w' => ∃ u, e = .returned u ∧ extE.Is w' u (l.take m) ∧ w = w' := by
  obtain ⟨A, c, rfl, h1, h2, h3, h4⟩ := h
  have HH := Lib.hid (show extE.Is w (.slice A l.length c) l from ⟨A, c, rfl, h1, h2, h3, h4⟩)
  clear h4
  unfold maxLen at h2
  cases A with
  | none =>
    have hc : c = 0 := h3 rfl
    have hl : l = [] := List.eq_nil_of_length_eq_zero (by omega)
    subst hc; subst hl
    go_enter Try.func51, Try.ntmps51
    go_wp2
    go_ret
    refine ⟨_, rfl, ?_, rfl⟩
    have := Enc.Is.take HH.out m
    rwa [show min ([] : List Ext).length m = (min (0 : Int) m).toNat by simp; omega] at this
  | some ad =>
    go_enter Try.func51, Try.ntmps51
    go_wp2
    go_ret
    refine ⟨_, rfl, ?_, rfl⟩
    have := Enc.Is.take HH.out m
    rwa [show min l.length m = (min (l.length : Int) m).toNat by omega] at this

set_option maxRecDepth 100000 in
set_option maxHeartbeats 1000000 in
theorem sameExt_any (v u : Value) (a b : List Ext) (w : World) (h : extE.Is w v a) (h' : extE.Is w u b) :
    Calls Try.prog 19 #[v, u] w fun e w' => e = .returned (.bool (decide (a = b))) ∧ Bl w w' := by
  obtain ⟨A, c, rfl, h1, h2, h3, h4⟩ := h
  obtain ⟨A', c', rfl, h1', h2', h3', h4'⟩ := h'
  have HA := Lib.hid h4
  have HA' := Lib.hid h4'
  have hl : a.length ≤ 9223372036854775807 := by unfold maxLen at h2; omega
  have hl' : b.length ≤ 9223372036854775807 := by unfold maxLen at h2'; omega
  have hu := Try.underlying38
  clear h1 h2 h3 h4 h1' h2' h3' h4'
  by_cases hlen : a.length = b.length
  · go_enter Try.func19, Try.ntmps19
    go_wp2
    have HL := Lib.hid hlen
    clear hlen
    go_loopg [5] b.length (fun g i wr => ∃ k : Nat, k ≤ b.length ∧ g = b.length - k ∧ i = .int .i64 k ∧ Hid (a.take k = b.take k) ∧ Bl w wr)
    case atStart => exact ⟨0, by omega, rfl, rfl, Lib.hid rfl, Bl.refl _⟩
    case round =>
      obtain ⟨k, hk, rfl, rfl, heq, hbl⟩ := hrel
      have HB := Lib.hid hbl
      clear hbl
      by_cases hlt : k < b.length
      · have hlta : k < a.length := by have := HL.out; omega
        have hlti : (k : Int) < a.length := by omega
        obtain ⟨ad, rfl, c0, c1, c2, c3, c4⟩ := ext_at (HA.out.bl HB.out) k hlta
        obtain ⟨ad', rfl, d0, d1, d2, d3, d4⟩ := ext_at (HA'.out.bl HB.out) k hlt
        have ta := Lib.hid (List.take_succ_eq_append_getElem hlta)
        have tb := Lib.hid (List.take_succ_eq_append_getElem hlt)
        have hne := Lib.hid (fun h : a = b => show a[k]'hlta = b[k]'hlt by simp [h])
        generalize a[k] = x at *
        generalize b[k] = y at *
        obtain ⟨x0, x1, x2, x3, x4⟩ := x
        obtain ⟨y0, y1, y2, y3, y4⟩ := y
        dsimp only at c0 c1 c2 c3 c4 d0 d1 d2 d3 d4
        have hqq := eq_ext x0 x1 x2 x3 x4 y0 y1 y2 y3 y4
        go_wp2_with fail
        go_quiet (fail)
        clear hqq
        cases hq : eqE ⟨x0, x1, x2, x3, x4⟩ ⟨y0, y1, y2, y3, y4⟩
        · go_wp2
          go_ret
          refine ⟨ret_bool ?_, HB.out.drewN _⟩
          symm; rw [decide_eq_false_iff_not]
          intro h; have := hne.out h; unfold eqE at hq; simp [this] at hq
        · have HQ := Lib.hid hq
          clear hq
          go_wp2
          go_roundg (b.length - (k + 1))
          case measure => omega
          case rel =>
            refine ⟨k + 1, by omega, rfl, by go_num, Lib.hid ?_, HB.out.drewN _⟩
            have hxy := HQ.out
            unfold eqE at hxy
            rw [ta.out, tb.out, heq.out, of_decide_eq_true hxy]
      · have hna : ¬ k < a.length := by have := HL.out; omega
        go_wp2
        go_ret
        refine ⟨ret_bool ?_, HB.out⟩
        symm; rw [decide_eq_true_eq]
        have h := heq.out
        have := HL.out
        rwa [List.take_of_length_le (by omega), List.take_of_length_le (by omega)] at h
  · have hd : decide (a = b) = false := decide_eq_false (fun h => hlen (by rw [h]))
    have HD := Lib.hid hd
    clear hd
    go_enter Try.func19, Try.ntmps19
    go_wp2
    go_ret
    exact ⟨ret_bool HD.out.symm, Bl.refl _⟩

end Go.Proofs.Ytddcjekkimajpaa.ExtW

/- Contract of overdublaw18.spots. -/
namespace Go.Proofs.Ytddcjekkimajpaa.ExtW
open Go.RowKit Go.Ov Go.Proofs.Ytddcjekkimajpaa.Need

/-- small extents -/
def small (e : Ext) : Bool := decide (0 ≤ e.skip) && decide (e.skip ≤ 64) && decide (0 ≤ e.take) && decide (e.take ≤ 64)

end Go.Proofs.Ytddcjekkimajpaa.ExtW

/- The walk of overdublaw18.ExtentNothing. -/
namespace Go.Proofs.Ytddcjekkimajpaa.ExtW
open Go.RowKit Go.Ov Go.Proofs.Ytddcjekkimajpaa.Need

theorem splice_eq (v u : Value) (l new : List Ext) (fr tt : Int) (w : World) (h : extE.Is w v l) (hn : extE.Is w u new) (hv : validFrom 0 l = true) (hlen : new.length * 40 ≤ 100000000000000) {R : List Ext} {c : Int} (hm : spliceM l fr tt new = (R, c)) :
    Calls Try.prog 70 #[v, .int .i64 fr, .int .i64 tt, u] w fun e w' => ∃ z, e = .returned (.tuple #[z, .int .i64 c]) ∧ extE.Own 38 w' w.heap.size z R ∧ Bl w w' := by
  have := splice_any v u l new fr tt w h hn hv hlen
  rw [hm] at this; exact this
theorem end_eq (v : Value) (l : List Ext) (w : World) (h : extE.Is w v l) {n : Int} (hm : wrap64 (endM l) = n) :
    Calls Try.prog 63 #[v] w fun e w' => e = .returned (.int .i64 n) ∧ Bl w w' := by
  have := end_any v l w h
  rw [hm] at this; exact this

theorem valid_small : ∀ (l : List Ext) (a : Int), validFrom a l = true → ∀ e ∈ l, small e = true
  | [], _, _ => fun e h => by simp at h
  | x :: l, a, hv => by
    obtain ⟨e0, e1, e2, e3, e4, e5, e6, e7, e8, e9⟩ := valid_cons hv
    intro e he
    rcases List.mem_cons.1 he with rfl | he
    · simp [small]; omega
    · exact valid_small l _ e9 e he
theorem valid_len (l : List Ext) (h : validFrom 0 l = true) : l.length ≤ 1000 := by have := validFrom_bd l 0 (by decide) h; omega
theorem shift_zero : ∀ (l : List Ext) (a : Int), 0 ≤ a → a ≤ 1000 → validFrom a l = true → shiftM 0 l = l
  | [], _, _, _, _ => rfl
  | x :: l, a, h0, h1, hv => by
    obtain ⟨e0, e1, e2, e3, e4, e5, e6, e7, e8, e9⟩ := valid_cons hv
    show shiftE 0 x :: shiftM 0 l = x :: l
    rw [shift_zero l (a + x.take) (by omega) e8 e9]
    obtain ⟨x0, x1, x2, x3, x4⟩ := x
    simp only at e0
    simp only [shiftE, Int.add_zero]
    rw [wrap_id (by omega) (by omega)]

/-- what the statement says, of the model -/
theorem nothing_pure (R M : List Ext) (at_ : Int) (hR : validFrom 0 R = true) (hM : validFrom 0 M = true) (h0 : 0 ≤ at_) (h1 : at_ ≤ endM R) :
    spliceM R at_ at_ [] = (spliceL R at_ at_ [], 0) ∧ validFrom 0 (spliceL R at_ at_ []) = true ∧ spotsM (spliceL R at_ at_ []) = spotsM R ∧
    spliceM R 0 (endM R) M = (M, 0) ∧ spliceM R 0 (endM R) [] = ([], 0) ∧ spliceM [] 0 0 M = (M, 0) ∧ spliceM R (endM R + 1) (endM R + 1) [] = ([], 1) ∧ spliceM R 0 (-1) [] = ([], 1) := by
  have b1 := valid_bd R 0 (by decide) hR
  have b2 := valid_bd M 0 (by decide) hM
  have hn : endM [] = 0 := rfl
  have good : ∀ (l : List Ext) (fr tt : Int) (new : List Ext), validFrom 0 new = true → 0 ≤ fr → fr ≤ tt → fr ≤ endM l → fr + endM new + endM l - min tt (endM l) ≤ 1000 → spliceM l fr tt new = (spliceL l fr tt new, 0) := by
    intro l fr tt new h1 h2 h3 h4 h5
    unfold spliceM spliceBad spliceLong
    rw [if_neg (by simp [h1]; omega), if_neg (by simp; omega)]
  have whole : ∀ (l new : List Ext), validFrom 0 l = true → validFrom 0 new = true → spliceL l 0 (endM l) new = new := by
    intro l new hl hn
    unfold spliceL
    rw [cut_nil l 0 0 0 (by decide) hl (by decide), shift_zero new 0 (by decide) (by decide) hn, Int.min_self, cut_nil l 0 _ _ (by decide) hl (by omega)]
    simp [shiftM]
  refine ⟨good _ _ _ _ rfl h0 (Int.le_refl _) h1 (by omega), splice_valid R [] _ _ hR rfl h0 (Int.le_refl _) h1 (by omega), ?_, ?_, ?_, ?_, ?_, ?_⟩
  · rw [splice_spots R [] _ _ hR h0 (Int.le_refl _) h1, Int.min_eq_left h1]
    simp [spotsM]
  · rw [good _ _ _ _ hM (by decide) (by omega) (by omega) (by omega), whole R M hR hM]
  · rw [good _ _ _ _ rfl (by decide) (by omega) (by omega) (by omega), whole R [] hR rfl]
  · rw [good [] 0 0 M hM (by decide) (by decide) (by decide) (by rw [hn]; omega)]; exact congrArg (·, 0) (whole [] M rfl hM)
  · unfold spliceM spliceBad; rw [if_pos (by simp; omega)]
  · unfold spliceM spliceBad; rw [if_pos (by simp)]

end Go.Proofs.Ytddcjekkimajpaa.ExtW

/- Contracts of tree.New, From, Splice, Nodes, End, Len. -/
namespace Go.Proofs.Ytddcjekkimajpaa.ExtW
open Go.RowKit Go.Ov Go.Proofs.Ytddcjekkimajpaa.Need

theorem TreeIs.mk' {w : World} {u : Head} {h : NH} {t : TreeM} {b : Nat} {T : TypeId} (hb : Blk w b #[u.v, h.a.v, h.b.v, h.c.v] T) (h1 : extE.Is w u.v t.row) (h2 : NodeR w t.top h) : TreeIs w (.pointer (some ⟨b, 0, none⟩)) t :=
  ⟨b, u, h, rfl, hb.cell 0, hb.cell 1, hb.cell 2, hb.cell 3, h1, h2⟩
theorem madeM_nil : madeM [] = .nil := by
  unfold madeM
  rw [topM_one _ (by rw [leavesM_len]; decide)]; rfl

set_option maxHeartbeats 1000000 in
theorem tnew_G (w : World) : Calls Try.prog 40 #[] w fun e w' => ∃ u, e = .returned u ∧ TreeIs (only w' (fr w)) u (treeM []) ∧ Bl w w' := by
  go_enter Try.func40, Try.ntmps40
  go_wp2
  go_ret
  refine ⟨_, rfl, TreeIs.mk' (u := nilH) (h := ⟨nilH, nilH, nilH⟩) ((Blk.new _ _ _).only (fr_ge (Nat.le_refl _) (Nat.le_refl _))) (Enc.Is.nil _) ?_, (Bl.refl _).alloc _⟩
  rw [show (treeM []).top = .nil from madeM_nil]
  exact NodeR.mk' (Enc.Is.nil _) (Enc.Is.nil _) (Enc.Is.nil _) (NRows.nil _)
theorem tnew_any (w : World) : Calls Try.prog 40 #[] w fun e w' => ∃ u, e = .returned u ∧ TreeIs w' u (treeM []) ∧ Bl w w' :=
  (tnew_G w).mono fun _ w' ⟨u, e, h, hb⟩ => ⟨u, e, (Sub.un w' _).tree h, hb⟩

set_option maxRecDepth 100000 in
set_option maxHeartbeats 1000000 in
theorem tfrom_bad (v : Value) (l : List Ext) (w : World) (h : extE.Is w v l) (hv : validFrom 0 l = false) :
    Calls Try.prog 32 #[v] w fun e w' => e = .returned (.tuple #[.pointer none, .int .i64 1]) ∧ Bl w w' := by
  have HL := Lib.hid h
  have HV := Lib.hid hv
  clear h hv
  go_enter Try.func32, Try.ntmps32
  go_wp2_with fail
  refine (valid_any _ _ _ HL.out).mono ?_
  rintro e w1 ⟨rfl, hb⟩
  rw [HV.out]
  go_wp2_with fail
  go_ret2
  exact ⟨rfl, hb⟩

set_option maxRecDepth 100000 in
set_option maxHeartbeats 1000000 in
theorem tfrom_G (v : Value) (l : List Ext) (w : World) (h : extE.Is w v l) (hv : validFrom 0 l = true) :
    Calls Try.prog 32 #[v] w fun e w' => ∃ u, e = .returned (.tuple #[u, .int .i64 0]) ∧ TreeIs (only w' (fr w)) u (treeM l) ∧ Bl w w' := by
  have hlen := valid_len l hv
  have HL := Lib.hid h
  have HV := Lib.hid hv
  clear h hv
  have hu := Try.underlying91
  go_enter Try.func32, Try.ntmps32
  go_wp2_with fail
  refine (valid_any _ _ _ HL.out).mono ?_
  rintro e w1 ⟨rfl, hb⟩
  rw [HV.out]
  have HB := Lib.hid hb
  clear hb
  go_wp2_with fail
  refine (tfresh_any _ _ _ (HL.out.bl HB.out) (by omega)).mono ?_
  rintro e w2 ⟨u, rfl, ho, hb⟩
  have HU := Lib.hid (ho.isM (G := fr w) (fun k hk => fr_ge HB.out.size hk))
  obtain ⟨A, c, rfl⟩ := ho.slice
  replace HB := Lib.hid (HB.out.bl hb)
  clear ho hb
  go_wp2_with fail
  refine (tmade_G _ _ _ (HL.out.bl HB.out) hlen).mono ?_
  rintro e w3 ⟨n, rfl, hn, hb⟩
  have HN := Lib.hid ((Sub.mono (fr_le HB.out.size)).node hn)
  replace HU := Lib.hid (HU.out.bl (hb.only (fr w)))
  replace HB := Lib.hid (HB.out.bl hb)
  clear hn hb
  unfold NH.v
  go_wp2_with fail
  go_ret2
  refine ⟨_, rfl, TreeIs.mk' (u := ⟨A, l.length, c⟩) (h := n) ((Blk.new _ _ _).only (fr_ge HB.out.size (Nat.le_refl _))) (HU.out.bl (((Bl.refl _).alloc _).only (fr w))) (HN.out.bl (((Bl.refl _).alloc _).only (fr w))), HB.out.alloc _⟩
theorem tfrom_ok (v : Value) (l : List Ext) (w : World) (h : extE.Is w v l) (hv : validFrom 0 l = true) :
    Calls Try.prog 32 #[v] w fun e w' => ∃ u, e = .returned (.tuple #[u, .int .i64 0]) ∧ TreeIs w' u (treeM l) ∧ Bl w w' :=
  (tfrom_G v l w h hv).mono fun _ w' ⟨u, e, h, hb⟩ => ⟨u, e, (Sub.un w' _).tree h, hb⟩

theorem splice_row_valid {l new : List Ext} {fr tt : Int} (hv : validFrom 0 l = true) (h : (spliceM l fr tt new).2 = 0) : validFrom 0 (spliceM l fr tt new).1 = true := by
  unfold spliceM at *
  by_cases hb : spliceBad l fr tt new = true
  · rw [if_pos hb] at h; simp at h
  · rw [if_neg hb] at h ⊢
    by_cases hl : spliceLong l fr tt new = true
    · rw [if_pos hl] at h; simp at h
    · rw [if_neg hl]
      simp only [spliceBad, Bool.or_eq_true, Bool.not_eq_true', decide_eq_true_eq, not_or, Bool.not_eq_false] at hb
      obtain ⟨⟨⟨h1, h2⟩, h3⟩, h4⟩ := hb
      simp only [spliceLong, decide_eq_true_eq] at hl
      exact splice_valid l new fr tt hv h1 (by omega) (by omega) (by omega) (by omega)

/-- what a splice of a tree gives -/
def SpliceRes (w' : World) (e : Ending) (s : List Ext × Int) : Prop :=
  (s.2 = 0 → ∃ u, e = .returned (.tuple #[u, .int .i64 0]) ∧ TreeIs w' u (treeM s.1)) ∧ (s.2 ≠ 0 → e = .returned (.tuple #[.pointer none, .int .i64 s.2]))
theorem SpliceRes.sub {a b : World} {e : Ending} {s : List Ext × Int} (h : SpliceRes a e s) (hs : Sub a b) : SpliceRes b e s := ⟨fun z => by obtain ⟨u, e, t⟩ := h.1 z; exact ⟨u, e, hs.tree t⟩, h.2⟩

set_option maxRecDepth 100000 in
set_option maxHeartbeats 1000000 in
theorem tsplice_G (v u : Value) (t : TreeM) (new : List Ext) (fr tt : Int) (w : World) (h : TreeIs w v t) (hn : extE.Is w u new) (hv : validFrom 0 t.row = true) (hlen : new.length * 40 ≤ 100000000000000) :
    Calls Try.prog 42 #[v, .int .i64 fr, .int .i64 tt, u] w fun e w' => SpliceRes (only w' (Go.Ov.fr w)) e (spliceM t.row fr tt new) ∧ Bl w w' := by
  obtain ⟨b, uh, n, rfl, c0, _, _, _, hl, _⟩ := h
  have HL := Lib.hid hl
  have HN := Lib.hid hn
  have HV := Lib.hid hv
  have HS := Lib.hid (splice_row_valid (new := new) (fr := fr) (tt := tt) hv)
  simp only [Head.v] at c0
  clear hl hn hv
  have hu := Try.underlying91
  go_enter Try.func42, Try.ntmps42
  go_wp2_with fail
  refine (splice_any _ _ t.row new _ _ _ HL.out HN.out HV.out hlen).mono ?_
  rintro e w1 ⟨z, rfl, ho, hb⟩
  have HO := Lib.hid ho
  have HB := Lib.hid hb
  clear ho hb
  by_cases hz : (spliceM t.row fr tt new).2 = 0
  · have hz2 := hz
    rw [hz]
    have HZ := Lib.hid hz
    clear hz hz2
    go_wp2_with fail
    refine (tfrom_G _ _ _ HO.out.is (HS.out HZ.out)).mono ?_
    rintro e w2 ⟨u2, rfl, ht, hb⟩
    have HT := Lib.hid ((Sub.mono (fr_le HB.out.size)).tree ht)
    clear ht
    go_wp2_with fail
    go_ret2
    exact ⟨⟨fun _ => ⟨_, rfl, HT.out⟩, fun h => absurd HZ.out h⟩, HB.out.bl hb⟩
  · generalize hs : (spliceM t.row fr tt new).2 = err at *
    have hz1 : (err == 0) = false := by simpa using hz
    have hz2 : (err != 0) = true := by simpa using hz
    have HZ := Lib.hid hz
    have HE := Lib.hid hs
    clear hz hs
    go_wp2_with fail
    go_ret2
    exact ⟨⟨fun h => absurd (HE.out.symm.trans h) HZ.out, fun _ => by rw [HE.out]; rfl⟩, HB.out⟩
theorem tsplice_any (v u : Value) (t : TreeM) (new : List Ext) (fr tt : Int) (w : World) (h : TreeIs w v t) (hn : extE.Is w u new) (hv : validFrom 0 t.row = true) (hlen : new.length * 40 ≤ 100000000000000) :
    Calls Try.prog 42 #[v, .int .i64 fr, .int .i64 tt, u] w fun e w' => SpliceRes w' e (spliceM t.row fr tt new) ∧ Bl w w' :=
  (tsplice_G v u t new fr tt w h hn hv hlen).mono fun _ w' ⟨h, hb⟩ => ⟨h.sub (Sub.un w' _), hb⟩

set_option maxHeartbeats 1000000 in
theorem tend_any (v : Value) (t : TreeM) (w : World) (h : TreeIs w v t) (hv : validFrom 0 t.row = true) :
    Calls Try.prog 37 #[v] w fun e w' => e = .returned (.int .i64 (endM t.row)) ∧ Bl w w' := by
  obtain ⟨b, uh, n, rfl, c0, _, _, _, hl, _⟩ := h
  have hb := validFrom_bd t.row 0 (by decide) hv
  have hw : wrap64 (endM t.row) = endM t.row := wrap_id (by omega) (by omega)
  have HL := Lib.hid hl
  have HW := Lib.hid hw
  simp only [Head.v] at c0
  clear hl hv hw
  have hu := Try.underlying91
  go_enter Try.func37, Try.ntmps37
  go_wp2_with fail
  refine (end_any _ _ _ HL.out).mono ?_
  rintro e w1 ⟨rfl, hb⟩
  rw [HW.out]
  go_wp2_with fail
  go_ret
  exact ⟨rfl, hb⟩

def nodesOf : NodeM → Nat
  | .mk [] [] [] => 0
  | n => n.count
theorem nodesOf_eq (l : List Ext) (f : List Int) (p : List NodeM) : nodesOf (.mk l f p) = if isE l.length f.length p.length then 0 else (NodeM.mk l f p).count := by
  cases l <;> cases f <;> cases p <;> simp [nodesOf, isE]

end Go.Proofs.Ytddcjekkimajpaa.ExtW

/- Contracts of tree.Node's depth, items, copied, of tree.Of and Right: at a tree that is right. -/
namespace Go.Proofs.Ytddcjekkimajpaa.ExtW
open Go.RowKit Go.Ov Go.Proofs.Ytddcjekkimajpaa.Need

set_option maxRecDepth 100000 in
set_option maxHeartbeats 4000000 in
theorem tdepth_any : ∀ (d : Nat) (top : Bool) (n : NodeM) (h : NH) (left : Int) (w : World), NodeR w n h → goodN d top n → (d : Int) ≤ left → left ≤ 100 →
    Calls Try.prog 89 #[h.v, .bool top, .int .i64 left] w fun e w' => e = .returned (.int .i64 d) ∧ Bl w w'
  | 0, _, _, _, _, _, _, hg, _, _ => by cases ‹NodeM›; exact hg.elim
  | 1, top, .mk l f p, h, left, w, hr, hg, hd, hl => by
    obtain ⟨rfl, rfl, h1, h2⟩ := hg
    obtain ⟨a1, a2, hs, a3, a4⟩ := hr.inv
    obtain ⟨A1, c1, e1, _⟩ := a1
    obtain ⟨A2, c2, e2, _⟩ := a2
    obtain ⟨A3, c3, e3, _⟩ := a3
    have hs0 : hs = [] := List.eq_nil_of_length_eq_zero a4.1
    subst hs0
    have hu := Try.underlying89
    have hl1 : (1 : Int) ≤ left := by omega
    have hl2 : ¬ left < 1 := by omega
    have hl3 : (l.length : Int) ≤ 8 := by omega
    unfold NH.v
    rw [e1, e2, e3]
    clear e1 e2 e3 a4
    cases top with
    | true =>
      have h3 : (1 : Int) ≤ l.length := by simp [leastN] at h1; omega
      go_enter Try.func89, Try.ntmps89
      go_wp2_with fail
      go_ret
      exact ⟨rfl, (Bl.refl _).alloc _⟩
    | false =>
      have h3 : (4 : Int) ≤ l.length := by simp [leastN] at h1; omega
      go_enter Try.func89, Try.ntmps89
      go_wp2_with fail
      go_ret
      exact ⟨rfl, (Bl.refl _).alloc _⟩
  | d + 2, top, .mk l f p, h, left, w, hr, hg, hd, hl => by
    obtain ⟨rfl, hf, h1, h2, hp⟩ := hg
    obtain ⟨a1, a2, hs, a3, a4⟩ := hr.inv
    obtain ⟨A1, c1, e1, _⟩ := a1
    obtain ⟨A2, c2, e2, _, _, _, at2⟩ := a2
    obtain ⟨A3, c3, e3, q1, q2, q3, at3⟩ := a3
    have hfl : f.length = p.length := by rw [hf, List.length_map]
    have HA := Lib.hid at3
    have HF := Lib.hid at2
    have HR := Lib.hid a4
    have HL := Lib.hid a4.1
    have HFe := Lib.hid hf
    have HP := Lib.hid hp
    have HIH := Lib.hid (tdepth_any (d + 1))
    have hu := Try.underlying89
    have hhs := a4.1
    have hp2 : 2 ≤ p.length := by omega
    unfold NH.v
    rw [e1, e2, e3]
    rw [hfl, ← hhs]
    have HFL := Lib.hid hfl
    have hl1 : ¬ left < 2 := by omega
    have hl8 : (hs.length : Int) ≤ 8 := by omega
    have hl2 : (2 : Int) ≤ hs.length := by omega
    have hl4 : top = false → (4 : Int) ≤ hs.length := by intro ht; subst ht; simp [leastN] at h1; omega
    have hn0 : ((hs.length : Int) == 0) = false := by rw [beq_eq_false_iff_ne]; omega
    clear e1 e2 e3 a4 at2 at3 hp hf hr hfl q1 q2 q3 h1 h2 hhs
    go_enter Try.func89, Try.ntmps89
    go_upto_if 12 with (fail)
    go_cut [7] (fun v7 wc => ∃ m : Int, v7 = .int .i64 m ∧ m ≤ hs.length ∧ wc = w.alloc (.cells #[.slice A1 0 c1, .slice A2 hs.length c2, .slice A3 hs.length c3] 89))
    case first =>
      cases top with
      | true =>
        go_wp2_with fail
        go_meet
        exact ⟨1, rfl, by omega, rfl⟩
      | false =>
        have := hl4 rfl
        go_wp2_with fail
        go_meet
        exact ⟨4, rfl, by omega, rfl⟩
    case rest =>
    obtain ⟨m, rfl, hm, rfl⟩ := hcut
    clear hl4
    have hmx : ¬ ((hs.length : Int) < max 2 m) := by omega
    have hp0 : 0 < hs.length := by omega
    obtain ⟨ad, rfl, k0, k1, k2⟩ := node_at0 (HA.out.bl ((Bl.refl w).alloc (.cells #[.slice A1 0 c1, .slice A2 hs.length c2, .slice A3 hs.length c3] 89))) hp0
    have hpp : 0 < p.length := by have := HL.out; omega
    obtain ⟨_, hr0⟩ := HR.out.at 0 hpp
    have HR0 := Lib.hid hr0
    have HG0 := Lib.hid (HP.out p[0] (List.getElem_mem hpp)).1
    simp only [Head.v] at k0 k1 k2
    generalize hs[0] = h0 at *
    generalize p[0] = x0 at *
    clear hr0
    go_wp2_with fail
    refine (HIH.out false x0 h0 _ _ (HR0.out.bl ((Bl.refl _).alloc _)) HG0.out (by omega) (by omega)).mono ?_
    rintro e w1 ⟨rfl, hb⟩
    have HB := Lib.hid (((Bl.refl w).alloc _).bl hb)
    have HK := Lib.hid ((Blk.new w #[.slice A1 0 c1, .slice A2 hs.length c2, .slice (some ad) hs.length c3] 89).bl hb)
    have z1 := HK.out.cell 1
    have z2 := HK.out.cell 2
    simp at z1 z2
    have hdn : ¬ ((d : Int) + 1 < 0) := by omega
    clear k0 k1 k2 hb
    go_wp2_with fail
    go_loopg [79] hs.length (fun g i wr => ∃ k : Nat, k ≤ hs.length ∧ g = hs.length - k ∧ i = .int .i64 k ∧ Hid (Bl w1 wr))
    case atStart => exact ⟨0, by omega, rfl, rfl, Lib.hid (Bl.refl _)⟩
    case round =>
      obtain ⟨k, hk, rfl, rfl, HC⟩ := hrel
      by_cases hlt : k < hs.length
      · have hkp : k < p.length := by have := HL.out; omega
        have hkf : k < f.length := by have := HFL.out; omega
        obtain ⟨ad', e', k0, k1, k2⟩ := node_at (HA.out.bl (HB.out.bl HC.out)) k hlt
        cases e'
        obtain ⟨_, hr1⟩ := HR.out.at k hkp
        obtain ⟨af, rfl, f0⟩ := int_at (HF.out.bl (HB.out.bl HC.out)) k hkf
        have hfe : f[k] = p[k].first1 := by
          have := HFe.out
          simp only [this, List.getElem_map]
        rw [hfe] at f0
        have HR1 := Lib.hid (hr1.bl (HB.out.bl HC.out))
        have hg1 := HP.out p[k] (List.getElem_mem hkp)
        have HG1 := Lib.hid hg1.1
        have HF1 := Lib.hid hg1.2
        have g1 := (HK.out.bl HC.out).cell 1
        simp at g1
        simp only [Head.v] at k0 k1 k2
        generalize hs[k] = h1 at *
        generalize p[k] = x1 at *
        have hw : IntKind.i64.wrap (left - 1) = left - 1 := IntWalk.i64_in _ (by omega)
        have hki : (k : Int) < hs.length := by omega
        clear hr1 hg1 hfe z1 z2
        go_wp2_with fail
        refine wp_region_ways (S := (fun w' => (w'.cell? ⟨wr.heap.size, 0, none⟩ = some (.slice h1.a.A h1.a.n h1.a.cap) ∧ w'.cell? ⟨wr.heap.size, 1, none⟩ = some (.slice h1.b.A h1.b.n h1.b.cap) ∧ w'.cell? ⟨wr.heap.size, 2, none⟩ = some (.slice h1.c.A h1.c.n h1.c.cap)) ∧ w'.cell? ⟨w.heap.size, 1, none⟩ = some (.slice (some af) hs.length c2) ∧ w'.cell? (af.add k) = some (.int .i64 x1.first1))) [0, 1, 2, 3, 4, 5, 7, 8, 9, 10, 11, 13, 14, 15, 16, 17, 18, 19] (y := .take 0 (.take 1 (.take 2 (.take 3 (.take 4 (.take 5 (.take 7 (.ev 6 (.take 8 (.take 9 (.take 10 (.take 11 (.take 13 (.take 14 (.take 15 (.take 16 (.take 17 (.ev 12 (.take 18 (.take 19 (.done))) (.stop))))))))))) (.stop))))))))) (by kernel_rfl) (by kernel_rfl) (by kernel_rfl) ?_ (fun hHeld => ?_)
        · have hb := ((Blk.new wr #[.slice h1.a.A h1.a.n h1.a.cap, .slice h1.b.A h1.b.n h1.b.cap, .slice h1.c.A h1.c.n h1.c.cap] 89).bl (Bl.refl _).drew).cell
          have hb2 := ((Bl.refl wr).alloc (.cells #[.slice h1.a.A h1.a.n h1.a.cap, .slice h1.b.A h1.b.n h1.b.cap, .slice h1.c.A h1.c.n h1.c.cap] 89)).drew
          exact ⟨⟨hb 0, hb 1, hb 2⟩, hb2.cell g1, hb2.cell f0⟩
        have HH := Lib.hid hHeld
        clear hHeld f0 g1 k0 k1 k2
        have HB4 := Lib.hid (((Bl.refl wr).alloc (.cells #[.slice h1.a.A h1.a.n h1.a.cap, .slice h1.b.A h1.b.n h1.b.cap, .slice h1.c.A h1.c.n h1.c.cap] 89)).drew)
        repeat (first | (refine wpWay_take rfl (by rfl) (by intro w hSw; (try dsimp only at hSw); first | (go_simp; done) | (go_simp; with_reducible rfl)) ?_; try simp only [Act.put, List.setIfInBounds_toArray, List.set_cons_zero, List.set_cons_succ]) | (refine wpWay_skip rfl (by rfl) ?_; try simp only [Act.put, List.setIfInBounds_toArray, List.set_cons_zero, List.set_cons_succ]))
        refine wpWay_ev rfl (fun K hK => ?_) wpWay_stop
        go_wp2_with fail
        refine (HIH.out false x1 h1 _ _ (HR1.out.bl HB4.out) HG1.out (by omega) (by omega)).mono ?_
        rintro e w2 ⟨rfl, hb⟩
        have HB5 := Lib.hid (HB4.out.bl hb)
        have HH2 := Lib.hid (And.intro (And.intro (hb.cell HH.out.1.1) (And.intro (hb.cell HH.out.1.2.1) (hb.cell HH.out.1.2.2))) (And.intro (hb.cell HH.out.2.1) (hb.cell HH.out.2.2)))
        clear hb
        go_wp2_with fail
        refine ⟨HH2.out, ?_⟩
        repeat (first | (refine wpWay_take rfl (by rfl) (by intro w hSw; (try dsimp only at hSw); first | (go_simp; done) | (go_simp; with_reducible rfl)) ?_; try simp only [Act.put, List.setIfInBounds_toArray, List.set_cons_zero, List.set_cons_succ]) | (refine wpWay_skip rfl (by rfl) ?_; try simp only [Act.put, List.setIfInBounds_toArray, List.set_cons_zero, List.set_cons_succ]))
        refine wpWay_ev rfl (fun K hK => ?_) wpWay_stop
        go_wp2_with fail
        refine (tfirst_any x1 h1 _ (HR1.out.bl HB5.out) HF1.out).mono ?_
        rintro e w3 ⟨rfl, hb⟩
        have HB6 := Lib.hid (HB5.out.bl hb)
        have HH3 := Lib.hid (And.intro (And.intro (hb.cell HH2.out.1.1) (And.intro (hb.cell HH2.out.1.2.1) (hb.cell HH2.out.1.2.2))) (And.intro (hb.cell HH2.out.2.1) (hb.cell HH2.out.2.2)))
        clear hb
        go_wp2_with fail
        refine ⟨HH3.out, ?_⟩
        repeat (first | (refine wpWay_take rfl (by rfl) (by intro w hSw; (try dsimp only at hSw); first | (go_simp; done) | (go_simp; with_reducible rfl)) ?_; try simp only [Act.put, List.setIfInBounds_toArray, List.set_cons_zero, List.set_cons_succ]) | (refine wpWay_skip rfl (by rfl) ?_; try simp only [Act.put, List.setIfInBounds_toArray, List.set_cons_zero, List.set_cons_succ]))
        refine wpWay_done ?_
        clear hw
        go_wp2_with fail
        go_roundg (hs.length - (k + 1))
        case measure => omega
        case rel => exact ⟨k + 1, by omega, rfl, by go_num, Lib.hid (HC.out.bl HB6.out)⟩
      · go_wp2_with fail
        go_ret
        exact ⟨ret_int (by omega), HB.out.bl HC.out⟩
end Go.Proofs.Ytddcjekkimajpaa.ExtW

/- Contract of tree.Node's items. -/
namespace Go.Proofs.Ytddcjekkimajpaa.ExtW
open Go.RowKit Go.Ov Go.Proofs.Ytddcjekkimajpaa.Need

theorem itemsL_take (p : List NodeM) (k : Nat) (h : k < p.length) : itemsL (p.take (k + 1)) = itemsL (p.take k) ++ itemsM p[k] := by
  rw [itemsL_flat, itemsL_flat, List.take_succ_eq_append_getElem h, List.flatMap_append]; simp
theorem itemsL_le (p : List NodeM) (k : Nat) : (itemsL (p.take k)).length ≤ (itemsL p).length := by
  have : itemsL p = itemsL (p.take k) ++ itemsL (p.drop k) := by rw [itemsL_flat, itemsL_flat, itemsL_flat, ← List.flatMap_append, List.take_append_drop]
  rw [this, List.length_append]; omega

set_option maxRecDepth 100000 in
set_option maxHeartbeats 1000000 in
theorem titems_any (n : NodeM) (h : NH) (w : World) (hr : NodeR w n h) (hc : (itemsM n).length ≤ 1000000) :
    Calls Try.prog 90 #[h.v] w fun e w' => ∃ u, e = .returned u ∧ extE.Own 38 w' w.heap.size u (itemsM n) ∧ Bl w w' := by
  generalize hm : n.count = m
  induction m using Nat.strongRecOn generalizing n h w with
  | _ m ih =>
    have IH : ∀ (n : NodeM) (h : NH) (w : World), n.count < m → NodeR w n h → (itemsM n).length ≤ 1000000 → Calls Try.prog 90 #[h.v] w fun e w' => ∃ u, e = .returned u ∧ extE.Own 38 w' w.heap.size u (itemsM n) ∧ Bl w w' := fun n h w hn hr hc => ih n.count hn n h w hr hc rfl
    have HIH := Lib.hid IH
    obtain ⟨l, f, p⟩ := n
    rw [count_mk] at hm
    rw [itemsM_mk] at hc
    obtain ⟨h1, h2, hs, h3, h4⟩ := hr.inv
    have HX := Lib.hid h1
    obtain ⟨A1, c1, e1, _⟩ := h1
    obtain ⟨A2, c2, e2, _⟩ := h2
    obtain ⟨A3, c3, e3, q1, q2, q3, at3⟩ := h3
    have HA := Lib.hid at3
    have HR := Lib.hid h4
    have HM := Lib.hid hm
    have HL := Lib.hid h4.1
    have hu := Try.underlying89
    unfold maxLen at q2
    unfold NH.v
    rw [e1] at HX
    rw [e1, e2, e3, itemsM_mk]
    rw [List.length_append] at hc
    have hll : l.length * 40 ≤ 140737488355328 := by omega
    clear ih IH hr h4 at3 hm e1 e2 e3 q3
    go_enter Try.func90, Try.ntmps90
    go_wp2_with fail
    refine (tfresh_any _ _ _ (HX.out.bl ((Bl.refl _).alloc _)) hll).mono ?_
    rintro e w1 ⟨u, rfl, ho, hb⟩
    have HK := Lib.hid ((Blk.new w #[.slice A1 l.length c1, .slice A2 f.length c2, .slice A3 hs.length c3] 89).bl hb)
    have HB := Lib.hid (((Bl.refl w).alloc _).bl hb)
    have HO := Lib.hid (ho.low ((Bl.refl w).alloc (.cells #[.slice A1 l.length c1, .slice A2 f.length c2, .slice A3 hs.length c3] 89)).size)
    obtain ⟨A4, c4, rfl⟩ := ho.slice
    have z2 := HK.out.cell 2
    simp at z2
    clear ho hb
    go_wp2_with fail
    go_loopg [3, 12] hs.length (fun g v3 i wr => ∃ k : Nat, k ≤ hs.length ∧ g = hs.length - k ∧ i = .int .i64 k ∧ Hid (extE.Own 38 wr w.heap.size v3 (l ++ itemsL (p.take k))) ∧ Hid (Bl w wr))
    case atStart => exact ⟨0, by omega, rfl, rfl, Lib.hid (by simpa [itemsL] using HO.out), HB⟩
    case round =>
      obtain ⟨k, hk, rfl, rfl, HO1, HC⟩ := hrel
      by_cases hlt : k < hs.length
      · have hkp : k < p.length := by have := HL.out; omega
        obtain ⟨_, hn⟩ := HR.out.at k hkp
        obtain ⟨ad, rfl, k0, k1, k2⟩ := node_at (HA.out.bl HC.out) k hlt
        have HN := Lib.hid (hn.bl HC.out)
        have hlk := itemsL_take p k hkp
        have HLK := Lib.hid hlk
        have hle := itemsL_le p (k + 1)
        rw [hlk, List.length_append] at hle
        have hcm := count_mem p k hkp
        have hm := HM.out
        generalize hs[k] = h' at *
        generalize p[k] = x at *
        simp only [Head.v] at k0 k1 k2
        have hxm : x.count < m := by omega
        have hol : (l ++ itemsL (p.take k)).length + (itemsM x).length ≤ 1000000 := by rw [List.length_append]; omega
        obtain ⟨o, hoe⟩ : ∃ o, o = l ++ itemsL (p.take k) := ⟨_, rfl⟩
        rw [← hoe] at HO1 hol
        have HOe := Lib.hid hoe
        clear hoe
        obtain ⟨A5, c5, rfl⟩ := HO1.out.slice
        clear hn hlk hm hcm z2
        have hxl : (itemsM x).length ≤ 1000000 := by omega
        go_wp2_with fail
        refine (HIH.out x h' _ hxm (HN.out.bl ((Bl.refl _).alloc _)) hxl).mono ?_
        rintro e w2 ⟨u, rfl, ho, hb⟩
        have HU := Lib.hid ho.is
        have HO2 := Lib.hid (HO1.out.bl (((Bl.refl wr).alloc _).bl hb))
        have HB2 := Lib.hid (((Bl.refl wr).alloc (.cells #[.slice h'.a.A h'.a.n h'.a.cap, .slice h'.b.A h'.b.n h'.b.cap, .slice h'.c.A h'.c.n h'.c.cap] 89)).bl hb)
        obtain ⟨A6, c6, rfl⟩ := ho.slice
        clear ho hb
        go_wp2_with (at_builtin; refine Enc.Own.append (E := extE) rfl (.tmp 16) (.tmp 18) 31 rfl w.heap.size 38 (.agg #[.int .i64 0, .int .i64 0, .int .i64 0, .int .i64 0, .int .i64 0]) 5 40 Try.underlying31 infoExt rfl rfl (by decide) (by decide) _ _ rfl HO2.out _ _ rfl HU.out ?hlen ?hbase ?_; (case hlen => omega); (case hbase => exact (HC.out.bl HB2.out).size); intro v1 w4 ho hg)
        have HC4 := Lib.hid ((HC.out.bl HB2.out).grown hg (fun k hk => (Enc.Own.lt HO2.out k hk).1))
        have HO4 := Lib.hid (show extE.Own 38 w4 w.heap.size v1 (l ++ itemsL (p.take (k + 1))) by rw [HLK.out, ← List.append_assoc, ← HOe.out]; exact ho)
        clear ho hg
        go_wp2_with fail
        go_roundg (hs.length - (k + 1))
        case measure => omega
        case rel => exact ⟨k + 1, by omega, rfl, by go_num, HO4, HC4⟩
      · have HF := Lib.hid (show extE.Own 38 wr w.heap.size _ (l ++ itemsL p) by
          have := HO1.out
          rw [List.take_of_length_le (by have := HL.out; omega)] at this
          exact this)
        go_wp2_with fail
        go_ret
        exact ⟨_, rfl, HF.out, HC.out⟩
end Go.Proofs.Ytddcjekkimajpaa.ExtW

/- Contract of tree.Node's copied: it ends, and nothing that was there turns. -/
namespace Go.Proofs.Ytddcjekkimajpaa.ExtW
open Go.RowKit Go.Ov Go.Proofs.Ytddcjekkimajpaa.Need


set_option maxRecDepth 100000 in
set_option maxHeartbeats 2000000 in
theorem tcopied_any (n : NodeM) (h : NH) (w : World) (hr : NodeR w n h) (P : NodeM → Prop) (hP : ∀ l f p, P (.mk l f p) → l.length ≤ 1000000 ∧ f.length ≤ 1000000 ∧ p.length ≤ 1000000 ∧ ∀ x ∈ p, P x) (hn : P n) :
    Calls Try.prog 91 #[h.v] w fun e w' => ∃ h' : NH, e = .returned h'.v ∧ Bl w w' := by
  generalize hm : n.count = m
  induction m using Nat.strongRecOn generalizing n h w with
  | _ m ih =>
    have IH : ∀ (n : NodeM) (h : NH) (w : World), n.count < m → NodeR w n h → P n → Calls Try.prog 91 #[h.v] w fun e w' => ∃ h' : NH, e = .returned h'.v ∧ Bl w w' := fun n h w hn hr hp => ih n.count hn n h w hr hp rfl
    have HIH := Lib.hid IH
    obtain ⟨l, f, p⟩ := n
    rw [count_mk] at hm
    obtain ⟨b1, b2, b3, b4⟩ := hP l f p hn
    obtain ⟨h1, h2, hs, h3, h4⟩ := hr.inv
    have HX := Lib.hid h1
    have HY := Lib.hid h2
    obtain ⟨A1, c1, e1, _⟩ := h1
    obtain ⟨A2, c2, e2, _⟩ := h2
    obtain ⟨A3, c3, e3, q1, q2, q3, at3⟩ := h3
    have HA := Lib.hid at3
    have HR := Lib.hid h4
    have HM := Lib.hid hm
    have HL := Lib.hid h4.1
    have HPs := Lib.hid b4
    have hu := Try.underlying89
    have hsl : hs.length ≤ 1000000 := by have := h4.1; omega
    unfold NH.v
    rw [e1] at HX
    rw [e2] at HY
    rw [e1, e2, e3]
    have hll : l.length * 40 ≤ 140737488355328 := by omega
    clear ih IH hr h4 at3 hm e1 e2 e3 q3 q2 b4 hn
    go_enter Try.func91, Try.ntmps91
    go_wp2_with fail
    have W0 := Lib.hid (((Bl.refl w).alloc (.cells #[.slice A1 l.length c1, .slice A2 f.length c2, .slice A3 hs.length c3] 89)).alloc (.cells #[.slice none 0 0, .slice none 0 0, .slice none 0 0] 89))
    have hbx := (Blk.new w #[.slice A1 l.length c1, .slice A2 f.length c2, .slice A3 hs.length c3] 89).bl ((Bl.refl _).alloc (.cells #[.slice none 0 0, .slice none 0 0, .slice none 0 0] 89))
    have HRb := Lib.hid (Blk.new (w.alloc (.cells #[.slice A1 l.length c1, .slice A2 f.length c2, .slice A3 hs.length c3] 89)) #[.slice none 0 0, .slice none 0 0, .slice none 0 0] 89)
    have S0 := Lib.hid (hbx.cell 0)
    have S1 := Lib.hid (hbx.cell 1)
    have S2 := Lib.hid (hbx.cell 2)
    have HX1 := Lib.hid (HX.out.bl W0.out)
    have HY1 := Lib.hid (HY.out.bl W0.out)
    clear hbx HX HY
    have HX := HX1
    have HY := HY1
    clear HX1 HY1
    go_cut [3] (fun v3 wc => ∃ (B : Nat) (A4 : Option Addr) (c4 : Nat) (A5 : Option Addr) (c5 : Nat), v3 = .pointer (some ⟨B, 0, none⟩) ∧ ((w.alloc (.cells #[.slice A1 l.length c1, .slice A2 f.length c2, .slice A3 hs.length c3] 89)).alloc (.cells #[.slice none 0 0, .slice none 0 0, .slice none 0 0] 89)).heap.size ≤ B ∧
      Hid (Blk wc B #[.slice A4 l.length c4, .slice A5 f.length c5, .slice none 0 0] 89) ∧ Hid (Bl ((w.alloc (.cells #[.slice A1 l.length c1, .slice A2 f.length c2, .slice A3 hs.length c3] 89)).alloc (.cells #[.slice none 0 0, .slice none 0 0, .slice none 0 0] 89)) wc))
    case first =>
      have GB := Lib.hid ((Bl.refl ((w.alloc (.cells #[.slice A1 l.length c1, .slice A2 f.length c2, .slice A3 hs.length c3] 89)).alloc (.cells #[.slice none 0 0, .slice none 0 0, .slice none 0 0] 89))).drew)
      refine wp_region_ways (S := (fun w' => w'.cell? ⟨w.heap.size, 0, none⟩ = some (.slice A1 l.length c1) ∧ w'.cell? ⟨w.heap.size, 1, none⟩ = some (.slice A2 f.length c2))) [0, 1, 3, 4, 6] (y := .take 0 (.take 1 (.take 3 (.take 4 (.ev 2 (.ev 5 (.take 6 (.ev 7 (.ev 8 (.done) (.stop)) (.stop))) (.ev 7 (.ev 5 (.take 6 (.ev 8 (.done) (.stop))) (.stop)) (.stop))) (.ev 7 (.ev 2 (.ev 5 (.take 6 (.ev 8 (.done) (.stop))) (.stop)) (.stop)) (.stop))))))) (by kernel_rfl) (by kernel_rfl) (by kernel_rfl) ?_ (fun hHeld => ?_)
      · exact ⟨GB.out.cell S0.out, GB.out.cell S1.out⟩
      repeat (first | (refine wpWay_take rfl (by rfl) (by intro w hSw; (try dsimp only at hSw); first | (go_simp; done) | (go_simp; with_reducible rfl)) ?_; try simp only [Act.put, List.setIfInBounds_toArray, List.set_cons_zero, List.set_cons_succ]) | (refine wpWay_skip rfl (by rfl) ?_; try simp only [Act.put, List.setIfInBounds_toArray, List.set_cons_zero, List.set_cons_succ]))
      clear hHeld
      refine wpWay_ev rfl (fun K hK => ?_) ?_
      · go_wp2_with fail
        refine (tfresh_any _ _ _ (HX.out.bl GB.out) hll).mono ?_
        rintro e wa ⟨u1, rfl, ho, hb⟩
        obtain ⟨A4, c4, rfl⟩ := ho.slice
        replace GB := Lib.hid (GB.out.bl hb)
        try replace HK := Lib.hid (HK.out.bl hb)
        clear ho hb
        go_wp2_with fail
        refine ⟨⟨GB.out.cell S0.out, GB.out.cell S1.out⟩, ?_⟩
        repeat (first | (refine wpWay_take rfl (by rfl) (by intro w hSw; (try dsimp only at hSw); first | (go_simp; done) | (go_simp; with_reducible rfl)) ?_; try simp only [Act.put, List.setIfInBounds_toArray, List.set_cons_zero, List.set_cons_succ]) | (refine wpWay_skip rfl (by rfl) ?_; try simp only [Act.put, List.setIfInBounds_toArray, List.set_cons_zero, List.set_cons_succ]))
        refine wpWay_ev rfl (fun K hK => ?_) ?_
        · go_wp2_with (at_builtin; refine Enc.Own.append (E := intE) rfl (.const (.slice none 0 0)) (.tmp 10) 22 rfl w.heap.size 3 (.int .i64 0) 1 8 Try.underlying22 infoIntT rfl rfl (by decide) (by decide) (.slice none 0 0) [] rfl (Enc.Own.nil _ _ _) _ _ rfl (HY.out.bl GB.out) ?hlen ?hbase ?_; (case hlen => simp; omega); (case hbase => exact Nat.le_trans W0.out.size GB.out.size); intro v5 wb ho hg)
          have hb := (Bl.refl _).grown hg (fun k hk => by simp [Value.ownBlock] at hk)
          obtain ⟨A5, c5, rfl⟩ := ho.slice
          simp only [List.nil_append] at *
          replace GB := Lib.hid (GB.out.bl hb)
          try replace HK := Lib.hid (HK.out.bl hb)
          clear ho hb hg
          refine ⟨⟨GB.out.cell S0.out, GB.out.cell S1.out⟩, ?_⟩
          repeat (first | (refine wpWay_take rfl (by rfl) (by intro w hSw; (try dsimp only at hSw); first | (go_simp; done) | (go_simp; with_reducible rfl)) ?_; try simp only [Act.put, List.setIfInBounds_toArray, List.set_cons_zero, List.set_cons_succ]) | (refine wpWay_skip rfl (by rfl) ?_; try simp only [Act.put, List.setIfInBounds_toArray, List.set_cons_zero, List.set_cons_succ]))
          refine wpWay_ev rfl (fun K hK => ?_) wpWay_stop
          have hX : ∀ X, Bl ((w.alloc (.cells #[.slice A1 l.length c1, .slice A2 f.length c2, .slice A3 hs.length c3] 89)).alloc (.cells #[.slice none 0 0, .slice none 0 0, .slice none 0 0] 89)) X → Blk (X.alloc (.cells #[.slice none 0 0, .slice none 0 0, .slice none 0 0] 89)) X.heap.size #[.slice none 0 0, .slice none 0 0, .slice none 0 0] 89 := fun X _ => Blk.new X _ _
          have HK := Lib.hid (hX _ GB.out)
          have hsz := GB.out.size
          have GB0 := Lib.hid GB.out
          replace GB := Lib.hid (GB.out.alloc (.cells #[.slice none 0 0, .slice none 0 0, .slice none 0 0] 89))
          clear hX
          go_wp2_with fail
          refine ⟨⟨GB.out.cell S0.out, GB.out.cell S1.out⟩, ?_⟩
          repeat (first | (refine wpWay_take rfl (by rfl) (by intro w hSw; (try dsimp only at hSw); first | (go_simp; done) | (go_simp; with_reducible rfl)) ?_; try simp only [Act.put, List.setIfInBounds_toArray, List.set_cons_zero, List.set_cons_succ]) | (refine wpWay_skip rfl (by rfl) ?_; try simp only [Act.put, List.setIfInBounds_toArray, List.set_cons_zero, List.set_cons_succ]))
          have f0 := HK.out.frozen 0
          have f1 := HK.out.frozen 1
          have f2 := HK.out.frozen 2
          have g0 := HK.out.cell 0
          have g1 := HK.out.cell 1
          have g2 := HK.out.cell 2
          have l1 := HK.out.lt
          simp at g0 g1 g2
          refine wpWay_ev rfl (fun K hK => ?_) wpWay_stop
          go_wp2_with fail
          clear f0 f1 f2 g0 g1 g2
          have hk2 := Blk.new wb #[.slice A4 l.length c4, .slice A5 f.length c5, .slice none 0 0] 89
          have hb2 := GB0.out.alloc (.cells #[.slice A4 l.length c4, .slice A5 f.length c5, .slice none 0 0] 89)
          refine ⟨⟨hb2.cell S0.out, hb2.cell S1.out⟩, ?_⟩
          refine wpWay_done ?_
          go_wp2_with fail
          go_meet
          exact ⟨_, _, _, _, _, rfl, hsz, Lib.hid hk2, Lib.hid hb2⟩
        · refine wpWay_ev rfl (fun K hK => ?_) wpWay_stop
          have hX : ∀ X, Bl ((w.alloc (.cells #[.slice A1 l.length c1, .slice A2 f.length c2, .slice A3 hs.length c3] 89)).alloc (.cells #[.slice none 0 0, .slice none 0 0, .slice none 0 0] 89)) X → Blk (X.alloc (.cells #[.slice none 0 0, .slice none 0 0, .slice none 0 0] 89)) X.heap.size #[.slice none 0 0, .slice none 0 0, .slice none 0 0] 89 := fun X _ => Blk.new X _ _
          have HK := Lib.hid (hX _ GB.out)
          have hsz := GB.out.size
          have GB0 := Lib.hid GB.out
          replace GB := Lib.hid (GB.out.alloc (.cells #[.slice none 0 0, .slice none 0 0, .slice none 0 0] 89))
          clear hX
          go_wp2_with fail
          refine ⟨⟨GB.out.cell S0.out, GB.out.cell S1.out⟩, ?_⟩
          repeat (first | (refine wpWay_take rfl (by rfl) (by intro w hSw; (try dsimp only at hSw); first | (go_simp; done) | (go_simp; with_reducible rfl)) ?_; try simp only [Act.put, List.setIfInBounds_toArray, List.set_cons_zero, List.set_cons_succ]) | (refine wpWay_skip rfl (by rfl) ?_; try simp only [Act.put, List.setIfInBounds_toArray, List.set_cons_zero, List.set_cons_succ]))
          refine wpWay_ev rfl (fun K hK => ?_) wpWay_stop
          go_wp2_with (at_builtin; refine Enc.Own.append (E := intE) rfl (.const (.slice none 0 0)) (.tmp 10) 22 rfl w.heap.size 3 (.int .i64 0) 1 8 Try.underlying22 infoIntT rfl rfl (by decide) (by decide) (.slice none 0 0) [] rfl (Enc.Own.nil _ _ _) _ _ rfl (HY.out.bl GB.out) ?hlen ?hbase ?_; (case hlen => simp; omega); (case hbase => exact Nat.le_trans W0.out.size GB.out.size); intro v5 wb ho hg)
          have hb := (Bl.refl _).grown hg (fun k hk => by simp [Value.ownBlock] at hk)
          obtain ⟨A5, c5, rfl⟩ := ho.slice
          simp only [List.nil_append] at *
          replace GB := Lib.hid (GB.out.bl hb)
          try replace HK := Lib.hid (HK.out.bl hb)
          clear ho hb hg
          refine ⟨⟨GB.out.cell S0.out, GB.out.cell S1.out⟩, ?_⟩
          repeat (first | (refine wpWay_take rfl (by rfl) (by intro w hSw; (try dsimp only at hSw); first | (go_simp; done) | (go_simp; with_reducible rfl)) ?_; try simp only [Act.put, List.setIfInBounds_toArray, List.set_cons_zero, List.set_cons_succ]) | (refine wpWay_skip rfl (by rfl) ?_; try simp only [Act.put, List.setIfInBounds_toArray, List.set_cons_zero, List.set_cons_succ]))
          have f0 := HK.out.frozen 0
          have f1 := HK.out.frozen 1
          have f2 := HK.out.frozen 2
          have g0 := HK.out.cell 0
          have g1 := HK.out.cell 1
          have g2 := HK.out.cell 2
          have l1 := HK.out.lt
          simp at g0 g1 g2
          refine wpWay_ev rfl (fun K hK => ?_) wpWay_stop
          go_wp2_with fail
          clear f0 f1 f2 g0 g1 g2
          have hk2 := ((HK.out.set 0 (.slice A4 l.length c4)).set 1 (.slice A5 f.length c5)).set 2 (.slice none 0 0)
          have hb2 := Bl.set (Bl.set (Bl.set GB.out _ 0 (.slice A4 l.length c4) hsz) _ 1 (.slice A5 f.length c5) hsz) _ 2 (.slice none 0 0) hsz
          refine ⟨⟨hb2.cell S0.out, hb2.cell S1.out⟩, ?_⟩
          refine wpWay_done ?_
          go_wp2_with fail
          go_meet
          exact ⟨_, _, _, _, _, rfl, hsz, Lib.hid hk2, Lib.hid hb2⟩
      · refine wpWay_ev rfl (fun K hK => ?_) wpWay_stop
        have hX : ∀ X, Bl ((w.alloc (.cells #[.slice A1 l.length c1, .slice A2 f.length c2, .slice A3 hs.length c3] 89)).alloc (.cells #[.slice none 0 0, .slice none 0 0, .slice none 0 0] 89)) X → Blk (X.alloc (.cells #[.slice none 0 0, .slice none 0 0, .slice none 0 0] 89)) X.heap.size #[.slice none 0 0, .slice none 0 0, .slice none 0 0] 89 := fun X _ => Blk.new X _ _
        have HK := Lib.hid (hX _ GB.out)
        have hsz := GB.out.size
        have GB0 := Lib.hid GB.out
        replace GB := Lib.hid (GB.out.alloc (.cells #[.slice none 0 0, .slice none 0 0, .slice none 0 0] 89))
        clear hX
        go_wp2_with fail
        refine ⟨⟨GB.out.cell S0.out, GB.out.cell S1.out⟩, ?_⟩
        repeat (first | (refine wpWay_take rfl (by rfl) (by intro w hSw; (try dsimp only at hSw); first | (go_simp; done) | (go_simp; with_reducible rfl)) ?_; try simp only [Act.put, List.setIfInBounds_toArray, List.set_cons_zero, List.set_cons_succ]) | (refine wpWay_skip rfl (by rfl) ?_; try simp only [Act.put, List.setIfInBounds_toArray, List.set_cons_zero, List.set_cons_succ]))
        have hBe : ((((w.alloc (.cells #[.slice A1 l.length c1, .slice A2 f.length c2, .slice A3 hs.length c3] 89)).alloc (.cells #[.slice none 0 0, .slice none 0 0, .slice none 0 0] 89)).drew)).heap.size = w.heap.size + 1 + 1 := by simp
        rw [hBe] at HK hsz
        clear hBe
        refine wpWay_ev rfl (fun K hK => ?_) wpWay_stop
        go_wp2_with fail
        refine (tfresh_any _ _ _ (HX.out.bl GB.out) hll).mono ?_
        rintro e wa ⟨u1, rfl, ho, hb⟩
        obtain ⟨A4, c4, rfl⟩ := ho.slice
        replace GB := Lib.hid (GB.out.bl hb)
        try replace HK := Lib.hid (HK.out.bl hb)
        clear ho hb
        go_wp2_with fail
        refine ⟨⟨GB.out.cell S0.out, GB.out.cell S1.out⟩, ?_⟩
        repeat (first | (refine wpWay_take rfl (by rfl) (by intro w hSw; (try dsimp only at hSw); first | (go_simp; done) | (go_simp; with_reducible rfl)) ?_; try simp only [Act.put, List.setIfInBounds_toArray, List.set_cons_zero, List.set_cons_succ]) | (refine wpWay_skip rfl (by rfl) ?_; try simp only [Act.put, List.setIfInBounds_toArray, List.set_cons_zero, List.set_cons_succ]))
        refine wpWay_ev rfl (fun K hK => ?_) wpWay_stop
        go_wp2_with (at_builtin; refine Enc.Own.append (E := intE) rfl (.const (.slice none 0 0)) (.tmp 10) 22 rfl w.heap.size 3 (.int .i64 0) 1 8 Try.underlying22 infoIntT rfl rfl (by decide) (by decide) (.slice none 0 0) [] rfl (Enc.Own.nil _ _ _) _ _ rfl (HY.out.bl GB.out) ?hlen ?hbase ?_; (case hlen => simp; omega); (case hbase => exact Nat.le_trans W0.out.size GB.out.size); intro v5 wb ho hg)
        have hb := (Bl.refl _).grown hg (fun k hk => by simp [Value.ownBlock] at hk)
        obtain ⟨A5, c5, rfl⟩ := ho.slice
        simp only [List.nil_append] at *
        replace GB := Lib.hid (GB.out.bl hb)
        try replace HK := Lib.hid (HK.out.bl hb)
        clear ho hb hg
        refine ⟨⟨GB.out.cell S0.out, GB.out.cell S1.out⟩, ?_⟩
        repeat (first | (refine wpWay_take rfl (by rfl) (by intro w hSw; (try dsimp only at hSw); first | (go_simp; done) | (go_simp; with_reducible rfl)) ?_; try simp only [Act.put, List.setIfInBounds_toArray, List.set_cons_zero, List.set_cons_succ]) | (refine wpWay_skip rfl (by rfl) ?_; try simp only [Act.put, List.setIfInBounds_toArray, List.set_cons_zero, List.set_cons_succ]))
        have f0 := HK.out.frozen 0
        have f1 := HK.out.frozen 1
        have f2 := HK.out.frozen 2
        have g0 := HK.out.cell 0
        have g1 := HK.out.cell 1
        have g2 := HK.out.cell 2
        have l1 := HK.out.lt
        simp at g0 g1 g2
        refine wpWay_ev rfl (fun K hK => ?_) wpWay_stop
        go_wp2_with fail
        clear f0 f1 f2 g0 g1 g2
        have hk2 := ((HK.out.set 0 (.slice A4 l.length c4)).set 1 (.slice A5 f.length c5)).set 2 (.slice none 0 0)
        have hb2 := Bl.set (Bl.set (Bl.set GB.out _ 0 (.slice A4 l.length c4) hsz) _ 1 (.slice A5 f.length c5) hsz) _ 2 (.slice none 0 0) hsz
        refine ⟨⟨hb2.cell S0.out, hb2.cell S1.out⟩, ?_⟩
        refine wpWay_done ?_
        go_wp2_with fail
        go_meet
        exact ⟨_, _, _, _, _, rfl, hsz, Lib.hid hk2, Lib.hid hb2⟩
    case rest =>
    obtain ⟨B, A4, c4, A5, c5, rfl, hBs, HK, HW⟩ := hcut
    have z2 := HW.out.cell S2.out
    simp at z2
    go_wp2_with fail
    clear z2
    go_loopg [16] hs.length (fun g i wr => ∃ (k : Nat) (us : List NH) (v : Value), k ≤ hs.length ∧ g = hs.length - k ∧ i = .int .i64 k ∧ us.length = k ∧ Hid (Blk wr B #[.slice A4 l.length c4, .slice A5 f.length c5, v] 89) ∧ Hid (nodeE.Own 89 wr (B + 1) v us) ∧
      Hid (Bl ((w.alloc (.cells #[.slice A1 l.length c1, .slice A2 f.length c2, .slice A3 hs.length c3] 89)).alloc (.cells #[.slice none 0 0, .slice none 0 0, .slice none 0 0] 89)) wr))
    case atStart => exact ⟨0, [], .slice none 0 0, by omega, rfl, rfl, rfl, HK, Lib.hid (Enc.Own.nil _ _ _), HW⟩
    case round =>
      clear HK HW
      obtain ⟨k, us, v, hk, rfl, rfl, hus, HKr, HO0, HW⟩ := hrel
      have HUS := Lib.hid hus
      by_cases hlt : k < hs.length
      · have hkp : k < p.length := by have := HL.out; omega
        obtain ⟨_, hn⟩ := HR.out.at k hkp
        obtain ⟨ad, rfl, k0, k1, k2⟩ := node_at (HA.out.bl (W0.out.bl HW.out)) k hlt
        have HN := Lib.hid (hn.bl (W0.out.bl HW.out))
        have HPx := Lib.hid (HPs.out p[k] (List.getElem_mem hkp))
        have hcm := count_mem p k hkp
        have hm := HM.out
        generalize hs[k] = h1 at *
        generalize p[k] = x1 at *
        simp only [Head.v] at k0 k1 k2
        have hxm : x1.count < m := by omega
        obtain ⟨A7, c7, rfl⟩ := HO0.out.slice
        have husl : us.length ≤ 1000000 := by omega
        clear hn hm hcm hus
        go_wp2_with fail
        have GB := Lib.hid (((Bl.refl wr).alloc (.cells #[.slice h1.a.A h1.a.n h1.a.cap, .slice h1.b.A h1.b.n h1.b.cap, .slice h1.c.A h1.c.n h1.c.cap] 89)).drew)
        have HK := Lib.hid (HKr.out.bl GB.out)
        have HO := Lib.hid (HO0.out.bl GB.out)
        refine wp_region_ways (S := (fun w' => w'.cell? ⟨wr.heap.size, 0, none⟩ = some (.slice h1.a.A h1.a.n h1.a.cap) ∧ w'.cell? ⟨wr.heap.size, 1, none⟩ = some (.slice h1.b.A h1.b.n h1.b.cap) ∧ w'.cell? ⟨wr.heap.size, 2, none⟩ = some (.slice h1.c.A h1.c.n h1.c.cap))) [0, 2, 6] (y := .take 0 (.take 2 (.ev 1 (.ev 3 (.ev 4 (.ev 5 (.take 6 (.ev 7 (.done) (.stop))) (.stop)) (.stop)) (.stop)) (.ev 3 (.ev 1 (.ev 4 (.ev 5 (.take 6 (.ev 7 (.done) (.stop))) (.stop)) (.stop)) (.ev 4 (.ev 1 (.ev 5 (.take 6 (.ev 7 (.done) (.stop))) (.stop)) (.stop)) (.stop))) (.stop))))) (by kernel_rfl) (by kernel_rfl) (by kernel_rfl) ?_ (fun hHeld => ?_)
        · have hb := ((Blk.new wr #[.slice h1.a.A h1.a.n h1.a.cap, .slice h1.b.A h1.b.n h1.b.cap, .slice h1.c.A h1.c.n h1.c.cap] 89).bl (Bl.refl _).drew).cell
          exact ⟨hb 0, hb 1, hb 2⟩
        have GS := Lib.hid hHeld
        repeat (first | (refine wpWay_take rfl (by rfl) (by intro w hSw; (try dsimp only at hSw); first | (go_simp; done) | (go_simp; with_reducible rfl)) ?_; try simp only [Act.put, List.setIfInBounds_toArray, List.set_cons_zero, List.set_cons_succ]) | (refine wpWay_skip rfl (by rfl) ?_; try simp only [Act.put, List.setIfInBounds_toArray, List.set_cons_zero, List.set_cons_succ]))
        clear hHeld k0 k1 k2
        refine wpWay_ev rfl (fun K hK => ?_) ?_
        · have c2 := HK.out.cell 2
          simp at c2
          go_wp2_with fail
          clear c2
          refine ⟨GS.out, ?_⟩
          repeat (first | (refine wpWay_take rfl (by rfl) (by intro w hSw; (try dsimp only at hSw); first | (go_simp; done) | (go_simp; with_reducible rfl)) ?_; try simp only [Act.put, List.setIfInBounds_toArray, List.set_cons_zero, List.set_cons_succ]) | (refine wpWay_skip rfl (by rfl) ?_; try simp only [Act.put, List.setIfInBounds_toArray, List.set_cons_zero, List.set_cons_succ]))
          refine wpWay_ev rfl (fun K hK => ?_) wpWay_stop
          go_wp2_with fail
          refine (HIH.out x1 h1 _ hxm (HN.out.bl GB.out) HPx.out).mono ?_
          rintro e wa ⟨h2, rfl, hb⟩
          replace GB := Lib.hid (GB.out.bl hb)
          replace HK := Lib.hid (HK.out.bl hb)
          replace HO := Lib.hid (HO.out.bl hb)
          replace GS := Lib.hid (And.intro (hb.cell GS.out.1) (And.intro (hb.cell GS.out.2.1) (hb.cell GS.out.2.2)))
          clear hb
          obtain ⟨⟨hA1, hn1, hc1⟩, ⟨hA2, hn2, hc2⟩, ⟨hA3, hn3, hc3⟩⟩ := h2
          simp only [NH.v, Head.v]
          go_wp2_with fail
          refine ⟨GS.out, ?_⟩
          repeat (first | (refine wpWay_take rfl (by rfl) (by intro w hSw; (try dsimp only at hSw); first | (go_simp; done) | (go_simp; with_reducible rfl)) ?_; try simp only [Act.put, List.setIfInBounds_toArray, List.set_cons_zero, List.set_cons_succ]) | (refine wpWay_skip rfl (by rfl) ?_; try simp only [Act.put, List.setIfInBounds_toArray, List.set_cons_zero, List.set_cons_succ]))
          refine wpWay_ev rfl (fun K hK => ?_) wpWay_stop
          go_wp2_with fail
          have hb4 := Bl.alloc (Bl.refl wa) (.cells #[.slice hA1 hn1 hc1, .slice hA2 hn2 hc2, .slice hA3 hn3 hc3] 89)
          have GS2 := Lib.hid (And.intro (hb4.cell GS.out.1) (And.intro (hb4.cell GS.out.2.1) (hb4.cell GS.out.2.2)))
          have HK2 := Lib.hid (HK.out.bl hb4)
          clear hb4
          refine ⟨GS2.out, ?_⟩
          repeat (first | (refine wpWay_take rfl (by rfl) (by intro w hSw; (try dsimp only at hSw); first | (go_simp; done) | (go_simp; with_reducible rfl)) ?_; try simp only [Act.put, List.setIfInBounds_toArray, List.set_cons_zero, List.set_cons_succ]) | (refine wpWay_skip rfl (by rfl) ?_; try simp only [Act.put, List.setIfInBounds_toArray, List.set_cons_zero, List.set_cons_succ]))
          refine wpWay_ev rfl (fun K hK => ?_) wpWay_stop
          go_wp2_with (at_builtin; refine Enc.Own.append1 (E := nodeE) rfl (.tmp 21) (.tmp 24) 87 rfl (B + 1) 89 (.agg #[.slice none 0 0, .slice none 0 0, .slice none 0 0]) 3 72 Try.underlying87 infoNode rfl rfl (by decide) (by decide) (.slice A7 us.length c7) us rfl HO.out ⟨⟨hA1, hn1, hc1⟩, ⟨hA2, hn2, hc2⟩, ⟨hA3, hn3, hc3⟩⟩ _ rfl rfl rfl ?hlen ?hbase ?_; (case hlen => omega); (case hbase => exact HK.out.lt); intro v5 w4 ho hg)
          have hne1 : some B ≠ (Value.slice A7 us.length c7).ownBlock := fun he => by
            have := (Enc.Own.lt HO.out _ he.symm).1; omega
          have hne2 : some wr.heap.size ≠ (Value.slice A7 us.length c7).ownBlock := fun he => by
            have := (Enc.Own.lt HO0.out _ he.symm).2; omega
          have GS4 := Lib.hid (And.intro (World.grownBy.cell hg GS2.out.1 hne2) (And.intro (World.grownBy.cell hg GS2.out.2.1 hne2) (World.grownBy.cell hg GS2.out.2.2 hne2)))
          refine ⟨GS4.out, ?_⟩
          have HK4 := Lib.hid (HK2.out.grown hg (fun h => hne1 h.symm))
          have HB5 := Lib.hid (((HW.out.bl GB.out).alloc _).grown hg (fun k hk => by have := (Enc.Own.lt HO.out k hk).1; omega))
          obtain ⟨A10, c10, rfl⟩ := ho.slice
          simp only [List.length_append, List.length_singleton] at ho
          have HO5 := Lib.hid ho
          clear hne1 hne2 hg ho
          repeat (first | (refine wpWay_take rfl (by rfl) (by intro w hSw; (try dsimp only at hSw); first | (go_simp; done) | (go_simp; with_reducible rfl)) ?_; try simp only [Act.put, List.setIfInBounds_toArray, List.set_cons_zero, List.set_cons_succ]) | (refine wpWay_skip rfl (by rfl) ?_; try simp only [Act.put, List.setIfInBounds_toArray, List.set_cons_zero, List.set_cons_succ]))
          have e0 := HK4.out.cell 2
          simp at e0
          have e1 := HK4.out.frozen 2
          have e2 := HK4.out.lt
          refine wpWay_ev rfl (fun K hK => ?_) wpWay_stop
          go_wp2_with fail
          have hnw : B ≠ wr.heap.size := by have := HKr.out.lt; omega
          refine ⟨⟨?_, ?_, ?_⟩, ?_⟩
          · rw [World.cell?_setCell_other _ _ _ _ (fun h => hnw (congrArg Addr.block h))]; exact GS4.out.1
          · rw [World.cell?_setCell_other _ _ _ _ (fun h => hnw (congrArg Addr.block h))]; exact GS4.out.2.1
          · rw [World.cell?_setCell_other _ _ _ _ (fun h => hnw (congrArg Addr.block h))]; exact GS4.out.2.2
          refine wpWay_done ?_
          clear e0 e1 e2
          go_wp2_with fail
          go_roundg (hs.length - (k + 1))
          case measure => omega
          case rel =>
            refine ⟨k + 1, us ++ [⟨⟨hA1, hn1, hc1⟩, ⟨hA2, hn2, hc2⟩, ⟨hA3, hn3, hc3⟩⟩], .slice A10 (us.length + 1) c10, by omega, rfl, by go_num, by have := HUS.out; simp; omega, Lib.hid (HK4.out.set 2 _), Lib.hid ?_, Lib.hid (Bl.set HB5.out _ _ _ hBs)⟩
            exact Enc.Own.set HO5.out B 2 (.slice A10 (us.length + 1) c10) (Nat.lt_succ_self _)
        · refine wpWay_ev rfl (fun K hK => ?_) wpWay_stop
          go_wp2_with fail
          refine (HIH.out x1 h1 _ hxm (HN.out.bl GB.out) HPx.out).mono ?_
          rintro e wa ⟨h2, rfl, hb⟩
          replace GB := Lib.hid (GB.out.bl hb)
          replace HK := Lib.hid (HK.out.bl hb)
          replace HO := Lib.hid (HO.out.bl hb)
          replace GS := Lib.hid (And.intro (hb.cell GS.out.1) (And.intro (hb.cell GS.out.2.1) (hb.cell GS.out.2.2)))
          clear hb
          obtain ⟨⟨hA1, hn1, hc1⟩, ⟨hA2, hn2, hc2⟩, ⟨hA3, hn3, hc3⟩⟩ := h2
          simp only [NH.v, Head.v]
          go_wp2_with fail
          refine ⟨GS.out, ?_⟩
          repeat (first | (refine wpWay_take rfl (by rfl) (by intro w hSw; (try dsimp only at hSw); first | (go_simp; done) | (go_simp; with_reducible rfl)) ?_; try simp only [Act.put, List.setIfInBounds_toArray, List.set_cons_zero, List.set_cons_succ]) | (refine wpWay_skip rfl (by rfl) ?_; try simp only [Act.put, List.setIfInBounds_toArray, List.set_cons_zero, List.set_cons_succ]))
          refine wpWay_ev rfl (fun K hK => ?_) ?_
          · have c2 := HK.out.cell 2
            simp at c2
            go_wp2_with fail
            clear c2
            refine ⟨GS.out, ?_⟩
            repeat (first | (refine wpWay_take rfl (by rfl) (by intro w hSw; (try dsimp only at hSw); first | (go_simp; done) | (go_simp; with_reducible rfl)) ?_; try simp only [Act.put, List.setIfInBounds_toArray, List.set_cons_zero, List.set_cons_succ]) | (refine wpWay_skip rfl (by rfl) ?_; try simp only [Act.put, List.setIfInBounds_toArray, List.set_cons_zero, List.set_cons_succ]))
            refine wpWay_ev rfl (fun K hK => ?_) wpWay_stop
            go_wp2_with fail
            have hb4 := Bl.alloc (Bl.refl wa) (.cells #[.slice hA1 hn1 hc1, .slice hA2 hn2 hc2, .slice hA3 hn3 hc3] 89)
            have GS2 := Lib.hid (And.intro (hb4.cell GS.out.1) (And.intro (hb4.cell GS.out.2.1) (hb4.cell GS.out.2.2)))
            have HK2 := Lib.hid (HK.out.bl hb4)
            clear hb4
            refine ⟨GS2.out, ?_⟩
            repeat (first | (refine wpWay_take rfl (by rfl) (by intro w hSw; (try dsimp only at hSw); first | (go_simp; done) | (go_simp; with_reducible rfl)) ?_; try simp only [Act.put, List.setIfInBounds_toArray, List.set_cons_zero, List.set_cons_succ]) | (refine wpWay_skip rfl (by rfl) ?_; try simp only [Act.put, List.setIfInBounds_toArray, List.set_cons_zero, List.set_cons_succ]))
            refine wpWay_ev rfl (fun K hK => ?_) wpWay_stop
            go_wp2_with (at_builtin; refine Enc.Own.append1 (E := nodeE) rfl (.tmp 21) (.tmp 24) 87 rfl (B + 1) 89 (.agg #[.slice none 0 0, .slice none 0 0, .slice none 0 0]) 3 72 Try.underlying87 infoNode rfl rfl (by decide) (by decide) (.slice A7 us.length c7) us rfl HO.out ⟨⟨hA1, hn1, hc1⟩, ⟨hA2, hn2, hc2⟩, ⟨hA3, hn3, hc3⟩⟩ _ rfl rfl rfl ?hlen ?hbase ?_; (case hlen => omega); (case hbase => exact HK.out.lt); intro v5 w4 ho hg)
            have hne1 : some B ≠ (Value.slice A7 us.length c7).ownBlock := fun he => by
              have := (Enc.Own.lt HO.out _ he.symm).1; omega
            have hne2 : some wr.heap.size ≠ (Value.slice A7 us.length c7).ownBlock := fun he => by
              have := (Enc.Own.lt HO0.out _ he.symm).2; omega
            have GS4 := Lib.hid (And.intro (World.grownBy.cell hg GS2.out.1 hne2) (And.intro (World.grownBy.cell hg GS2.out.2.1 hne2) (World.grownBy.cell hg GS2.out.2.2 hne2)))
            refine ⟨GS4.out, ?_⟩
            have HK4 := Lib.hid (HK2.out.grown hg (fun h => hne1 h.symm))
            have HB5 := Lib.hid (((HW.out.bl GB.out).alloc _).grown hg (fun k hk => by have := (Enc.Own.lt HO.out k hk).1; omega))
            obtain ⟨A10, c10, rfl⟩ := ho.slice
            simp only [List.length_append, List.length_singleton] at ho
            have HO5 := Lib.hid ho
            clear hne1 hne2 hg ho
            repeat (first | (refine wpWay_take rfl (by rfl) (by intro w hSw; (try dsimp only at hSw); first | (go_simp; done) | (go_simp; with_reducible rfl)) ?_; try simp only [Act.put, List.setIfInBounds_toArray, List.set_cons_zero, List.set_cons_succ]) | (refine wpWay_skip rfl (by rfl) ?_; try simp only [Act.put, List.setIfInBounds_toArray, List.set_cons_zero, List.set_cons_succ]))
            have e0 := HK4.out.cell 2
            simp at e0
            have e1 := HK4.out.frozen 2
            have e2 := HK4.out.lt
            refine wpWay_ev rfl (fun K hK => ?_) wpWay_stop
            go_wp2_with fail
            have hnw : B ≠ wr.heap.size := by have := HKr.out.lt; omega
            refine ⟨⟨?_, ?_, ?_⟩, ?_⟩
            · rw [World.cell?_setCell_other _ _ _ _ (fun h => hnw (congrArg Addr.block h))]; exact GS4.out.1
            · rw [World.cell?_setCell_other _ _ _ _ (fun h => hnw (congrArg Addr.block h))]; exact GS4.out.2.1
            · rw [World.cell?_setCell_other _ _ _ _ (fun h => hnw (congrArg Addr.block h))]; exact GS4.out.2.2
            refine wpWay_done ?_
            clear e0 e1 e2
            go_wp2_with fail
            go_roundg (hs.length - (k + 1))
            case measure => omega
            case rel =>
              refine ⟨k + 1, us ++ [⟨⟨hA1, hn1, hc1⟩, ⟨hA2, hn2, hc2⟩, ⟨hA3, hn3, hc3⟩⟩], .slice A10 (us.length + 1) c10, by omega, rfl, by go_num, by have := HUS.out; simp; omega, Lib.hid (HK4.out.set 2 _), Lib.hid ?_, Lib.hid (Bl.set HB5.out _ _ _ hBs)⟩
              exact Enc.Own.set HO5.out B 2 (.slice A10 (us.length + 1) c10) (Nat.lt_succ_self _)
          · refine wpWay_ev rfl (fun K hK => ?_) wpWay_stop
            go_wp2_with fail
            have hb4 := Bl.alloc (Bl.refl wa) (.cells #[.slice hA1 hn1 hc1, .slice hA2 hn2 hc2, .slice hA3 hn3 hc3] 89)
            have GS2 := Lib.hid (And.intro (hb4.cell GS.out.1) (And.intro (hb4.cell GS.out.2.1) (hb4.cell GS.out.2.2)))
            have HK2 := Lib.hid (HK.out.bl hb4)
            clear hb4
            refine ⟨GS2.out, ?_⟩
            repeat (first | (refine wpWay_take rfl (by rfl) (by intro w hSw; (try dsimp only at hSw); first | (go_simp; done) | (go_simp; with_reducible rfl)) ?_; try simp only [Act.put, List.setIfInBounds_toArray, List.set_cons_zero, List.set_cons_succ]) | (refine wpWay_skip rfl (by rfl) ?_; try simp only [Act.put, List.setIfInBounds_toArray, List.set_cons_zero, List.set_cons_succ]))
            refine wpWay_ev rfl (fun K hK => ?_) wpWay_stop
            have c2 := HK2.out.cell 2
            simp at c2
            go_wp2_with fail
            clear c2
            refine ⟨GS2.out, ?_⟩
            repeat (first | (refine wpWay_take rfl (by rfl) (by intro w hSw; (try dsimp only at hSw); first | (go_simp; done) | (go_simp; with_reducible rfl)) ?_; try simp only [Act.put, List.setIfInBounds_toArray, List.set_cons_zero, List.set_cons_succ]) | (refine wpWay_skip rfl (by rfl) ?_; try simp only [Act.put, List.setIfInBounds_toArray, List.set_cons_zero, List.set_cons_succ]))
            refine wpWay_ev rfl (fun K hK => ?_) wpWay_stop
            go_wp2_with (at_builtin; refine Enc.Own.append1 (E := nodeE) rfl (.tmp 21) (.tmp 24) 87 rfl (B + 1) 89 (.agg #[.slice none 0 0, .slice none 0 0, .slice none 0 0]) 3 72 Try.underlying87 infoNode rfl rfl (by decide) (by decide) (.slice A7 us.length c7) us rfl HO.out ⟨⟨hA1, hn1, hc1⟩, ⟨hA2, hn2, hc2⟩, ⟨hA3, hn3, hc3⟩⟩ _ rfl rfl rfl ?hlen ?hbase ?_; (case hlen => omega); (case hbase => exact HK.out.lt); intro v5 w4 ho hg)
            have hne1 : some B ≠ (Value.slice A7 us.length c7).ownBlock := fun he => by
              have := (Enc.Own.lt HO.out _ he.symm).1; omega
            have hne2 : some wr.heap.size ≠ (Value.slice A7 us.length c7).ownBlock := fun he => by
              have := (Enc.Own.lt HO0.out _ he.symm).2; omega
            have GS4 := Lib.hid (And.intro (World.grownBy.cell hg GS2.out.1 hne2) (And.intro (World.grownBy.cell hg GS2.out.2.1 hne2) (World.grownBy.cell hg GS2.out.2.2 hne2)))
            refine ⟨GS4.out, ?_⟩
            have HK4 := Lib.hid (HK2.out.grown hg (fun h => hne1 h.symm))
            have HB5 := Lib.hid (((HW.out.bl GB.out).alloc _).grown hg (fun k hk => by have := (Enc.Own.lt HO.out k hk).1; omega))
            obtain ⟨A10, c10, rfl⟩ := ho.slice
            simp only [List.length_append, List.length_singleton] at ho
            have HO5 := Lib.hid ho
            clear hne1 hne2 hg ho
            repeat (first | (refine wpWay_take rfl (by rfl) (by intro w hSw; (try dsimp only at hSw); first | (go_simp; done) | (go_simp; with_reducible rfl)) ?_; try simp only [Act.put, List.setIfInBounds_toArray, List.set_cons_zero, List.set_cons_succ]) | (refine wpWay_skip rfl (by rfl) ?_; try simp only [Act.put, List.setIfInBounds_toArray, List.set_cons_zero, List.set_cons_succ]))
            have e0 := HK4.out.cell 2
            simp at e0
            have e1 := HK4.out.frozen 2
            have e2 := HK4.out.lt
            refine wpWay_ev rfl (fun K hK => ?_) wpWay_stop
            go_wp2_with fail
            have hnw : B ≠ wr.heap.size := by have := HKr.out.lt; omega
            refine ⟨⟨?_, ?_, ?_⟩, ?_⟩
            · rw [World.cell?_setCell_other _ _ _ _ (fun h => hnw (congrArg Addr.block h))]; exact GS4.out.1
            · rw [World.cell?_setCell_other _ _ _ _ (fun h => hnw (congrArg Addr.block h))]; exact GS4.out.2.1
            · rw [World.cell?_setCell_other _ _ _ _ (fun h => hnw (congrArg Addr.block h))]; exact GS4.out.2.2
            refine wpWay_done ?_
            clear e0 e1 e2
            go_wp2_with fail
            go_roundg (hs.length - (k + 1))
            case measure => omega
            case rel =>
              refine ⟨k + 1, us ++ [⟨⟨hA1, hn1, hc1⟩, ⟨hA2, hn2, hc2⟩, ⟨hA3, hn3, hc3⟩⟩], .slice A10 (us.length + 1) c10, by omega, rfl, by go_num, by have := HUS.out; simp; omega, Lib.hid (HK4.out.set 2 _), Lib.hid ?_, Lib.hid (Bl.set HB5.out _ _ _ hBs)⟩
              exact Enc.Own.set HO5.out B 2 (.slice A10 (us.length + 1) c10) (Nat.lt_succ_self _)
      · clear hus
        have z0 := HKr.out.cell 0
        have z1 := HKr.out.cell 1
        have z2 := HKr.out.cell 2
        simp at z0 z1 z2
        have hRb := HRb.out.bl HW.out
        rw [show (w.alloc (.cells #[.slice A1 l.length c1, .slice A2 f.length c2, .slice A3 hs.length c3] 89)).heap.size = w.heap.size + 1 by simp] at hRb
        have y0 := hRb.cell 0
        have y1 := hRb.cell 1
        have y2 := hRb.cell 2
        have f0 := hRb.frozen 0
        have f1 := hRb.frozen 1
        have f2 := hRb.frozen 2
        have l1 := hRb.lt
        simp at y0 y1 y2
        obtain ⟨A7, c7, rfl⟩ := HO0.out.slice
        go_wp2_with fail
        refine bodyPost_ret (v := .agg #[.slice A4 l.length c4, .slice A5 f.length c5, .slice A7 us.length c7]) (by simp [results, Try.results91, go_sem, y0, y1, y2]) rfl ⟨⟨⟨A4, l.length, c4⟩, ⟨A5, f.length, c5⟩, ⟨A7, us.length, c7⟩⟩, rfl, ?_⟩
        iterate 3 refine Bl.set ?_ _ _ _ (Nat.le_succ _)
        exact W0.out.bl HW.out
end Go.Proofs.Ytddcjekkimajpaa.ExtW
