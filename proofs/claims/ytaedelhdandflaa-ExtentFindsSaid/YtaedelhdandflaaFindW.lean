/- Contracts of extent.Find, extent.Sectors and overdubref14's Find, Rise, Sectors. -/
import Derived.Test.YtaedelhdandflaaSortLib
import Derived.Test.YtaedelhdandflaaRefW
import Derived.Test.YtaedelhdandflaaSectPure
namespace Go.Proofs.Ytaedelhdandflaa.ExtW
open Go.RowKit Go.Ov Go.Proofs.Ytaedelhdandflaa.Need

theorem infoInt : (Try.prog.info? 3).map (fun i => (i.zero, i.size, i.bytes)) = some (some (.int .i64 0), 1, 8) := by kernel_rfl

/-- which one has a sample, from number k on -/
def findP (p : Ext → Bool) : Nat → List Ext → Int × Bool
  | _, [] => (0, false)
  | k, e :: l => if p e then (k, true) else findP p (k + 1) l
def hasM (x : Int) (e : Ext) : Bool := decide (e.at_ ≤ x) && decide (wrap64 (x - e.at_) < e.take)
def hasR (x : Int) (e : Ext) : Bool := decide (e.at_ ≤ x) && decide (x < wrap64 (e.at_ + e.take))

set_option maxRecDepth 100000 in
set_option maxHeartbeats 1000000 in
theorem find_any (v : Value) (l : List Ext) (x : Int) (w : World) (h : extE.Is w v l) :
    Calls Try.prog 39 #[v, .int .i64 x] w fun e w' => e = .returned (.tuple #[.int .i64 (findP (hasM x) 0 l).1, .bool (findP (hasM x) 0 l).2]) ∧ Bl w w' := by
  obtain ⟨A, c, rfl, h1, h2, h3, h4⟩ := h
  have HA := Lib.hid h4
  have hl : l.length ≤ 9223372036854775807 := by unfold maxLen at h2; omega
  have hu := Try.underlying34
  clear h1 h2 h3 h4
  go_enter Try.func39, Try.ntmps39
  go_wp2
  go_loopg [10] l.length (fun g i wr => ∃ (k : Nat), k ≤ l.length ∧ g = l.length - k ∧ i = .int .i64 k ∧ Hid (findP (hasM x) 0 l = findP (hasM x) k (l.drop k)) ∧ Bl w wr)
  case atStart => exact ⟨0, by omega, rfl, rfl, Lib.hid rfl, Bl.refl _⟩
  case round =>
    obtain ⟨k, hk, rfl, rfl, hv, hbl⟩ := hrel
    have HB := Lib.hid hbl
    clear hbl
    by_cases hlt : k < l.length
    · obtain ⟨ad, rfl, c0, c1, c2, c3, c4⟩ := ext_at (HA.out.bl HB.out) k hlt
      have hd := Lib.hid (List.drop_eq_getElem_cons hlt)
      generalize l[k] = e at *
      obtain ⟨x0, x1, x2, x3, x4⟩ := e
      dsimp only at c0 c1 c2 c3 c4
      by_cases g0 : x0 ≤ x
      · by_cases g1 : wrap64 (x - x0) < x4
        · have hc := Lib.hid (show findP (hasM x) k (⟨x0, x1, x2, x3, x4⟩ :: l.drop (k + 1)) = (((k : Nat) : Int), true) by simp [findP, hasM, g0, g1])
          go_wp2
          go_ret2
          exact ⟨by rw [hv.out, hd.out, hc.out]; rfl, HB.out.alloc _⟩
        · have hc := Lib.hid (show findP (hasM x) k (⟨x0, x1, x2, x3, x4⟩ :: l.drop (k + 1)) = findP (hasM x) (k + 1) (l.drop (k + 1)) by simp [findP, hasM, g0, g1])
          go_wp2
          go_roundg (l.length - (k + 1))
          case measure => omega
          case rel => exact ⟨k + 1, by omega, rfl, by go_num, Lib.hid (by rw [hv.out, hd.out, hc.out]), HB.out.alloc _⟩
      · have hc := Lib.hid (show findP (hasM x) k (⟨x0, x1, x2, x3, x4⟩ :: l.drop (k + 1)) = findP (hasM x) (k + 1) (l.drop (k + 1)) by simp [findP, hasM, g0])
        go_wp2
        go_roundg (l.length - (k + 1))
        case measure => omega
        case rel => exact ⟨k + 1, by omega, rfl, by go_num, Lib.hid (by rw [hv.out, hd.out, hc.out]), HB.out.alloc _⟩
    · go_wp2
      go_ret2
      refine ⟨?_, HB.out⟩
      rw [hv.out, List.drop_of_length_le (by omega)]; rfl

set_option maxRecDepth 100000 in
set_option maxHeartbeats 1000000 in
theorem rfind_any (v : Value) (l : List Ext) (x : Int) (w : World) (h : extE.Is w v l) :
    Calls Try.prog 42 #[v, .int .i64 x] w fun e w' => e = .returned (.tuple #[.int .i64 (findP (hasR x) 0 l).1, .bool (findP (hasR x) 0 l).2]) ∧ Bl w w' := by
  obtain ⟨A, c, rfl, h1, h2, h3, h4⟩ := h
  have HA := Lib.hid h4
  have hl : l.length ≤ 9223372036854775807 := by unfold maxLen at h2; omega
  have hu := Try.underlying34
  clear h1 h2 h3 h4
  go_enter Try.func42, Try.ntmps42
  go_wp2
  go_loopg [9] l.length (fun g i wr => ∃ (k : Nat), k ≤ l.length ∧ g = l.length - k ∧ i = .int .i64 k ∧ Hid (findP (hasR x) 0 l = findP (hasR x) k (l.drop k)) ∧ Bl w wr)
  case atStart => exact ⟨0, by omega, rfl, rfl, Lib.hid rfl, Bl.refl _⟩
  case round =>
    obtain ⟨k, hk, rfl, rfl, hv, hbl⟩ := hrel
    have HB := Lib.hid hbl
    clear hbl
    by_cases hlt : k < l.length
    · obtain ⟨ad, rfl, c0, c1, c2, c3, c4⟩ := ext_at (HA.out.bl HB.out) k hlt
      have hd := Lib.hid (List.drop_eq_getElem_cons hlt)
      have hlti : (k : Int) < l.length := by omega
      generalize l[k] = e at *
      obtain ⟨x0, x1, x2, x3, x4⟩ := e
      dsimp only at c0 c1 c2 c3 c4
      have hc : findP (hasR x) k (⟨x0, x1, x2, x3, x4⟩ :: l.drop (k + 1)) = if x0 ≤ x ∧ x < wrap64 (x0 + x4) then (((k : Nat) : Int), true) else findP (hasR x) (k + 1) (l.drop (k + 1)) := by simp [findP, hasR]
      have HC := Lib.hid hc
      clear hc
      by_cases g0 : x0 ≤ x
      · by_cases g1 : x < wrap64 (x0 + x4)
        · go_wp2_with fail
          go_quiet (fail)
          go_wp2
          go_ret2
          exact ⟨by rw [hv.out, hd.out, HC.out, if_pos ⟨g0, g1⟩]; rfl, HB.out.drewN _⟩
        · go_wp2_with fail
          go_quiet (fail)
          go_wp2
          go_roundg (l.length - (k + 1))
          case measure => omega
          case rel => exact ⟨k + 1, by omega, rfl, by go_num, Lib.hid (by rw [hv.out, hd.out, HC.out, if_neg (fun h => by omega)]), HB.out.drewN _⟩
      · go_wp2_with fail
        have g2 : ¬ x0 ≤ x := by omega
        refine wp_region_ways (S := (fun w' => w'.cell? (ad.add (k * 5)) = some (.int .i64 x0))) [0, 1, 2, 3, 4, 5, 6, 7, 8, 9, 10, 11, 12, 13, 14, 15, 16, 17, 18, 19, 20, 21] (y := .take 0 (.take 1 (.take 2 (.take 3 (.take 4 (.take 5 (.take 6 (.take 7 (.take 8 (.take 9 (.take 10 (.take 11 (.take 12 (.take 13 (.take 14 (.take 15 (.take 16 (.take 17 (.take 18 (.take 19 (.take 20 (.take 21 (.done))))))))))))))))))))))) (by kernel_rfl) (by kernel_rfl) (by kernel_rfl) ?_ (fun hHeld => ?_)
        · exact Bl.cell (Bl.refl _).drew c0
        repeat (first | (refine wpWay_take rfl (by rfl) (by intro w hSw; (try dsimp only at hSw); first | (go_simp; done) | (go_simp; with_reducible rfl)) ?_; try simp only [Act.put, List.setIfInBounds_toArray, List.set_cons_zero, List.set_cons_succ]) | (refine wpWay_skip rfl (by rfl) ?_; try simp only [Act.put, List.setIfInBounds_toArray, List.set_cons_zero, List.set_cons_succ]))
        refine wpWay_done ?_
        go_wp2
        go_roundg (l.length - (k + 1))
        case measure => omega
        case rel => exact ⟨k + 1, by omega, rfl, by go_num, Lib.hid (by rw [hv.out, hd.out, HC.out, if_neg (fun h => by omega)]), HB.out.drew⟩
    · go_wp2
      go_ret2
      refine ⟨?_, HB.out⟩
      rw [hv.out, List.drop_of_length_le (by omega)]; rfl

set_option maxRecDepth 100000 in
set_option maxHeartbeats 1000000 in
theorem sectors_any (v : Value) (l : List Ext) (w : World) (h : extE.Is w v l) (hn : l.length ≤ 1000000) :
    Calls Try.prog 40 #[v] w fun e w' => ∃ u, e = .returned u ∧ intE.Own 3 w' w.heap.size u (sortedM (l.map Ext.sector)) ∧ Bl w w' := by
  obtain ⟨A, c, rfl, h1, h2, h3, h4⟩ := h
  have HA := Lib.hid h4
  have hl : l.length ≤ 9223372036854775807 := by unfold maxLen at h2; omega
  have hu := Try.underlying34
  clear h1 h2 h3 h4
  go_enter Try.func40, Try.ntmps40
  go_wp2
  go_loopg [3, 8] l.length (fun g s i wr => ∃ (k : Nat), k ≤ l.length ∧ g = l.length - k ∧ i = .int .i64 k ∧ intE.Own 3 wr w.heap.size s (pmap Ext.sector l k) ∧ Bl w wr)
  case atStart => exact ⟨0, by omega, rfl, rfl, Enc.Own.nil _ _ _, Bl.refl _⟩
  case round =>
    obtain ⟨k, hk, rfl, rfl, ho, hbl⟩ := hrel
    have HB := Lib.hid hbl
    have HO := Lib.hid ho
    clear hbl ho
    by_cases hlt : k < l.length
    · obtain ⟨ad, rfl, c0, c1, c2, c3, c4⟩ := ext_at (HA.out.bl HB.out) k hlt
      have hst := Lib.hid (pmap_succ Ext.sector l k hlt)
      have hlen := Lib.hid (pmap_len Ext.sector l k hk)
      generalize pmap Ext.sector l k = xs at *
      generalize l[k] = x at *
      obtain ⟨x0, x1, x2, x3, x4⟩ := x
      dsimp only at c0 c1 c2 c3 c4
      go_wp2_with (at_builtin; refine Enc.Own.append1 (E := intE) rfl (.tmp 12) (.tmp 15) 22 rfl w.heap.size 3 (.int .i64 0) 1 8 Try.underlying22 infoInt rfl rfl (by decide) (by decide) u3 xs rfl (HO.out.bl ((Bl.refl _).alloc _)) x1 _ rfl (by simp) rfl ?hlen ?hbase ?_; (case hlen => have := hlen.out; omega); (case hbase => exact (HB.out.alloc _).size); intro v1 w1 ho hg)
      go_roundg (l.length - (k + 1))
      case measure => omega
      case rel => exact ⟨k + 1, by omega, rfl, by go_num, by rw [hst.out]; exact ho, ((HB.out.alloc _).alloc _).grown hg (fun k hk => (Enc.Own.lt HO.out k hk).1)⟩
    · have ho : intE.Own 3 wr w.heap.size u3 (l.map Ext.sector) := by have := HO.out; rw [pmap_all _ _ _ (by omega)] at this; exact this
      have HO2 := Lib.hid ho
      clear HO ho
      go_wp2_with fail
      refine (sort_any _ _ _ _ _ HO2.out (by rw [List.length_map]; omega)).mono ?_
      rintro e w1 ⟨rfl, ho, hb⟩
      have HO3 := Lib.hid ho
      have HB1 := Lib.hid (hb w HB.out (Nat.le_refl _))
      clear ho hb
      go_wp2_with fail
      refine (compact_any _ _ _ _ _ HO3.out (by rw [List.length_mergeSort, List.length_map]; omega) (compact_len _)).mono ?_
      rintro e w2 ⟨u, rfl, ho, hb⟩
      have HO4 := Lib.hid ho
      have HB2 := Lib.hid (hb w HB1.out (Nat.le_refl _))
      clear ho hb
      go_wp2
      go_ret
      exact ⟨_, rfl, HO4.out, HB2.out⟩
end Go.Proofs.Ytaedelhdandflaa.ExtW
