/- Contract of overdublaw18.spots. -/
import Derived.Test.YtaedelhdandflaaKeepW
import Derived.Test.YtaedelhdandflaaExtPure
import Derived.Deep.RegionHeld3
import Derived.Deep.DeepMust
import Derived.IntWalk
namespace Go.Proofs.Ytaedelhdandflaa.ExtW
open Go.RowKit Go.Ov Go.Proofs.Ytaedelhdandflaa.Need

/-- small extents -/
def small (e : Ext) : Bool := decide (0 ≤ e.skip) && decide (e.skip ≤ 64) && decide (0 ≤ e.take) && decide (e.take ≤ 64)

set_option maxRecDepth 100000 in
set_option maxHeartbeats 4000000 in
theorem spots_any (v : Value) (l : List Ext) (w : World) (h : extE.Is w v l) (hs : ∀ e ∈ l, small e = true) (hn : l.length ≤ 100000) :
    Calls Try.prog 26 #[v] w fun e w' => ∃ u, e = .returned u ∧ pairE.Own 44 w' w.heap.size u (spotsM l) ∧ Bl w w' := by
  obtain ⟨A, c, rfl, h1, h2, h3, h4⟩ := h
  have HA := Lib.hid h4
  have hl : l.length ≤ 9223372036854775807 := by unfold maxLen at h2; omega
  have hu := Try.underlying34
  have HS := Lib.hid hs
  clear h1 h2 h3 h4 hs
  go_enter Try.func26, Try.ntmps26
  go_wp2
  go_loopg [3, 8] l.length (fun g s i wr => ∃ (k : Nat) (ys : List (Int × Int)), k ≤ l.length ∧ g = l.length - k ∧ i = .int .i64 k ∧ Hid (ys = pflat spotE l k) ∧ Hid (ys.length ≤ 64 * k) ∧ pairE.Own 44 wr w.heap.size s ys ∧ Bl w wr)
  case atStart => exact ⟨0, [], by omega, rfl, rfl, Lib.hid rfl, Lib.hid (Nat.le_refl _), Enc.Own.nil _ _ _, Bl.refl _⟩
  case round =>
    obtain ⟨k, ys, hk, rfl, rfl, hys, hyl, ho, hbl⟩ := hrel
    have HB := Lib.hid hbl
    have HO := Lib.hid ho
    clear hbl ho
    by_cases hlt : k < l.length
    · have hst := Lib.hid (pflat_succ spotE l k hlt)
      have hsm := HS.out _ (List.getElem_mem hlt)
      have hat := Lib.hid (fun w' hb => ext_at (HA.out.bl (w' := w') hb) k hlt)
      generalize l[k] = x at *
      obtain ⟨x0, x1, x2, x3, x4⟩ := x
      have hx : 0 ≤ x3 ∧ x3 ≤ 64 ∧ 0 ≤ x4 ∧ x4 ≤ 64 := by simp [small] at hsm; omega
      clear hsm
      go_wp2
      go_loopg [3, 5] x4.toNat (fun g s i ww => ∃ (j : Nat), j ≤ x4.toNat ∧ g = x4.toNat - j ∧ i = .int .i64 j ∧ pairE.Own 44 ww w.heap.size s (ys ++ pmap (fun k : Nat => (x1, x3 + (k : Int))) (List.range x4.toNat) j) ∧ Bl w ww)
      case atStart => exact ⟨0, by omega, rfl, rfl, by rw [pmap_zero, List.append_nil]; exact HO.out, HB.out⟩
      case round =>
        obtain ⟨j, hj, rfl, rfl, ho, hbl⟩ := hrel
        clear HB HO
        have HB := Lib.hid hbl
        have HO := Lib.hid ho
        clear hbl ho
        obtain ⟨ad, rfl, c0, c1, c2, c3, c4⟩ := hat.out _ HB.out
        by_cases hjt : (j : Int) < x4
        · have hjr : j < (List.range x4.toNat).length := by simp; omega
          have hps := Lib.hid (pmap_succ (fun k : Nat => (x1, x3 + (k : Int))) (List.range x4.toNat) j hjr)
          have hpl := Lib.hid (pmap_len (fun k : Nat => (x1, x3 + (k : Int))) (List.range x4.toNat) j (by simp; omega))
          generalize pmap (fun k : Nat => (x1, x3 + (k : Int))) (List.range x4.toNat) j = zs at *
          have hne : some (ad.add (k * 5)).block ≠ u3.ownBlock := by
            obtain ⟨ad2, e2, d0, _⟩ := hat.out w (Bl.refl _)
            obtain rfl : ad = ad2 := by injection e2
            have hlt0 := World.block_lt_of_cell? _ _ d0
            intro he
            have := (Enc.Own.lt HO.out _ he.symm).1
            omega
          go_wp2_with fail
          have hwr : IntKind.i64.wrap (x3 + (j : Int)) = x3 + (j : Int) := IntWalk.i64_in _ (by omega)
          go_region_held3 (fun w' => w'.cell? ⟨(ad.add (k * 5)).block, (ad.add (k * 5)).off + 1, none⟩ = some (.int .i64 x1) ∧ w'.cell? ⟨(ad.add (k * 5)).block, (ad.add (k * 5)).off + 3, none⟩ = some (.int .i64 x3))
            (first
              | go_keep
              | (go_split_ands; refine ⟨?_, ?_⟩ <;> exact World.grownBy.cell hgrow (by assumption) hne))
            ((refine Enc.Own.stepAppend1 (E := pairE) (by rfl) _ _ 45 (by rfl) w.heap.size 44 (.agg #[.int .i64 0, .int .i64 0]) 2 16 Try.underlying45 infoPair rfl rfl (by decide) (by decide) _ (ys ++ zs) (by rfl) HO.out (x1, x3 + (j : Int)) #[.int .i64 x1, .int .i64 (x3 + (j : Int))] (by rfl) rfl (by rfl) (by have := hyl.out; have := hpl.out; rw [List.length_append]; omega) HB.out.size ?_; intro v1 w1 ho1 hgrow))
          clear hwr
          go_wp2
          go_roundg (x4.toNat - (j + 1))
          case measure => omega
          case rel =>
            refine ⟨j + 1, by omega, rfl, by go_num, ?_, ((HB.out.alloc _).drew).grown hgrow (fun k hk => (Enc.Own.lt HO.out k hk).1)⟩
            rw [hps.out, ← List.append_assoc]
            simpa using ho1
        · go_wp2
          go_roundg (l.length - (k + 1))
          case measure => omega
          case rel =>
            refine ⟨k + 1, _, by omega, rfl, by go_num, Lib.hid ?_, Lib.hid ?_, HO.out, HB.out⟩
            · rw [hst.out, hys.out, pmap_all _ _ _ (by simp; omega)]; rfl
            · rw [List.length_append, pmap_all _ _ _ (by simp; omega)]; have := hyl.out; simp; omega
    · go_wp2
      go_ret
      exact ⟨_, rfl, by have := HO.out; rw [hys.out, pflat_all _ _ _ (by omega)] at this; exact this, HB.out⟩
end Go.Proofs.Ytaedelhdandflaa.ExtW
