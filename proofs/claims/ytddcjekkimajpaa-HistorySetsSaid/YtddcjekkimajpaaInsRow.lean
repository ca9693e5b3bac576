/- Contract of slices.Insert at tracks: one element put in. -/
import Derived.Test.YtddcjekkimajpaaStateRow
import Derived.Test.YtddcjekkimajpaaInsP
namespace Go.Proofs.Ytddcjekkimajpaa.ExtW
open Go.RowKit Go.Ov Go.Proofs.Ytddcjekkimajpaa.Need

theorem szTrack : (Try.prog.info? 83).map (·.size) = some 2 := by kernel_rfl
def insL (hs : List TH) (i : Nat) (x : TH) : List TH := hs.take i ++ x :: hs.drop i

set_option maxRecDepth 100000 in
set_option maxHeartbeats 4000000 in
theorem ins_end (v : Value) (hs : List TH) (x : TH) (vb base : Nat) (w : World) (h : trackE.Own 83 w base v hs) (hv : Blk w vb #[.int .i64 x.id, .pointer (some ⟨x.b, 0, none⟩)] 83) (hn : hs.length ≤ 1000) (hb : base ≤ w.heap.size) :
    Calls Try.prog 59 #[v, .int .i64 hs.length, .slice (some ⟨vb, 0, none⟩) 1 1] w fun e w' => ∃ u, e = .returned u ∧ trackE.Own 83 w' base u (insL hs hs.length x) ∧ w.grownBy w' v.ownBlock := by
  have HO := Lib.hid h
  have HX := Lib.hid (show trackE.Is w (.slice (some ⟨vb, 0, none⟩) 1 1) [x] from ⟨_, 1, rfl, by simp, by decide, (fun h => by cases h), fun i y hy => by
    have hi : i = 0 := by have := (List.getElem?_eq_some_iff.1 hy).1; simp at this; exact this
    subst hi
    simp at hy; subst hy
    refine ⟨_, rfl, fun j u hu => ?_⟩
    have : (⟨vb, 0, none⟩ : Addr).add (0 * trackE.sz + j) = ⟨vb, j, none⟩ := by unfold Addr.add; split <;> simp_all
    rw [this, hv.cell]
    match j, hu with
    | 0, hu => exact hu
    | 1, hu => exact hu⟩)
  have hu := Try.underlying83
  obtain ⟨A, c, rfl⟩ := h.slice
  have hc := Lib.hid HO.out.is
  have hl0 : ¬ ((1 : Int) = 0) := by omega
  clear h hv
  obtain ⟨A', c', e', hc1, _⟩ := hc.out
  simp at e'
  obtain ⟨rfl, rfl⟩ := e'
  go_enter Try.func59, Try.ntmps59
  go_wp2_with (at_builtin; refine Enc.Own.append (E := trackE) rfl (.tmp 23) (.tmp 24) 74 rfl base 83 (.agg #[.int .i64 0, .pointer none]) 2 16 Try.underlying74 infoTrack rfl rfl (by decide) (by decide) (.slice A hs.length c) hs rfl HO.out (.slice (some ⟨vb, 0, none⟩) 1 1) [x] rfl HX.out ?hlen hb ?_; (case hlen => simp; omega); intro v1 w1 ho hg)
  all_goals
    go_ret
    first
      | exact ⟨_, rfl, by unfold insL; rw [List.take_length, List.drop_length]; exact ho, hg⟩
      | exact ⟨_, rfl, by unfold insL; rw [List.take_length, List.drop_length]; exact ho, by cases A <;> exact hg⟩

theorem own_at_drop {w : World} {base g n c : Nat} {hs : List TH} (h : trackE.Own 83 w base (.slice (some ⟨g, 0, none⟩) n c) hs) (i : Nat) (_ : i ≤ hs.length) (j : Nat) (q : Value) (hq : ((hs.drop i).flatMap trackE.c)[j]? = some q) :
    w.cell? ⟨g, i * 2 + j, none⟩ = some q := by
  obtain ⟨rfl, _, _, _, cur, h5, h6, h7⟩ := h.blk
  rw [← flat_drop trackE hs i (by omega), List.getElem?_drop, ← h7, List.getElem?_take] at hq
  split at hq
  · rw [cell_of_row w g _ cur _ (0, 0) h5, ← Array.getElem?_toList]; exact hq
  · cases hq
theorem trackE_one (hs : List TH) : ∀ v ∈ hs.flatMap trackE.c, v.oneCell' = true := flat_one trackE hs

set_option maxRecDepth 100000 in
set_option maxHeartbeats 4000000 in
theorem ins_room (g c : Nat) (hs : List TH) (x : TH) (i vb base : Nat) (w : World) (h : trackE.Own 83 w base (.slice (some ⟨g, 0, none⟩) hs.length c) hs) (hv : Blk w vb #[.int .i64 x.id, .pointer (some ⟨x.b, 0, none⟩)] 83) (hvb : vb ≠ g)
    (hn : hs.length ≤ 1000) (hi : i < hs.length) (hroom : hs.length + 1 ≤ c) :
    Calls Try.prog 59 #[.slice (some ⟨g, 0, none⟩) hs.length c, .int .i64 i, .slice (some ⟨vb, 0, none⟩) 1 1] w fun e w' => ∃ u, e = .returned u ∧ trackE.Own 83 w' base u (insL hs i x) ∧ w.grownBy w' (some g) := by
  obtain ⟨_, hbg, _, hcm, cur, h5, h6, h7⟩ := h.blk
  have hcs : cur.size = c * 2 := h6
  obtain ⟨L, hL⟩ : ∃ L, L = cur.toList := ⟨_, rfl⟩
  have hLl : L.length = c * 2 := by rw [hL]; simpa using hcs
  have hg : w.heap[g]? = some (.cells L.toArray 83 (0, 0)) := by rw [hL]; simpa using h5
  have hLt : L.take (hs.length * 2) = hs.flatMap trackE.c := by rw [hL]; exact h7
  obtain ⟨D, hD⟩ : ∃ D, D = (hs.drop i).flatMap trackE.c := ⟨_, rfl⟩
  obtain ⟨X, hX⟩ : ∃ X : List Value, X = [.int .i64 x.id, .pointer (some ⟨x.b, 0, none⟩)] := ⟨_, rfl⟩
  have hDl : D.length = (hs.length - i) * 2 := by rw [hD, flat_len, List.length_drop]; rfl
  have hXl : X.length = 2 := by rw [hX]; rfl
  have hcp1 : ∀ ty dc sc, (Builtin.copy_ #[74, 74] ty #[.slice (some ⟨g, (i + 1) * 2, none⟩) (hs.length - i) dc, .slice (some ⟨g, i * 2, none⟩) (hs.length + 1 - i) sc]).run Try.prog w.drew = .ok (goInt (hs.length - i)) (w.drew.setRow g (lay L ((i + 1) * 2) D).toArray) := fun ty dc sc => by
    have := run_copyK (P := Try.prog) w.drew 74 74 ty 83 2 g ((i + 1) * 2) (hs.length - i) dc ⟨g, i * 2, none⟩ (hs.length + 1 - i) sc L 83 D Try.underlying74 szTrack hg
      (by rw [hDl]; simp only [Nat.min_def]; split <;> omega) (fun j v hj => by
        have := own_at_drop h i (by omega) j v (by rw [← hD]; exact hj)
        have e : (⟨g, i * 2, none⟩ : Addr).add j = ⟨g, i * 2 + j, none⟩ := by unfold Addr.add; split <;> simp_all
        rw [e]; exact this) (by rw [hDl, hLl]; omega) (by rw [hD]; exact trackE_one _)
    rw [this]
    congr 2
    simp only [Nat.min_def]; split <;> omega
  have hcp2 : ∀ ty dc sc, (Builtin.copy_ #[74, 74] ty #[.slice (some ⟨g, i * 2, none⟩) (hs.length + 1 - i) dc, .slice (some ⟨vb, 0, none⟩) 1 sc]).run Try.prog (w.drew.setRow g (lay L ((i + 1) * 2) D).toArray) = .ok (goInt 1) ((w.drew.setRow g (lay L ((i + 1) * 2) D).toArray).setRow g (lay (lay L ((i + 1) * 2) D) (i * 2) X).toArray) := fun ty dc sc => by
    have := run_copyK (P := Try.prog) (w.drew.setRow g (lay L ((i + 1) * 2) D).toArray) 74 74 ty 83 2 g (i * 2) (hs.length + 1 - i) dc ⟨vb, 0, none⟩ 1 sc (lay L ((i + 1) * 2) D) 83 X Try.underlying74 szTrack (setRow_heap _ g _ _ _ _ hg)
      (by rw [hXl]; simp only [Nat.min_def]; split <;> omega) (fun j v hj => by
        have e : (⟨vb, 0, none⟩ : Addr).add j = ⟨vb, j, none⟩ := by unfold Addr.add; split <;> simp_all
        have hk : Blk (w.drew.setRow g (lay L ((i + 1) * 2) D).toArray) vb #[.int .i64 x.id, .pointer (some ⟨x.b, 0, none⟩)] 83 := hv.drew.grown (setRow_grown _ _ _) (fun h => hvb (by injection h with h; exact h.symm))
        rw [e, hk.cell]
        rw [hX] at hj
        rw [← Array.getElem?_toList]; exact hj) (by rw [hXl, lay_len _ _ _ (by rw [hDl, hLl]; omega), hLl]; omega) (by rw [hX]; intro v hv; simp at hv; rcases hv with rfl | rfl <;> rfl)
    rw [this]
    congr 2
    simp only [Nat.min_def]; split <;> omega
  have hsa : w.shape? vb = some (83, 2) := by unfold World.shape?; rw [show w.heap[vb]? = _ from hv]; rfl
  have hsb : w.shape? g = some (83, c * 2) := by unfold World.shape?; rw [hg]; simp [hLl]
  have hov : ∀ lb cb, (callFunc 76 #[.slice (some ⟨vb, 0, none⟩) 1 1, .slice (some ⟨g, (i + 1) * 2, none⟩) lb cb]).run Try.prog w = .ok (.value (.bool false)) w := fun lb cb => by
    rw [run_callFunc_extern Try.func76 (by kernel_rfl) (by kernel_rfl) (by kernel_rfl) (e := Extern.SlicesOverlaps.overlaps #[74, 74] #[4]) (by kernel_rfl),
      Lib.run_overlaps_apart w 74 4 83 Try.underlying74 2 (fun w => by kernel_rfl) ⟨vb, 0, none⟩ ⟨g, (i + 1) * 2, none⟩ 1 1 lb cb hvb 83 83 2 (c * 2) hsa hsb (by omega) (hv.frozen 0) (hv.frozen 2)]
    rfl
  have HO := Lib.hid h
  have HF := Lib.hid (And.intro hL (And.intro hD hX))
  have HG := Lib.hid (And.intro hg (And.intro hLl (And.intro hLt (And.intro hDl hXl))))
  have hii : (i : Int) < hs.length := by omega
  have hw1 : IntKind.i64.wrap ((i : Int) + 1) = (i : Int) + 1 := IntWalk.i64_in _ (by omega)
  have hb1 : (0 : Int) ≤ (i : Int) + 1 := by omega
  have htn : ((i : Int) + 1).toNat = i + 1 := by omega
  have hb2 : ¬ (c = i + 1) := by omega
  have hb3 : (i : Int) ≤ (hs.length : Int) + 1 := by omega
  have hb4 : ¬ (c = i) := by omega
  have hsl1 : ∀ w, (Instr.slice 74 (.slice (some ⟨g, 0, none⟩) (hs.length + 1) c) (some (.int .i64 ((i : Int) + 1))) none none).run Try.prog w = .ok (.slice (some ⟨g, (i + 1) * 2, none⟩) (hs.length + 1 - (i + 1)) (c - (i + 1))) w := fun w => by
    rw [run_slice_l w 74 (some ⟨g, 0, none⟩) (hs.length + 1) c (by kernel_rfl) .i64 ((i : Int) + 1) (by omega) (by omega), show (sizeOf (Try.prog.elem 74)).run Try.prog w = .ok 2 w from by kernel_rfl, Result.andThen_ok, htn]
    unfold sliced
    rw [if_neg hb2, Option.map_some]
    congr 4
    unfold Addr.add; split <;> simp_all
  have hne : ((i : Int) == (hs.length : Int)) = false := by rw [beq_eq_false_iff_ne]; omega
  have hne2 : (i == hs.length) = false := by rw [beq_eq_false_iff_ne]; omega
  have hc2 : c ≤ 9223372036854775807 := by unfold maxLen at hcm; omega
  clear h hL hD hX hg hLl hLt hDl hXl h5 h6 h7 hcs hsa hsb hcm
  go_enter Try.func59, Try.ntmps59
  go_wp2_with fail
  refine wp_region_ways (S := (fun _ => True)) [0, 1, 2, 3, 4, 5, 6, 7] (y := .take 0 (.take 1 (.take 2 (.take 3 (.take 4 (.take 5 (.take 6 (.take 7 (.ev 8 (.done) (.stop)))))))))) (by kernel_rfl) (by kernel_rfl) (by kernel_rfl) ?_ (fun hHeld => ?_)
  · trivial
  repeat (first | (refine wpWay_take rfl (by rfl) (by intro w hSw; (try dsimp only at hSw); first | (go_simp; done) | (go_simp; with_reducible rfl)) ?_; try simp only [Act.put, List.setIfInBounds_toArray, List.set_cons_zero, List.set_cons_succ]) | (refine wpWay_skip rfl (by rfl) ?_; try simp only [Act.put, List.setIfInBounds_toArray, List.set_cons_zero, List.set_cons_succ]))
  refine wpWay_ev rfl (fun K hK => ?_) wpWay_stop
  go_wp2_with fail
  refine ⟨trivial, ?_⟩
  refine wpWay_done ?_
  go_wp2_with fail
  go_ret
  refine ⟨_, rfl, ?_, grown_trans (grown_trans (grown_bl (Bl.refl w).drew) (setRow_grown _ _ _)) (setRow_grown _ _ _)⟩
  obtain ⟨g1, g2, g3, g4, g5⟩ := HG.out
  obtain ⟨f1, f2, f3⟩ := HF.out
  have hl1 : (lay L ((i + 1) * 2) D).length = c * 2 := by rw [lay_len _ _ _ (by rw [g4, g2]; omega), g2]
  have hil : (insL hs i x).length = hs.length + 1 := by unfold insL; simp; omega
  refine Enc.Own.ofBlk hil.symm hbg hroom (by unfold maxLen; omega) (setRow_heap _ g _ _ _ _ (setRow_heap _ g _ _ _ _ g1)) (by simp; rw [lay_len _ _ _ (by rw [g5, hl1]; omega), hl1]; rfl) ?_
  show List.take ((hs.length + 1) * 2) _ = _
  have := lay_gap L X D (i * 2) (by rw [g4, g5, g2]; omega)
  rw [g4, g5, show i * 2 + 2 + (hs.length - i) * 2 = (hs.length + 1) * 2 by omega, show i * 2 + 2 = (i + 1) * 2 by omega] at this
  rw [this]
  have e1 : L.take (i * 2) = (hs.take i).flatMap trackE.c := by
    rw [← flat_take trackE hs i (by omega), ← g3, List.take_take, show trackE.sz = 2 from rfl, Nat.min_eq_left (by omega)]
  rw [e1, f2, f3]
  unfold insL
  rw [List.flatMap_append, List.flatMap_cons, List.append_assoc]; rfl

set_option maxRecDepth 100000 in
set_option maxHeartbeats 4000000 in
theorem ins_grow (g : Nat) (hs : List TH) (x : TH) (i vb base : Nat) (w : World) (h : trackE.Own 83 w base (.slice (some ⟨g, 0, none⟩) hs.length hs.length) hs) (hv : Blk w vb #[.int .i64 x.id, .pointer (some ⟨x.b, 0, none⟩)] 83)
    (hn : hs.length ≤ 1000) (hi : i < hs.length) (hbw : base ≤ w.heap.size) :
    Calls Try.prog 59 #[.slice (some ⟨g, 0, none⟩) hs.length hs.length, .int .i64 i, .slice (some ⟨vb, 0, none⟩) 1 1] w fun e w' => ∃ u, e = .returned u ∧ trackE.Own 83 w' base u (insL hs i x) ∧ w.grownBy w' (some g) := by
  obtain ⟨i0, hi0, hz0, hs0, hb0⟩ := info_parts infoTrack
  obtain ⟨CAP, hCAP⟩ : ∃ CAP, CAP = grownCap w (hs.length + 1) hs.length 83 := ⟨_, rfl⟩
  have hcap1 : hs.length + 1 ≤ CAP := by rw [hCAP]; exact grownCap_ge _ _ _ _
  have hcap2 : CAP ≤ maxLen := by rw [hCAP]; exact grownCap_le_maxLen _ _ _ _ (by unfold maxLen; omega)
  have hm : (hs.length : Int) + 1 - i = ((hs.length + 1 - i : Nat) : Int) := by omega
  have hne0 : i + (hs.length + 1 - i) = hs.length + 1 := by omega
  obtain ⟨O, hO⟩ : ∃ O, O = (hs.take i).flatMap trackE.c := ⟨_, rfl⟩
  have hOl : O.length = i * 2 := by rw [hO, flat_len, List.length_take, Nat.min_eq_left (by omega)]; rfl
  have hcells : ∀ j q, (hs.flatMap trackE.c)[j]? = some q → w.cell? ((⟨g, 0, none⟩ : Addr).add j) = some q := fun j q hq => by
    have := own_at_drop h 0 (by omega) j q (by simpa using hq)
    rw [addr_add0]; rw [Nat.zero_mul, Nat.zero_add] at this; exact this
  have hOc : ∀ j q, O[j]? = some q → w.cell? ((⟨g, 0, none⟩ : Addr).add j) = some q := fun j q hq => by
    rw [hO, ← flat_take trackE hs i (by omega), List.getElem?_take] at hq
    split at hq
    · exact hcells j q hq
    · cases hq
  have hrun := run_append_zeros_grow (P := Try.prog) w 74 3 74 83 i0 (.agg #[.int .i64 0, .pointer none]) Try.underlying74 Try.underlying3 hi0 hz0 ⟨g, 0, none⟩ i hs.length O (by rw [hOl, hs0]) hOc
    (hs.length + 1 - i) (by rw [hs0]; omega) (by omega) (by omega) (by rw [hb0]; decide) (by rw [hb0]; have := nextslicecap_le (need := i + (hs.length + 1 - i)) (old := hs.length) (by omega); omega)
  rw [hne0, ← hCAP, ← hm] at hrun
  obtain ⟨cur, hcur⟩ : ∃ cur : Array Value, cur = O.toArray ++ Builtin.zeroCells (Value.agg #[.int .i64 0, .pointer none]).cells (hs.length + 1 - i) ++ Builtin.zeroCells (Value.agg #[.int .i64 0, .pointer none]).cells (CAP - (hs.length + 1)) := ⟨_, rfl⟩
  rw [← hcur] at hrun
  obtain ⟨L, hL⟩ : ∃ L, L = cur.toList := ⟨_, rfl⟩
  have hLl : L.length = CAP * 2 := by
    rw [hL, hcur]
    simp [Builtin.zeroCells, hOl, Value.cells]; omega
  have hLt : L.take (i * 2) = O := by
    rw [hL, hcur]
    simp only [Array.toList_append, List.append_assoc]
    rw [List.take_append_of_le_length (by omega), List.take_of_length_le (by omega)]
  have hcL : cur = L.toArray := by rw [hL]
  rw [hcL] at hrun
  obtain ⟨D, hD⟩ : ∃ D, D = (hs.drop i).flatMap trackE.c := ⟨_, rfl⟩
  obtain ⟨X, hX⟩ : ∃ X : List Value, X = [.int .i64 x.id, .pointer (some ⟨x.b, 0, none⟩)] := ⟨_, rfl⟩
  have hDl : D.length = (hs.length - i) * 2 := by rw [hD, flat_len, List.length_drop]; rfl
  have hXl : X.length = 2 := by rw [hX]; rfl
  obtain ⟨W2, hW2⟩ : ∃ W2, W2 = w.drew.alloc (.cells L.toArray 83) := ⟨_, rfl⟩
  rw [← hW2] at hrun
  have hg2 : W2.heap[w.heap.size]? = some (.cells L.toArray 83 (0, 0)) := by rw [hW2]; exact heap_alloc_new w.drew _
  have hbl2 : Bl w W2 := by rw [hW2]; exact (Bl.refl w).drew.alloc _
  have hvb : vb < w.heap.size := hv.lt
  have hcp1 : ∀ ty dc sc, (Builtin.copy_ #[74, 74] ty #[.slice (some ⟨w.heap.size, i * 2, none⟩) (hs.length + 1 - i) dc, .slice (some ⟨vb, 0, none⟩) 1 sc]).run Try.prog W2 = .ok (goInt 1) (W2.setRow w.heap.size (lay L (i * 2) X).toArray) := fun ty dc sc => by
    have := run_copyK (P := Try.prog) W2 74 74 ty 83 2 w.heap.size (i * 2) (hs.length + 1 - i) dc ⟨vb, 0, none⟩ 1 sc L 83 X Try.underlying74 szTrack hg2
      (by rw [hXl]; simp only [Nat.min_def]; split <;> omega) (fun j v hj => by
        rw [addr_add0, (hv.bl hbl2).cell]
        rw [hX] at hj
        rw [← Array.getElem?_toList]; exact hj) (by rw [hXl, hLl]; omega) (by rw [hX]; intro v hv; simp at hv; rcases hv with rfl | rfl <;> rfl)
    rw [this]
    congr 2
    simp only [Nat.min_def]; split <;> omega
  obtain ⟨W3, hW3⟩ : ∃ W3, W3 = W2.setRow w.heap.size (lay L (i * 2) X).toArray := ⟨_, rfl⟩
  rw [← hW3] at hcp1
  have hg3 : W3.heap[w.heap.size]? = some (.cells (lay L (i * 2) X).toArray 83 (0, 0)) := by rw [hW3]; exact setRow_heap _ _ _ _ _ _ hg2
  have hbl3 : Bl w W3 := by rw [hW3]; exact hbl2.grown (setRow_grown _ _ _) (fun k hk => by injection hk with hk; omega)
  have hcp2 : ∀ ty dc sc, (Builtin.copy_ #[74, 74] ty #[.slice (some ⟨w.heap.size, (i + 1) * 2, none⟩) (hs.length - i) dc, .slice (some ⟨g, i * 2, none⟩) (hs.length - i) sc]).run Try.prog W3.drew = .ok (goInt (hs.length - i)) (W3.drew.setRow w.heap.size (lay (lay L (i * 2) X) ((i + 1) * 2) D).toArray) := fun ty dc sc => by
    have := run_copyK (P := Try.prog) W3.drew 74 74 ty 83 2 w.heap.size ((i + 1) * 2) (hs.length - i) dc ⟨g, i * 2, none⟩ (hs.length - i) sc (lay L (i * 2) X) 83 D Try.underlying74 szTrack hg3
      (by rw [hDl]; simp only [Nat.min_def]; split <;> omega) (fun j v hj => by
        have h1 := own_at_drop h i (by omega) j v (by rw [← hD]; exact hj)
        rw [addr_add]; exact (hbl3.drew).cell h1) (by rw [hDl, lay_len _ _ _ (by rw [hXl, hLl]; omega), hLl]; omega) (by rw [hD]; exact trackE_one _)
    rw [this]
    congr 2
    simp only [Nat.min_def]; split <;> omega
  have htn : ((i : Int) + 1).toNat = i + 1 := by omega
  have hb2 : ¬ (CAP = i + 1) := by omega
  have hsl1 : ∀ w', (Instr.slice 74 (.slice (some ⟨w.heap.size, 0, none⟩) (hs.length + 1) CAP) (some (.int .i64 ((i : Int) + 1))) none none).run Try.prog w' = .ok (.slice (some ⟨w.heap.size, (i + 1) * 2, none⟩) (hs.length - i) (CAP - (i + 1))) w' := fun w' => by
    rw [run_slice_l w' 74 (some ⟨w.heap.size, 0, none⟩) (hs.length + 1) CAP (by kernel_rfl) .i64 ((i : Int) + 1) (by omega) (by omega), show (sizeOf (Try.prog.elem 74)).run Try.prog w' = .ok 2 w' from by kernel_rfl, Result.andThen_ok, htn]
    unfold sliced
    rw [if_neg hb2, Option.map_some, show hs.length + 1 - (i + 1) = hs.length - i by omega]
    congr 4
    rw [addr_add0]
  have hsl2 : ∀ w', (Instr.slice 74 (.slice (some ⟨g, 0, none⟩) hs.length hs.length) (some (.int .i64 (i : Int))) none none).run Try.prog w' = .ok (.slice (some ⟨g, i * 2, none⟩) (hs.length - i) (hs.length - i)) w' := fun w' => by
    rw [run_slice_l w' 74 (some ⟨g, 0, none⟩) hs.length hs.length (by kernel_rfl) .i64 (i : Int) (by omega) (by omega), show (sizeOf (Try.prog.elem 74)).run Try.prog w' = .ok 2 w' from by kernel_rfl, Result.andThen_ok, Int.toNat_natCast]
    unfold sliced
    rw [if_neg (by omega), Option.map_some]
    congr 4
    rw [addr_add0]
  have HO := Lib.hid h
  have HF := Lib.hid (And.intro hO (And.intro hD hX))
  have HG := Lib.hid (And.intro hg3 (And.intro hLl (And.intro hLt (And.intro hDl hXl))))
  have HB := Lib.hid hbl3
  have HR := Lib.hid hrun
  have hii : (i : Int) < hs.length := by omega
  have hw1 : IntKind.i64.wrap ((i : Int) + 1) = (i : Int) + 1 := IntWalk.i64_in _ (by omega)
  have hb1 : (0 : Int) ≤ (i : Int) + 1 := by omega
  have hb3 : (i : Int) ≤ (hs.length : Int) + 1 := by omega
  have hb4 : ¬ (CAP = i) := by omega
  have hb5 : ¬ (hs.length = i) := by omega
  have hne : ((i : Int) == (hs.length : Int)) = false := by rw [beq_eq_false_iff_ne]; omega
  have hne2 : (i == hs.length) = false := by rw [beq_eq_false_iff_ne]; omega
  have hc2 : CAP ≤ 9223372036854775807 := by unfold maxLen at hcap2; omega
  clear h hL hD hX hLl hLt hDl hXl hCAP hcur hcL hO hOl hcells hOc hg2 hg3 hW2 hW3 hbl2 hbl3 hrun hi0 hz0 hs0 hb0 hm hne0
  go_enter Try.func59, Try.ntmps59
  go_wp2_with (at_builtin; refine wpList_append_run rfl (.tmp 34) (.tmp 39) 74 3 rfl _ _ _ rfl rfl HR.out ?_)
  refine wp_region_ways (S := (fun _ => True)) [0, 1, 2, 3, 4, 5, 6, 7] (y := .take 0 (.take 1 (.take 2 (.take 3 (.take 4 (.take 5 (.take 6 (.take 7 (.ev 8 (.done) (.stop)))))))))) (by kernel_rfl) (by kernel_rfl) (by kernel_rfl) ?_ (fun hHeld => ?_)
  · trivial
  repeat (first | (refine wpWay_take rfl (by rfl) (by intro w hSw; (try dsimp only at hSw); first | (go_simp; done) | (go_simp; with_reducible rfl)) ?_; try simp only [Act.put, List.setIfInBounds_toArray, List.set_cons_zero, List.set_cons_succ]) | (refine wpWay_skip rfl (by rfl) ?_; try simp only [Act.put, List.setIfInBounds_toArray, List.set_cons_zero, List.set_cons_succ]))
  refine wpWay_ev rfl (fun K hK => ?_) wpWay_stop
  go_wp2_with fail
  refine ⟨trivial, ?_⟩
  refine wpWay_done ?_
  go_wp2_with fail
  go_ret
  refine ⟨_, rfl, ?_, grown_bl (((HB.out).drew).grown (setRow_grown _ _ _) (fun k hk => by injection hk with hk; omega))⟩
  obtain ⟨g1, g2, g3, g4, g5⟩ := HG.out
  obtain ⟨f1, f2, f3⟩ := HF.out
  have hl1 : (lay L (i * 2) X).length = CAP * 2 := by rw [lay_len _ _ _ (by rw [g5, g2]; omega), g2]
  have hil : (insL hs i x).length = hs.length + 1 := by unfold insL; simp; omega
  refine Enc.Own.ofBlk hil.symm hbw hcap1 hcap2 (setRow_heap _ w.heap.size _ _ _ _ g1) (by simp; rw [lay_len _ _ _ (by rw [g4, hl1]; omega), hl1]; rfl) ?_
  show List.take ((hs.length + 1) * 2) _ = _
  have := lay_two L X D (i * 2) (by rw [g4, g5, g2]; omega)
  rw [g4, g5, show i * 2 + 2 + (hs.length - i) * 2 = (hs.length + 1) * 2 by omega, show i * 2 + 2 = (i + 1) * 2 by omega] at this
  rw [this, g3, f1, f2, f3]
  unfold insL
  rw [List.flatMap_append, List.flatMap_cons, List.append_assoc]; rfl
end Go.Proofs.Ytddcjekkimajpaa.ExtW
