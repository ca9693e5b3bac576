/- The walk of overdublaw24.NeedNodes. -/
import Derived.Test.YtaedelhdandflaaNeed
import Derived.Test.YtaedelhdandflaaOpen
namespace Go.Proofs.Ytaedelhdandflaa.Need
open Go.RowKit Go.Ov

theorem nodesI_le (x : Int) (h : 0 ≤ x) : nodesI x ≤ x := by
  have := nodes_le (min x 1048576).toNat
  unfold nodesI; omega
theorem nodesI_nn (x : Int) : 0 ≤ nodesI x := by unfold nodesI; omega
theorem nodesI_mono (x y : Int) (h : x ≤ y) : nodesI x ≤ nodesI y := by
  have := nodes_mono (min x 1048576).toNat (min y 1048576).toNat (by omega)
  unfold nodesI; omega
theorem nodesI_pos (x : Int) (h : 0 < x) : 1 ≤ nodesI x := by
  have := nodes_pos (min x 1048576).toNat (by omega)
  unfold nodesI; omega
theorem nodesI_np (x : Int) (h : x ≤ 0) : nodesI x = 0 := by
  unfold nodesI nodes; rw [if_pos (by omega)]; rfl
theorem infoInt : (Try.prog.info? 3).map (fun i => (i.zero, i.size, i.bytes)) = some (some (.int .i64 0), 1, 8) := by kernel_rfl

def kk (v : Int) : Int := within v 500
def nk (v : Int) : Int := nodesI (kk v)
theorem nk_bd (v : Int) : 0 ≤ nk v ∧ nk v ≤ 500 := by
  have h := within_bd v 500 (by decide)
  have := nodesI_le (kk v) h.1
  exact ⟨nodesI_nn _, by unfold nk; unfold kk at *; omega⟩
theorem psum_nk (l : List Int) : ∀ k, 0 ≤ psum nk l k ∧ psum nk l k ≤ 500 * k
  | 0 => by rw [psum_zero]; omega
  | k + 1 => by
    have ih := psum_nk l k
    by_cases h : k < l.length
    · rw [psum_succ _ _ _ h]; have := nk_bd l[k]; omega
    · rw [psum_all _ _ _ (by omega)]; rw [psum_all _ _ _ (by omega)] at ih; omega

set_option maxRecDepth 100000 in
set_option maxHeartbeats 1000000 in
theorem needNodes_any (n : Int) (A : Option Addr) (c : Nat) (l : List Int) (w : World) (hA : intE.At w A l) (hl : l.length ≤ maxLen) :
    Calls Try.prog 3 #[.int .i64 n, .slice A l.length c] w fun e w' => e = .returned (.bool true) ∧ Bl w w' := by
  have HA := Lib.hid hA
  unfold maxLen at hl
  clear hA
  have hm := within_bd n 3000 (by decide)
  generalize hmm : within n 3000 = m at hm
  have HM := Lib.hid hmm
  clear hmm
  obtain ⟨hm0, hm1⟩ := hm
  have c1 : decide (nodesI (m + 1) < nodesI m) = false := by have := nodesI_mono m (m + 1) (by omega); simp; omega
  have c2 : decide (m < nodesI m) = false := by have := nodesI_le m hm0; simp; omega
  have c3 : decide (0 < m) = true → decide (nodesI m < 1) = false := by intro h; have := nodesI_pos m (by simpa using h); simp; omega
  have c4 : nodesI 0 = 0 := nodesI_np 0 (by omega)
  have c5 : nodesI (-m) = 0 := nodesI_np _ (by omega)
  go_enter Try.func3, Try.ntmps3
  go_wp2_with (first | (go_at_call 11; refine (within_any _ _ _ (by omega)).mono ?_; rintro e w' ⟨rfl, rfl⟩; rw [HM.out]) | (go_at_call 12; refine (nodes_any _ _).mono ?_; rintro e w' ⟨rfl, rfl⟩))
  all_goals
    clear c1 c2 c3 HM
    go_loopg [5, 6, 7] l.length (fun g s x i wr => ∃ j : Nat, j ≤ l.length ∧ j ≤ 6 ∧ g = l.length - j ∧ i = .int .i64 j ∧ s = .int .i64 (2 + psum nk l j) ∧ intE.Own 3 wr w.heap.size x (pmap kk l j) ∧ Bl w wr)
    case atStart => exact ⟨0, by omega, by omega, rfl, rfl, rfl, Enc.Own.nil _ _ _, Bl.refl _⟩
    case round =>
      obtain ⟨j, hj, hj6, rfl, rfl, rfl, hown, hbl⟩ := hrel
      have HO := Lib.hid hown
      have HB := Lib.hid hbl
      have hps := psum_nk l j
      clear hown hbl
      by_cases hlt : j < l.length ∧ j < 6
      · obtain ⟨hjl, hj5⟩ := hlt
        obtain ⟨ad, rfl, hc0⟩ := int_at HA.out j hjl
        have hc := HB.out.cell hc0
        have hst := Lib.hid (psum_succ nk l j hjl)
        have htk := Lib.hid (pmap_succ kk l j hjl)
        have hlen := pmap_len kk l j hj
        have hkk := Lib.hid (show kk l[j] = within l[j] 500 from rfl)
        have hnk := Lib.hid (show nk l[j] = nodesI (kk l[j]) from rfl)
        have hnb := nk_bd l[j]
        generalize kk l[j] = y at htk hkk hnk
        generalize nk l[j] = z at hst hnk hnb
        generalize l[j] = q at hkk hc
        generalize pmap kk l j = xs at HO htk hlen
        have HL := Lib.hid hlen
        clear hlen hc0
        go_wp2_with (first | (go_at_call 11; refine (within_any _ _ _ (by omega)).mono ?_; rintro e w' ⟨rfl, rfl⟩; rw [← hkk.out]) | (go_at_call 12; refine (nodes_any _ _).mono ?_; rintro e w' ⟨rfl, rfl⟩; rw [← hnk.out]) | (at_builtin; refine Enc.Own.append1 (E := intE) rfl (.tmp 57) (.tmp 59) 22 rfl w.heap.size 3 (.int .i64 0) 1 8 Try.underlying22 infoInt rfl rfl (by decide) (by decide) u6 xs rfl HO.out y _ rfl rfl rfl ?hlen ?hbase ?_; (case hlen => have := HL.out; omega); (case hbase => exact HB.out.size); intro v1 w1 ho hg))
        go_roundg (l.length - (j + 1))
        case measure => omega
        case rel =>
          refine ⟨j + 1, by omega, by omega, rfl, by go_num, ?_, by rw [htk.out]; exact ho, ?_⟩
          · rw [hst.out, ← Int.add_assoc]
          · exact (HB.out.alloc _).grown hg (fun k hk => (Enc.Own.lt HO.out k hk).1)
      · have hlen := pmap_len kk l j hj
        have hsum : sums (pmap kk l j) = psum nk l j := by unfold sums pmap psum; rw [List.map_map]; rfl
        obtain ⟨A', c', rfl, h1, h2, h3, h4⟩ := HO.out.is
        generalize pmap kk l j = xs at *
        generalize psum nk l j = S at *
        have HL := Lib.hid hlen
        have HE := Lib.hid h4
        have HN := Lib.hid h3
        have HC := Lib.hid (And.intro h1 h2)
        have HS := Lib.hid hsum
        clear hlen h1 h2 h3 h4 hsum HO
        have hjj : j ≤ 9223372036854775807 := by omega
        have hxl : xs.length ≤ maxLen := Nat.le_trans HC.out.1 HC.out.2
        have t1 : wrap64 (((0 : Nat) : Int) + 1 + sumss []) = 1 := by unfold sumss wrap64; simp
        have t2 : wrap64 (((1 : Nat) : Int) + 1 + sumss [xs]) = 2 + S := by
          unfold sumss; simp only [List.map_cons, List.map_nil, List.sum_cons, List.sum_nil, HS.out]; rw [wrap_id (by omega) (by omega)]; omega
        have t3 : wrap64 (((3 : Nat) : Int) + 1 + sumss [xs, xs, []]) = 2 * (2 + S) := by
          unfold sumss; simp only [List.map_cons, List.map_nil, List.sum_cons, List.sum_nil, HS.out]; rw [wrap_id (by simp [sums]; omega) (by simp [sums]; omega)]; simp [sums]; omega
        have k1 : ∀ W, Calls Try.prog 13 #[.slice none 0 0] W fun e w' => e = .returned (.int .i64 1) ∧ W = w' := fun W =>
          (checkpoint_any none 0 [] [] W (Enc.At.nil _ _) (IRows.nil _) (by decide)).mono fun e w' ⟨he, hw⟩ => ⟨he.trans (ret_int t1), hw⟩
        have k2 : Calls Try.prog 13 #[.slice (some ⟨wr.heap.size, 0, none⟩) 1 1] (wr.alloc (.cells #[.slice A' xs.length c'] 22)) fun e w' => e = .returned (.int .i64 (2 + S)) ∧ (wr.alloc (.cells #[.slice A' xs.length c'] 22)) = w' :=
          (checkpoint_any _ 1 [⟨A', xs.length, c'⟩] [xs] _ (Enc.At.lit wr _ _ rfl rfl) (IRows.cons rfl HC.out.1 HC.out.2 HN.out (HE.out.bl ((Bl.refl _).alloc _)) (IRows.nil _)) (show (1 : Nat) ≤ maxLen by decide)).mono fun e w' ⟨he, hw⟩ => ⟨he.trans (ret_int t2), hw⟩
        have k3 : ∀ W N, N = W.heap.size → Bl wr W → Calls Try.prog 13 #[.slice (some ⟨N, 0, none⟩) 3 3] (W.alloc (.cells #[.slice A' xs.length c', .slice A' xs.length c', .slice none 0 0] 22)) fun e w' => e = .returned (.int .i64 (2 * (2 + S))) ∧ (W.alloc (.cells #[.slice A' xs.length c', .slice A' xs.length c', .slice none 0 0] 22)) = w' := fun W N hN hW => by
          subst hN
          exact (checkpoint_any _ 3 [⟨A', xs.length, c'⟩, ⟨A', xs.length, c'⟩, ⟨none, 0, 0⟩] [xs, xs, []] _ (Enc.At.lit W _ _ rfl rfl) (IRows.cons rfl HC.out.1 HC.out.2 HN.out (HE.out.bl (hW.alloc _)) (IRows.cons rfl HC.out.1 HC.out.2 HN.out (HE.out.bl (hW.alloc _)) (IRows.cons rfl (Nat.le_refl _) (Nat.zero_le _) (fun _ => rfl) (Enc.At.nil _ _) (IRows.nil _)))) (show (3 : Nat) ≤ maxLen by decide)).mono fun e w' ⟨he, hw⟩ => ⟨he.trans (ret_int t3), hw⟩
        have K1 := Lib.hid k1
        have K2 := Lib.hid k2
        have K3 := Lib.hid k3
        clear k1 k2 k3 t1 t2 t3
        have hlt' : j < l.length → ¬ j < 6 := fun a b => hlt ⟨a, b⟩
        clear hlt
        by_cases hjl : j < l.length
        · have hj5 : ¬ j < 6 := hlt' hjl
          clear hlt'
          go_wp2_with fail
          refine (K1.out _).mono ?_
          rintro e w' ⟨rfl, rfl⟩
          go_wp2_with fail
          refine K2.out.mono ?_
          rintro e w' ⟨rfl, rfl⟩
          go_wp2_with fail
          refine (K3.out _ _ (by simp) ((Bl.refl _).alloc _)).mono ?_
          rintro e w' ⟨rfl, rfl⟩
          go_wp2_with fail
          refine (wakes_any _).mono ?_
          rintro e w' ⟨rfl, rfl⟩
          go_wp2_with fail
          go_ret
          exact ⟨rfl, (HB.out.alloc _).alloc _⟩
        · clear hlt'
          go_wp2_with fail
          refine (K1.out _).mono ?_
          rintro e w' ⟨rfl, rfl⟩
          go_wp2_with fail
          refine K2.out.mono ?_
          rintro e w' ⟨rfl, rfl⟩
          go_wp2_with fail
          refine (K3.out _ _ (by simp) ((Bl.refl _).alloc _)).mono ?_
          rintro e w' ⟨rfl, rfl⟩
          go_wp2_with fail
          refine (wakes_any _).mono ?_
          rintro e w' ⟨rfl, rfl⟩
          go_wp2_with fail
          go_ret
          exact ⟨rfl, (HB.out.alloc _).alloc _⟩
theorem needNodes_walk (n : Int) (v : Value) (l : List Int) (w : World) (_ : -9223372036854775808 ≤ n ∧ n ≤ 9223372036854775807) (h : ArgInts w v l) :
    Calls Try.prog 3 #[.int .i64 n, v] w fun e w' => e = .returned (.bool true) ∧ Bl w w' := by
  obtain ⟨⟨A, c, rfl, h1, h2, _, h3⟩, _, _⟩ := h
  exact needNodes_any n A c l w h3 (Nat.le_trans h1 h2)
end Go.Proofs.Ytaedelhdandflaa.Need
