/- Contracts of overdubkeep.Within, need.Nodes, need.Blocks, need.Checkpoint, overdublaw24.wakes. -/
import Derived.Test.YtaedelhdandflaaProg
import Derived.Test.YtaedelhdandflaaLib
namespace Go.Proofs.Ytaedelhdandflaa.Need
open Go.RowKit Go.Ov

set_option maxHeartbeats 400000 in
theorem within_any (v n : Int) (w : World) (hn : n ≤ 9223372036854775807) :
    Calls Try.prog 11 #[.int .i64 v, .int .i64 n] w fun e w' => e = .returned (.int .i64 (within v n)) ∧ w = w' := by
  go_enter Try.func11, Try.ntmps11
  go_wp2
  all_goals go_ret
  all_goals refine ⟨ret_int ?_, rfl⟩
  · rename_i h; unfold within; rw [if_pos h]
  · rename_i h1 h
    have := Int.emod_nonneg v (show n ≠ 0 by omega)
    have := Int.emod_lt_of_pos v (show 0 < n by omega)
    have e := tmod_lt0 v n h1 h
    unfold within; rw [if_neg (by omega)]
    show wrap64 (v.tmod n + n) = _
    rw [e]; unfold wrap64; omega
  · rename_i h1 h
    unfold within; rw [if_neg (by omega)]; exact tmod_ge0 v n h1 h

def nodes (n : Nat) : Nat := if n = 0 then 0 else if n < 8 then 1 else n / 4 + nodes (n / 4)
  termination_by n
  decreasing_by omega
def nodesI (x : Int) : Int := nodes (min x 1048576).toNat

theorem nodes_le (n : Nat) : nodes n ≤ n := by
  induction n using Nat.strongRecOn with
  | _ n ih =>
    unfold nodes
    split
    · omega
    · split
      · omega
      · have := ih (n / 4) (by omega); omega
theorem nodes_pos (n : Nat) (h : 0 < n) : 1 ≤ nodes n := by
  unfold nodes
  split
  · omega
  · split <;> omega
theorem nodes_mono (n m : Nat) (h : n ≤ m) : nodes n ≤ nodes m := by
  induction m using Nat.strongRecOn generalizing n with
  | _ m ih =>
    by_cases h0 : n = 0
    · subst h0; unfold nodes; rw [if_pos rfl]; exact Nat.zero_le _
    · by_cases h8 : n < 8
      · have := nodes_pos m (by omega)
        have e : nodes n = 1 := by unfold nodes; rw [if_neg h0, if_pos h8]
        omega
      · have := ih (m / 4) (by omega) (n / 4) (by omega)
        unfold nodes
        rw [if_neg h0, if_neg h8, if_neg (by omega), if_neg (by omega)]
        omega

set_option maxHeartbeats 400000 in
theorem nodes_any (x : Int) (w : World) :
    Calls Try.prog 12 #[.int .i64 x] w fun e w' => e = .returned (.int .i64 (nodesI x)) ∧ w = w' := by
  generalize hm : (min x 1048576).toNat = m
  induction m using Nat.strongRecOn generalizing x w with
  | _ m ih =>
    have IH : ∀ y : Int, (min y 1048576).toNat < m → ∀ w, Calls Try.prog 12 #[.int .i64 y] w fun e w' => e = .returned (.int .i64 (nodesI y)) ∧ w = w' := fun y hy w => ih _ hy y w rfl
    have HIH := Lib.hid IH
    have HM := Lib.hid hm
    clear ih IH hm
    go_enter Try.func12, Try.ntmps12
    go_wp2_with fail
    · rename_i h0 h1; go_ret
      refine ⟨ret_int ?_, rfl⟩
      show (0 : Int) = _
      unfold nodesI nodes; rw [if_pos (by omega)]; rfl
    · rename_i h0 h1 h2; go_ret
      refine ⟨ret_int ?_, rfl⟩
      show (1 : Int) = _
      unfold nodesI nodes; rw [if_neg (by omega), if_pos (by omega)]; rfl
    · rename_i h
      have hm := HM.out
      refine (HIH.out _ (by omega) _).mono ?_
      rintro e w' ⟨rfl, rfl⟩
      go_wp2
      go_ret
      refine ⟨ret_int ?_, rfl⟩
      have e : nodesI x = 262144 + nodesI 262144 := by
        unfold nodesI
        rw [show (min x 1048576).toNat = 1048576 by omega, show (min (262144 : Int) 1048576).toNat = 262144 by omega]
        conv => lhs; unfold nodes
        simp
      have := nodes_le (min (262144:Int) 1048576).toNat
      have : nodesI 262144 = (nodes (min (262144:Int) 1048576).toNat : Int) := rfl
      show wrap64 _ = _
      rw [e]; unfold wrap64; omega
    · rename_i h0 h1 h
      have hm := HM.out
      refine (HIH.out _ (by omega) _).mono ?_
      rintro e w' ⟨rfl, rfl⟩
      go_wp2
      go_ret
      refine ⟨ret_int ?_, rfl⟩
      have e : nodesI x = x / 4 + nodesI (x / 4) := by
        unfold nodesI
        rw [show (min (x / 4) 1048576).toNat = (min x 1048576).toNat / 4 by omega]
        conv => lhs; unfold nodes
        rw [if_neg (by omega), if_neg (by omega)]; push_cast; omega
      have := nodes_le (min (x / 4) 1048576).toNat
      have : nodesI (x / 4) = (nodes (min (x / 4) 1048576).toNat : Int) := rfl
      show wrap64 _ = _
      rw [e]; unfold wrap64; omega


def blocks (n : Int) : Int := if n ≤ 0 then 0 else (n - 1) / 40 + 1
set_option maxHeartbeats 400000 in
theorem blocks_any (n : Int) (w : World) (hn : n ≤ 9223372036854775807) :
    Calls Try.prog 20 #[.int .i64 n] w fun e w' => e = .returned (.int .i64 (blocks n)) ∧ w = w' := by
  go_enter Try.func20, Try.ntmps20
  go_wp2
  all_goals go_ret
  all_goals refine ⟨ret_int ?_, rfl⟩
  · rename_i h; unfold blocks; rw [if_pos h]
  · rename_i h; unfold blocks; rw [if_neg (by omega)]
theorem nodesI_1 : nodesI 1 = 1 := by unfold nodesI nodes; rfl
set_option maxHeartbeats 400000 in
theorem wakes_any (w : World) : Calls Try.prog 14 #[] w fun e w' => e = .returned (.bool true) ∧ w = w' := by
  go_enter Try.func14, Try.ntmps14
  go_wp2_with (first | (go_at_call 20; refine (blocks_any _ _ (by decide)).mono ?_; rintro e w' ⟨rfl, rfl⟩) | (go_at_call 12; refine (nodes_any _ _).mono ?_; rintro e w' ⟨rfl, rfl⟩))
  go_ret
  exact ⟨ret_bool (by rw [nodesI_1]; rfl), rfl⟩
def sums (l : List Int) : Int := (l.map nodesI).sum
def sumss (ls : List (List Int)) : Int := (ls.map sums).sum
set_option maxHeartbeats 1000000 in
theorem checkpoint_any (A : Option Addr) (c : Nat) (hs : List Head) (ls : List (List Int)) (w : World) (hA : headE.At w A hs) (hR : IRows w hs ls) (hm : hs.length ≤ maxLen) :
    Calls Try.prog 13 #[.slice A hs.length c] w fun e w' => e = .returned (.int .i64 (wrap64 (ls.length + 1 + sumss ls))) ∧ w = w' := by
  have HA := Lib.hid hA
  have HR := Lib.hid hR
  unfold maxLen at hm
  clear hA hR
  go_enter Try.func13, Try.ntmps13
  go_wp2
  go_loopg [3, 13] hs.length (fun g s i wr => ∃ k : Nat, k ≤ hs.length ∧ g = hs.length - k ∧ i = .int .i64 k ∧ s = .int .i64 (wrap64 (hs.length + 1 + psum sums ls k)) ∧ wr = w)
  case atStart => exact ⟨0, by omega, rfl, rfl, by simp [psum_zero], rfl⟩
  case round =>
    obtain ⟨k, hk, rfl, rfl, rfl, rfl⟩ := hrel
    by_cases hlt : k < hs.length
    · obtain ⟨ad, hA, hc⟩ := head_at HA.out k hlt
      have hlen := HR.out.1
      obtain ⟨e1, e2, e3, _, e4⟩ := HR.out.2 k hs[k] (ls[k]'(by omega)) (List.getElem?_eq_getElem hlt) (List.getElem?_eq_getElem (by omega))
      have hst := psum_succ sums ls k (by omega)
      generalize hl : (ls[k]'(by omega)) = l at e1 e2 e3 e4 hst
      generalize hh : hs[k] = h at *
      obtain ⟨A', n', c'⟩ := h
      simp only at e1 e2 e3 e4
      subst e1
      subst hA
      have hb : l.length ≤ 9223372036854775807 := by unfold maxLen at e3; omega
      have HS := Lib.hid hst
      clear hst hl hh hlen e2 e3
      have hE := Lib.hid e4
      clear e4
      unfold Head.v at hc
      simp only at hc
      go_wp2
      go_loopg [3, 19] l.length (fun g s i ww => ∃ j : Nat, j ≤ l.length ∧ g = l.length - j ∧ i = .int .i64 j ∧ s = .int .i64 (wrap64 (hs.length + 1 + psum sums ls k + psum nodesI l j)) ∧ ww = wr)
      case atStart => exact ⟨0, by omega, rfl, rfl, by simp [psum_zero], rfl⟩
      case round =>
        obtain ⟨j, hj, rfl, rfl, rfl, rfl⟩ := hrel
        by_cases hjl : j < l.length
        · obtain ⟨ad', rfl, hc'⟩ := int_at hE.out j hjl
          have hst' := Lib.hid (psum_succ nodesI l j hjl)
          generalize l[j] = q at hst' hc'
          go_wp2_with (go_at_call 12; refine (nodes_any _ _).mono ?_; rintro e w' ⟨rfl, rfl⟩)
          go_roundg (l.length - (j + 1))
          case measure => omega
          case rel => exact ⟨j + 1, by omega, rfl, by go_num, by rw [hst'.out, wrap_wrap_add, Int.add_assoc], rfl⟩
        · go_wp2
          go_roundg (hs.length - (k + 1))
          case measure => omega
          case rel => exact ⟨k + 1, by omega, rfl, by go_num, by rw [HS.out, psum_all nodesI l j (by omega), Int.add_assoc]; rfl, rfl⟩
    · go_wp2
      go_ret
      have hlen := HR.out.1
      refine ⟨ret_int ?_, rfl⟩
      show wrap64 _ = _
      rw [psum_all sums ls k (by omega), hlen]; rfl
end Go.Proofs.Ytaedelhdandflaa.Need
