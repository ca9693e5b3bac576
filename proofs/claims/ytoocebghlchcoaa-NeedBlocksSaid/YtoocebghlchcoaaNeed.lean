/- Contracts of overdubkeep.Within, need.Nodes, need.Blocks, need.Checkpoint, overdublaw24.wakes. -/
import Derived.Test.YtoocebghlchcoaaProg
import Derived.Test.YtoocebghlchcoaaLib
namespace Go.Proofs.Ytoocebghlchcoaa.Need
open Go.RowKit Go.Ov

set_option maxHeartbeats 400000 in
theorem within_any (v n : Int) (w : World) (hn : n ≤ 9223372036854775807) :
    Calls Try.prog 7 #[.int .i64 v, .int .i64 n] w fun e w' => e = .returned (.int .i64 (within v n)) ∧ w = w' := by
  go_enter Try.func7, Try.ntmps7
  go_wp2
  all_goals go_ret
  all_goals refine ⟨ret_int ?_, rfl⟩
  · rename_i h; unfold within; rw [if_pos h]
  · rename_i h1 h
    have := Int.emod_nonneg v (show n ≠ 0 by omega)
    have := Int.emod_lt_of_pos v (show 0 < n by omega)
    have e := tmod_lt0 v n h1 h
    unfold within; rw [if_neg (by omega)]
    show wrap64 (v.tmod n + n) = _
    rw [e]; unfold wrap64; omega
  · rename_i h1 h
    unfold within; rw [if_neg (by omega)]; exact tmod_ge0 v n h1 h

def nodes (n : Nat) : Nat := if n = 0 then 0 else if n < 8 then 1 else n / 4 + nodes (n / 4)
  termination_by n
  decreasing_by omega
def nodesI (x : Int) : Int := nodes (min x 1048576).toNat

theorem nodes_le (n : Nat) : nodes n ≤ n := by
  induction n using Nat.strongRecOn with
  | _ n ih =>
    unfold nodes
    split
    · omega
    · split
      · omega
      · have := ih (n / 4) (by omega); omega
theorem nodes_pos (n : Nat) (h : 0 < n) : 1 ≤ nodes n := by
  unfold nodes
  split
  · omega
  · split <;> omega
theorem nodes_mono (n m : Nat) (h : n ≤ m) : nodes n ≤ nodes m := by
  induction m using Nat.strongRecOn generalizing n with
  | _ m ih =>
    by_cases h0 : n = 0
    · subst h0; unfold nodes; rw [if_pos rfl]; exact Nat.zero_le _
    · by_cases h8 : n < 8
      · have := nodes_pos m (by omega)
        have e : nodes n = 1 := by unfold nodes; rw [if_neg h0, if_pos h8]
        omega
      · have := ih (m / 4) (by omega) (n / 4) (by omega)
        unfold nodes
        rw [if_neg h0, if_neg h8, if_neg (by omega), if_neg (by omega)]
        omega

set_option maxHeartbeats 400000 in
theorem nodes_any (x : Int) (w : World) :
    Calls Try.prog 13 #[.int .i64 x] w fun e w' => e = .returned (.int .i64 (nodesI x)) ∧ w = w' := by
  generalize hm : (min x 1048576).toNat = m
  induction m using Nat.strongRecOn generalizing x w with
  | _ m ih =>
    have IH : ∀ y : Int, (min y 1048576).toNat < m → ∀ w, Calls Try.prog 13 #[.int .i64 y] w fun e w' => e = .returned (.int .i64 (nodesI y)) ∧ w = w' := fun y hy w => ih _ hy y w rfl
    have HIH := Lib.hid IH
    have HM := Lib.hid hm
    clear ih IH hm
    go_enter Try.func13, Try.ntmps13
    go_wp2_with fail
    · rename_i h0 h1; go_ret
      refine ⟨ret_int ?_, rfl⟩
      show (0 : Int) = _
      unfold nodesI nodes; rw [if_pos (by omega)]; rfl
    · rename_i h0 h1 h2; go_ret
      refine ⟨ret_int ?_, rfl⟩
      show (1 : Int) = _
      unfold nodesI nodes; rw [if_neg (by omega), if_pos (by omega)]; rfl
    · rename_i h
      have hm := HM.out
      refine (HIH.out _ (by omega) _).mono ?_
      rintro e w' ⟨rfl, rfl⟩
      go_wp2
      go_ret
      refine ⟨ret_int ?_, rfl⟩
      have e : nodesI x = 262144 + nodesI 262144 := by
        unfold nodesI
        rw [show (min x 1048576).toNat = 1048576 by omega, show (min (262144 : Int) 1048576).toNat = 262144 by omega]
        conv => lhs; unfold nodes
        simp
      have := nodes_le (min (262144:Int) 1048576).toNat
      have : nodesI 262144 = (nodes (min (262144:Int) 1048576).toNat : Int) := rfl
      show wrap64 _ = _
      rw [e]; unfold wrap64; omega
    · rename_i h0 h1 h
      have hm := HM.out
      refine (HIH.out _ (by omega) _).mono ?_
      rintro e w' ⟨rfl, rfl⟩
      go_wp2
      go_ret
      refine ⟨ret_int ?_, rfl⟩
      have e : nodesI x = x / 4 + nodesI (x / 4) := by
        unfold nodesI
        rw [show (min (x / 4) 1048576).toNat = (min x 1048576).toNat / 4 by omega]
        conv => lhs; unfold nodes
        rw [if_neg (by omega), if_neg (by omega)]; push_cast; omega
      have := nodes_le (min (x / 4) 1048576).toNat
      have : nodesI (x / 4) = (nodes (min (x / 4) 1048576).toNat : Int) := rfl
      show wrap64 _ = _
      rw [e]; unfold wrap64; omega


def blocks (n : Int) : Int := if n ≤ 0 then 0 else (n - 1) / 40 + 1
set_option maxHeartbeats 400000 in
theorem blocks_any (n : Int) (w : World) (hn : n ≤ 9223372036854775807) :
    Calls Try.prog 8 #[.int .i64 n] w fun e w' => e = .returned (.int .i64 (blocks n)) ∧ w = w' := by
  go_enter Try.func8, Try.ntmps8
  go_wp2
  all_goals go_ret
  all_goals refine ⟨ret_int ?_, rfl⟩
  · rename_i h; unfold blocks; rw [if_pos h]
  · rename_i h; unfold blocks; rw [if_neg (by omega)]
theorem nodesI_1 : nodesI 1 = 1 := by unfold nodesI nodes; rfl
set_option maxHeartbeats 400000 in
theorem wakes_any (w : World) : Calls Try.prog 9 #[] w fun e w' => e = .returned (.bool true) ∧ w = w' := by
  go_enter Try.func9, Try.ntmps9
  go_wp2_with (first | (go_at_call 8; refine (blocks_any _ _ (by decide)).mono ?_; rintro e w' ⟨rfl, rfl⟩) | (go_at_call 13; refine (nodes_any _ _).mono ?_; rintro e w' ⟨rfl, rfl⟩))
  go_ret
  exact ⟨ret_bool (by rw [nodesI_1]; rfl), rfl⟩
def sums (l : List Int) : Int := (l.map nodesI).sum
def sumss (ls : List (List Int)) : Int := (ls.map sums).sum
end Go.Proofs.Ytoocebghlchcoaa.Need
