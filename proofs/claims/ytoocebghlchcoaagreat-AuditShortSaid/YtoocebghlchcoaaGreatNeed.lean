/- Contracts of overdubkeep.Within, need.Nodes, need.Blocks, need.Checkpoint, overdublaw24.wakes. -/
import Derived.Test.YtoocebghlchcoaaGreatProg
import Derived.Test.YtoocebghlchcoaaGreatLib
namespace Go.Proofs.YtoocebghlchcoaaGreat.Need
open Go.RowKit Go.Ov

set_option maxHeartbeats 400000 in
theorem within_any (v n : Int) (w : World) (hn : n ≤ 9223372036854775807) :
    Calls Tryz.prog 7 #[.int .i64 v, .int .i64 n] w fun e w' => e = .returned (.int .i64 (within v n)) ∧ w = w' := by
  go_enter Tryz.func7, Tryz.ntmps7
  go_wp2
  all_goals go_ret
  all_goals refine ⟨ret_int ?_, rfl⟩
  · rename_i h; unfold within; rw [if_pos h]
  · rename_i h1 h
    have := Int.emod_nonneg v (show n ≠ 0 by omega)
    have := Int.emod_lt_of_pos v (show 0 < n by omega)
    have e := tmod_lt0 v n h1 h
    unfold within; rw [if_neg (by omega)]
    show wrap64 (v.tmod n + n) = _
    rw [e]; unfold wrap64; omega
  · rename_i h1 h
    unfold within; rw [if_neg (by omega)]; exact tmod_ge0 v n h1 h

def nodes (n : Nat) : Nat := if n = 0 then 0 else if n < 8 then 1 else n / 4 + nodes (n / 4)
  termination_by n
  decreasing_by omega
def nodesI (x : Int) : Int := nodes (min x 1048576).toNat

theorem nodes_le (n : Nat) : nodes n ≤ n := by
  induction n using Nat.strongRecOn with
  | _ n ih =>
    unfold nodes
    split
    · omega
    · split
      · omega
      · have := ih (n / 4) (by omega); omega
theorem nodes_pos (n : Nat) (h : 0 < n) : 1 ≤ nodes n := by
  unfold nodes
  split
  · omega
  · split <;> omega
theorem nodes_mono (n m : Nat) (h : n ≤ m) : nodes n ≤ nodes m := by
  induction m using Nat.strongRecOn generalizing n with
  | _ m ih =>
    by_cases h0 : n = 0
    · subst h0; unfold nodes; rw [if_pos rfl]; exact Nat.zero_le _
    · by_cases h8 : n < 8
      · have := nodes_pos m (by omega)
        have e : nodes n = 1 := by unfold nodes; rw [if_neg h0, if_pos h8]
        omega
      · have := ih (m / 4) (by omega) (n / 4) (by omega)
        unfold nodes
        rw [if_neg h0, if_neg h8, if_neg (by omega), if_neg (by omega)]
        omega

def blocks (n : Int) : Int := if n ≤ 0 then 0 else (n - 1) / 40 + 1
theorem nodesI_1 : nodesI 1 = 1 := by unfold nodesI nodes; rfl
def sums (l : List Int) : Int := (l.map nodesI).sum
def sumss (ls : List (List Int)) : Int := (ls.map sums).sum
end Go.Proofs.YtoocebghlchcoaaGreat.Need
