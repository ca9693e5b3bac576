/- Blocks as data: a frame in a sector, its sum behind it; it opens to its samples. No program in sight. -/
import Derived.Test.YtoocebghlchcoaaGreatFrameP
import Derived.Test.YtoocebghlchcoaaGreatCrcP
namespace Go.Ov

def padB (l : List Int) : List Int := l ++ List.replicate (124 - l.length) 0
/-- bytes and the sum behind them -/
def sealM (l : List Int) : List Int := padB l ++ sum4 (padB l)
/-- what is ahead of a right sum -/
def whole (l : List Int) : Bool := decide (l.length = 128) && decide (sum4 (l.take 124) = l.drop 124)
def openM (l : List Int) : Option (List Int) := if whole l then decM (unpackB (l.take 124)) else none
/-- a sector of samples -/
def BlockOf (x s : List Int) : Prop := ∃ bs, FrameOf x bs ∧ (packB bs).length ≤ 124 ∧ s = sealM (packB bs)
theorem padB_len {l : List Int} (h : l.length ≤ 124) : (padB l).length = 124 := by simp [padB]; omega
theorem seal_len {l : List Int} (h : l.length ≤ 124) : (sealM l).length = 128 := by simp [sealM, padB_len h, sum4]
theorem seal_take {l : List Int} (h : l.length ≤ 124) : (sealM l).take 124 = padB l := by
  unfold sealM
  rw [List.take_append_of_le_length (by rw [padB_len h]; omega), List.take_of_length_le (by rw [padB_len h]; omega)]
theorem seal_drop {l : List Int} (h : l.length ≤ 124) : (sealM l).drop 124 = sum4 (padB l) := by
  unfold sealM
  rw [List.drop_append_of_le_length (by rw [padB_len h]; omega), List.drop_of_length_le (by rw [padB_len h]; omega), List.nil_append]
theorem seal_whole {l : List Int} (h : l.length ≤ 124) : whole (sealM l) = true := by
  unfold whole
  rw [seal_len h, seal_take h, seal_drop h]
  simp
theorem unpack_zeros (l : List Int) (n : Nat) : unpackB (l ++ List.replicate n 0) = unpackB l ++ List.replicate (8 * n) false := by
  apply List.ext_getElem
  · simp [unpackB_len]; omega
  · intro k h1 h2
    simp only [unpackB, List.getElem_map, List.getElem_range]
    by_cases hk : k < 8 * l.length
    · rw [List.getElem_append_left (by simp [hk])]
      simp only [List.getElem_map, List.getElem_range]
      unfold digitAt
      rw [List.getD_eq_getElem?_getD, List.getD_eq_getElem?_getD, List.getElem?_append_left (by omega)]
    · rw [List.getElem_append_right (by simp; omega)]
      simp only [List.getElem_replicate]
      unfold digitAt
      rw [List.getD_eq_getElem?_getD, List.getElem?_append_right (by omega)]
      have : ((List.replicate n (0 : Int))[k / 8 - l.length]?).getD 0 = 0 := by
        rw [List.getElem?_replicate]; split <;> rfl
      rw [this]
      simp
theorem block_opens {x s : List Int} (hx : okX x = true) (h : BlockOf x s) : openM s = some x := by
  obtain ⟨bs, hf, hl, rfl⟩ := h
  unfold openM
  rw [if_pos (seal_whole hl), seal_take hl]
  unfold padB
  rw [unpack_zeros, unpack_pack, List.append_assoc, List.replicate_append_replicate]
  exact frame_back hx hf _
/-- a frame is never longer than its samples plainly -/
def verbLen (n : Nat) : Nat := 16 + 24 * n
theorem verb_len (x : List Int) : (numB 1 8 ++ numB x.length 8 ++ smpB x).length = verbLen x.length := by
  have : ∀ x : List Int, (smpB x).length = 24 * x.length := by
    intro x
    induction x with
    | nil => rfl
    | cons v x ih =>
      unfold smpB at ih ⊢
      rw [List.flatMap_cons, List.length_append, numB_len, ih, List.length_cons]; omega
  rw [List.length_append, List.length_append, numB_len, numB_len, this]
  unfold verbLen; omega
/-- blocks that samples need at most -/
def blocksM (n : Nat) : Nat := (n + 39) / 40
theorem blocks_step (n m k : Nat) (hm : m ≤ n) (h : 40 ≤ m ∨ m = n) (hn : 0 < n) (hk : k ≤ blocksM (n - m)) : k + 1 ≤ blocksM n := by
  unfold blocksM at *
  omega
end Go.Ov
