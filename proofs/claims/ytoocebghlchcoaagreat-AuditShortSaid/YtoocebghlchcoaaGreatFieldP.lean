/- Numbers as bytes, as data; superblocks as data. No program in sight. -/
import Derived.Test.YtoocebghlchcoaaGreatBlockP
namespace Go.Ov

/-- a number as so many bytes, the lowest first -/
def putF (n : Int) : Nat → List Int
  | 0 => []
  | w + 1 => n % 256 :: putF (n / 256) w
def getF : List Int → Int
  | [] => 0
  | b :: l => 256 * getF l + b
theorem putF_len (n : Int) (w : Nat) : (putF n w).length = w := by
  induction w generalizing n with
  | zero => rfl
  | succ w ih => simp [putF, ih]
theorem get_put (w : Nat) : ∀ (n : Int), 0 ≤ n → n < 256 ^ w → getF (putF n w) = n := by
  induction w with
  | zero => intro n h0 h1; simp at h1; simp [putF, getF]; omega
  | succ w ih =>
    intro n h0 h1
    have hp : (256 : Int) ^ (w + 1) = 256 ^ w * 256 := Int.pow_succ 256 w
    rw [putF, getF, ih (n / 256) (by omega) (by rw [hp] at h1; omega)]
    omega
/-- bytes -/
def isByte (b : Int) : Bool := decide (0 ≤ b) && decide (b < 256)
theorem put_byte (n : Int) (w : Nat) : ∀ b ∈ putF n w, isByte b = true := by
  induction w generalizing n with
  | zero => intro b h; cases h
  | succ w ih =>
    intro b h
    rcases List.mem_cons.1 h with rfl | h
    · unfold isByte; simp; omega
    · exact ih _ b h
theorem get_bd (l : List Int) (h : ∀ b ∈ l, isByte b = true) : 0 ≤ getF l ∧ getF l < 256 ^ l.length := by
  induction l with
  | nil => simp [getF]
  | cons b l ih =>
    have hb := h b (by simp)
    unfold isByte at hb
    simp only [Bool.and_eq_true, decide_eq_true_eq] at hb
    have := ih (fun b hb => h b (by simp [hb]))
    have hp : (256 : Int) ^ (l.length + 1) = 256 ^ l.length * 256 := Int.pow_succ 256 l.length
    rw [getF, List.length_cons, hp]
    omega
/-- numbers that stand one behind the other -/
def takeF (l : List Int) : List Nat → Option (List Int)
  | [] => some []
  | w :: ws => if 7 < w ∨ l.length < w then none else (takeF (l.drop w) ws).map fun r => getF (l.take w) :: r
theorem take_put (n : Int) (w : Nat) (hw : w ≤ 7) (h0 : 0 ≤ n) (h1 : n < 256 ^ w) (l : List Int) (ws : List Nat) : takeF (putF n w ++ l) (w :: ws) = (takeF l ws).map fun r => n :: r := by
  conv => lhs; unfold takeF
  rw [if_neg (by simp [putF_len]; omega), List.drop_append_of_le_length (by simp [putF_len]), List.drop_of_length_le (by simp [putF_len]), List.take_append_of_le_length (by simp [putF_len]), List.take_of_length_le (by simp [putF_len]), get_put w n h0 h1, List.nil_append]

/-! superblocks -/
structure SuperM where
  gen : Int
  life : Int
  done : Int
  root : Int
/-- what a superblock begins with -/
def wordM : List Int := [111, 118, 101, 114, 100, 117, 98, 49]
def superB (s : SuperM) (cells : Int) : List Int := wordM ++ (putF s.gen 4 ++ (putF s.life 4 ++ (putF s.done 4 ++ (putF s.root 4 ++ putF cells 4))))
def packSuper (s : SuperM) (cells : Int) : List Int := sealM (superB s cells)
def okSuper (s : SuperM) (cells : Int) : Bool :=
  decide (1 ≤ s.gen) && decide (s.gen < 2147483648) && decide (1 ≤ s.life) && decide (s.life < 2147483648) && decide (0 ≤ s.done) && decide (s.done < 2147483648) && decide (0 ≤ s.root) && decide (s.root < 4096) && decide (1 ≤ cells) && decide (cells ≤ 1024)
/-- the superblock of a sector -/
def unpackSuper (l : List Int) : Option (SuperM × Int) :=
  if whole l then
    match takeF ((l.take 124).drop 8) [4, 4, 4, 4, 4] with
    | some [a, b, c, d, e] => if okSuper ⟨a, b, c, d⟩ e && decide (packSuper ⟨a, b, c, d⟩ e = l) then some (⟨a, b, c, d⟩, e) else none
    | _ => none
  else none
theorem superB_len (s : SuperM) (cells : Int) : (superB s cells).length = 28 := by simp [superB, wordM, putF_len]
theorem super_back (s : SuperM) (cells : Int) (h : okSuper s cells = true) : unpackSuper (packSuper s cells) = some (s, cells) := by
  have h' := h
  unfold okSuper at h'
  simp only [Bool.and_eq_true, decide_eq_true_eq] at h'
  obtain ⟨⟨⟨⟨⟨⟨⟨⟨⟨a1, a2⟩, a3⟩, a4⟩, a5⟩, a6⟩, a7⟩, a8⟩, a9⟩, a10⟩ := h'
  have hl := superB_len s cells
  unfold unpackSuper packSuper
  rw [if_pos (seal_whole (by omega)), seal_take (by omega)]
  have e : (padB (superB s cells)).drop 8 = putF s.gen 4 ++ (putF s.life 4 ++ (putF s.done 4 ++ (putF s.root 4 ++ (putF cells 4 ++ List.replicate (124 - 28) 0)))) := by
    unfold padB
    rw [hl]
    unfold superB
    rw [List.append_assoc, List.drop_append_of_le_length (by simp [wordM]), List.drop_of_length_le (by simp [wordM]), List.nil_append]
    simp only [List.append_assoc]
  rw [e, take_put _ 4 (by decide) (by omega) (by omega), take_put _ 4 (by decide) (by omega) (by omega), take_put _ 4 (by decide) (by omega) (by omega), take_put _ 4 (by decide) (by omega) (by omega), take_put _ 4 (by decide) (by omega) (by omega)]
  simp only [takeF, Option.map_some]
  rw [if_pos]
  simp [h]
end Go.Ov
