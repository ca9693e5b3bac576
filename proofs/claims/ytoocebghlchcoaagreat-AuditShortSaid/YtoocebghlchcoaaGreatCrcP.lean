/- The checksum as data: digit by digit, and by a table. No program in sight. -/
namespace Go.Ov

def polyC : BitVec 32 := 0x04C11DB7
def step1 (s : BitVec 32) : BitVec 32 := if s.msb then (s <<< 1) ^^^ polyC else s <<< 1
def stepC : Nat → BitVec 32 → BitVec 32
  | 0, s => s
  | n + 1, s => stepC n (step1 s)
theorem step1_lin (a b : BitVec 32) : step1 (a ^^^ b) = step1 a ^^^ step1 b := by
  unfold step1
  rw [BitVec.msb_xor, BitVec.shiftLeft_xor_distrib]
  cases a.msb <;> cases b.msb
  · simp
  · simp [BitVec.xor_assoc]
  · simp [BitVec.xor_assoc, BitVec.xor_comm (b <<< 1) polyC]
  · simp only [Bool.xor_self, Bool.false_eq_true, if_false, if_true]
    rw [BitVec.xor_assoc, ← BitVec.xor_assoc polyC, BitVec.xor_comm polyC (b <<< 1), BitVec.xor_assoc (b <<< 1), BitVec.xor_self, BitVec.xor_zero]
theorem stepC_lin (n : Nat) (a b : BitVec 32) : stepC n (a ^^^ b) = stepC n a ^^^ stepC n b := by
  induction n generalizing a b with
  | zero => rfl
  | succ n ih => unfold stepC; rw [step1_lin, ih]
theorem stepC_low (n : Nat) (s : BitVec 32) (h : ∀ k, 32 ≤ k + n → s.getLsbD k = false) : stepC n s = s <<< n := by
  induction n generalizing s with
  | zero => simp [stepC]
  | succ n ih =>
    unfold stepC
    have hm : s.msb = false := by rw [BitVec.msb_eq_getLsbD_last]; exact h 31 (by omega)
    unfold step1
    rw [hm, if_neg (by decide), ih]
    · rw [← BitVec.shiftLeft_add, Nat.add_comm]
    · intro k hk
      rw [BitVec.getLsbD_shiftLeft]
      cases k with
      | zero => simp
      | succ k => simp [h k (by omega)]
def lowC (s : BitVec 32) : BitVec 32 := s &&& 0x00FFFFFF
theorem low_bit (s : BitVec 32) (k : Nat) (hk : 24 ≤ k) : (lowC s).getLsbD k = false := by
  unfold lowC
  rw [BitVec.getLsbD_and]
  have : (0x00FFFFFF : BitVec 32).getLsbD k = false := by
    by_cases h : k < 32
    · have : ∀ j : Fin 32, 24 ≤ j.1 → (0x00FFFFFF : BitVec 32).getLsbD j.1 = false := by decide
      exact this ⟨k, h⟩ hk
    · exact BitVec.getLsbD_of_ge _ _ (by omega)
  rw [this, Bool.and_false]
theorem split_low (s : BitVec 32) : s = ((s >>> 24) <<< 24) ^^^ lowC s := by
  apply BitVec.eq_of_getLsbD_eq
  intro k hk
  rw [BitVec.getLsbD_xor, BitVec.getLsbD_shiftLeft, BitVec.getLsbD_ushiftRight]
  by_cases h : k < 24
  · have : (lowC s).getLsbD k = s.getLsbD k := by
      unfold lowC
      rw [BitVec.getLsbD_and]
      have : ∀ j : Fin 24, (0x00FFFFFF : BitVec 32).getLsbD j.1 = true := by decide
      rw [this ⟨k, h⟩, Bool.and_true]
    rw [this]; simp [h]
  · rw [low_bit s k (by omega)]
    have : 24 + (k - 24) = k := by omega
    simp [h, hk, this]
/-- a byte more, by the table, is a byte more, digit by digit -/
theorem crc_table (s c : BitVec 32) : (s <<< 8) ^^^ stepC 8 (((s >>> 24) ^^^ c) <<< 24) = stepC 8 (s ^^^ (c <<< 24)) := by
  have hl : stepC 8 (lowC s) = s <<< 8 := by
    rw [stepC_low 8 (lowC s) (fun k hk => low_bit s k (by omega))]
    conv => rhs; rw [split_low s, BitVec.shiftLeft_xor_distrib, ← BitVec.shiftLeft_add]
    have : (s >>> 24) <<< (24 + 8) = 0#32 := BitVec.shiftLeft_eq_zero (by decide)
    rw [this, BitVec.zero_xor]
  have h1 : s ^^^ (c <<< 24) = (((s >>> 24) ^^^ c) <<< 24) ^^^ lowC s := by
    conv => lhs; rw [split_low s]
    rw [BitVec.shiftLeft_xor_distrib, BitVec.xor_assoc, BitVec.xor_comm (lowC s), BitVec.xor_assoc]
  rw [h1, stepC_lin, hl, BitVec.xor_comm]
/-- bytes -/
def okB (l : List Int) : Prop := ∀ c ∈ l, 0 ≤ c ∧ c < 256
/-- the checksum of bytes -/
def crcAdd (s : BitVec 32) (l : List Int) : BitVec 32 := l.foldl (fun s c => stepC 8 (s ^^^ (BitVec.ofNat 32 c.toNat <<< 24))) s
def crcSum (l : List Int) : BitVec 32 := crcAdd 0xFFFFFFFF l
/-- .. as four bytes, the greatest first -/
def sum4 (l : List Int) : List Int := [((crcSum l).toNat / 16777216 : Nat), ((crcSum l).toNat / 65536 % 256 : Nat), ((crcSum l).toNat / 256 % 256 : Nat), ((crcSum l).toNat % 256 : Nat)]
end Go.Ov
