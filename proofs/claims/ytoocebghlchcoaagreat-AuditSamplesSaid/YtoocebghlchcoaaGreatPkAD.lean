/- Several texts joined (see each one's head). -/
import Derived.Test.YtoocebghlchcoaaGreatPkAC
/- Binary digits as data: in bytes, numbers in digits. No program in sight. -/
namespace Go.Ov

def bv (b : Bool) : Nat := if b then 1 else 0
/-- the i-th byte of digits -/
def byteAt (bs : List Bool) (i : Nat) : Nat :=
  128 * bv (bs.getD (8 * i) false) + 64 * bv (bs.getD (8 * i + 1) false) + 32 * bv (bs.getD (8 * i + 2) false) + 16 * bv (bs.getD (8 * i + 3) false) +
  8 * bv (bs.getD (8 * i + 4) false) + 4 * bv (bs.getD (8 * i + 5) false) + 2 * bv (bs.getD (8 * i + 6) false) + bv (bs.getD (8 * i + 7) false)
theorem bv_le (b : Bool) : bv b ≤ 1 := by cases b <;> decide
theorem byteAt_lt (bs : List Bool) (i : Nat) : byteAt bs i < 256 := by
  unfold byteAt
  have := bv_le (bs.getD (8 * i) false)
  have := bv_le (bs.getD (8 * i + 1) false)
  have := bv_le (bs.getD (8 * i + 2) false)
  have := bv_le (bs.getD (8 * i + 3) false)
  have := bv_le (bs.getD (8 * i + 4) false)
  have := bv_le (bs.getD (8 * i + 5) false)
  have := bv_le (bs.getD (8 * i + 6) false)
  have := bv_le (bs.getD (8 * i + 7) false)
  omega
/-- digits as bytes -/
def packB (bs : List Bool) : List Int := (List.range ((bs.length + 7) / 8)).map fun i => (byteAt bs i : Int)
theorem packB_len (bs : List Bool) : (packB bs).length = (bs.length + 7) / 8 := by simp [packB]
theorem packB_nil : packB [] = [] := rfl
theorem packB_at (bs : List Bool) (i : Nat) (h : i < (packB bs).length) : (packB bs)[i] = (byteAt bs i : Int) := by simp [packB]
/-- bytes as digits -/
def digitAt (l : List Int) (k : Nat) : Bool := decide (l.getD (k / 8) 0 / 2 ^ (7 - k % 8) % 2 = 1)
def unpackB (l : List Int) : List Bool := (List.range (8 * l.length)).map (digitAt l)
theorem unpackB_len (l : List Int) : (unpackB l).length = 8 * l.length := by simp [unpackB]
theorem digit8 (a b c d e f g h : Bool) (j : Nat) (hj : j < 8) : decide (((128 * bv a + 64 * bv b + 32 * bv c + 16 * bv d + 8 * bv e + 4 * bv f + 2 * bv g + bv h : Nat) : Int) / 2 ^ (7 - j) % 2 = 1) = [a, b, c, d, e, f, g, h].getD j false := by
  have : ∀ j : Fin 8, ∀ a b c d e f g h : Bool, decide (((128 * bv a + 64 * bv b + 32 * bv c + 16 * bv d + 8 * bv e + 4 * bv f + 2 * bv g + bv h : Nat) : Int) / 2 ^ (7 - j.1) % 2 = 1) = [a, b, c, d, e, f, g, h].getD j.1 false := by decide +kernel
  exact this ⟨j, hj⟩ a b c d e f g h
theorem digit_byte (bs : List Bool) (i j : Nat) (hj : j < 8) : decide ((byteAt bs i : Int) / 2 ^ (7 - j) % 2 = 1) = bs.getD (8 * i + j) false := by
  unfold byteAt
  rw [digit8 _ _ _ _ _ _ _ _ j hj]
  rcases (show j = 0 ∨ j = 1 ∨ j = 2 ∨ j = 3 ∨ j = 4 ∨ j = 5 ∨ j = 6 ∨ j = 7 by omega) with rfl | rfl | rfl | rfl | rfl | rfl | rfl | rfl <;> rfl
theorem getD_append (bs : List Bool) (b : Bool) (k : Nat) : (bs ++ [b]).getD k false = if k = bs.length then b else bs.getD k false := by
  rw [List.getD_eq_getElem?_getD, List.getD_eq_getElem?_getD]
  by_cases h : k < bs.length
  · rw [List.getElem?_append_left h, if_neg (by omega)]
  · rw [List.getElem?_append_right (by omega)]
    by_cases h2 : k = bs.length
    · subst h2; simp
    · rw [if_neg h2, List.getElem?_eq_none (by simp; omega), List.getElem?_eq_none (by omega)]
theorem getD_out (bs : List Bool) (k : Nat) (h : bs.length ≤ k) : bs.getD k false = false := by
  rw [List.getD_eq_getElem?_getD, List.getElem?_eq_none h]; rfl
/-- one digit more: what its byte is -/
theorem byteAt_snoc (bs : List Bool) (b : Bool) (i : Nat) : byteAt (bs ++ [b]) i = if i = bs.length / 8 then byteAt bs i + bv b * 2 ^ (7 - bs.length % 8) else byteAt bs i := by
  unfold byteAt
  simp only [getD_append]
  by_cases hi : i = bs.length / 8
  · rw [if_pos hi]
    obtain ⟨r, hr, hn⟩ : ∃ r, r < 8 ∧ bs.length = 8 * i + r := ⟨bs.length % 8, by omega, by omega⟩
    have hm : bs.length % 8 = r := by omega
    have hz := getD_out bs bs.length (Nat.le_refl _)
    rw [hm]
    rw [hn] at hz ⊢
    have ht : bv true = 1 := rfl
    have hf : bv false = 0 := rfl
    clear hm hi
    rcases (show r = 0 ∨ r = 1 ∨ r = 2 ∨ r = 3 ∨ r = 4 ∨ r = 5 ∨ r = 6 ∨ r = 7 by omega) with rfl | rfl | rfl | rfl | rfl | rfl | rfl | rfl
    all_goals
      try rw [Nat.add_zero] at hz
      generalize bs.getD (8 * i) false = x0 at *
      generalize bs.getD (8 * i + 1) false = x1 at *
      generalize bs.getD (8 * i + 2) false = x2 at *
      generalize bs.getD (8 * i + 3) false = x3 at *
      generalize bs.getD (8 * i + 4) false = x4 at *
      generalize bs.getD (8 * i + 5) false = x5 at *
      generalize bs.getD (8 * i + 6) false = x6 at *
      generalize bs.getD (8 * i + 7) false = x7 at *
      subst hz
      cases b <;> simp [ht, hf] <;> omega
  · rw [if_neg hi]
    have hne : ∀ j, j < 8 → ¬ 8 * i + j = bs.length := fun j hj h => hi (by omega)
    rw [if_neg (show ¬ 8 * i = bs.length from hne 0 (by omega)), if_neg (hne 1 (by omega)), if_neg (hne 2 (by omega)), if_neg (hne 3 (by omega)), if_neg (hne 4 (by omega)), if_neg (hne 5 (by omega)), if_neg (hne 6 (by omega)), if_neg (hne 7 (by omega))]
theorem packB_snoc_new (bs : List Bool) (b : Bool) (h : bs.length % 8 = 0) : packB (bs ++ [b]) = packB bs ++ [((bv b * 128 : Nat) : Int)] := by
  apply List.ext_getElem
  · simp [packB_len]; omega
  · intro i h1 h2
    rw [packB_at, byteAt_snoc]
    by_cases hi : i < (packB bs).length
    · rw [List.getElem_append_left hi, packB_at, if_neg (by rw [packB_len] at hi; omega)]
    · have hl := packB_len bs
      rw [packB_len, List.length_append, List.length_singleton] at h1
      have : i = bs.length / 8 := by omega
      rw [List.getElem_append_right (by omega), if_pos this, h]
      have hb : byteAt bs i = 0 := by
        unfold byteAt
        rw [getD_out bs (8 * i) (by omega), getD_out bs (8 * i + 1) (by omega), getD_out bs (8 * i + 2) (by omega), getD_out bs (8 * i + 3) (by omega), getD_out bs (8 * i + 4) (by omega), getD_out bs (8 * i + 5) (by omega), getD_out bs (8 * i + 6) (by omega), getD_out bs (8 * i + 7) (by omega)]
        rfl
      rw [hb]
      simp
theorem packB_snoc_old (bs : List Bool) (b : Bool) (h : bs.length % 8 ≠ 0) (hl : bs.length / 8 < (packB bs).length) : packB (bs ++ [b]) = (packB bs).set (bs.length / 8) ((packB bs)[bs.length / 8] + ((bv b * 2 ^ (7 - bs.length % 8) : Nat) : Int)) := by
  apply List.ext_getElem
  · simp [packB_len]; omega
  · intro i h1 h2
    rw [packB_at, byteAt_snoc, List.getElem_set]
    by_cases hi : i = bs.length / 8
    · subst hi
      rw [if_pos rfl, if_pos rfl, packB_at]
      omega
    · rw [if_neg hi, if_neg (fun e => hi e.symm), packB_at]
/-- the bit that is to be set is not set yet -/
theorem byteAt_low (bs : List Bool) : (byteAt bs (bs.length / 8)) % 2 ^ (8 - bs.length % 8) = 0 := by
  obtain ⟨r, hr, hn⟩ : ∃ r, r < 8 ∧ bs.length = 8 * (bs.length / 8) + r := ⟨bs.length % 8, by omega, by omega⟩
  have hm : bs.length % 8 = r := by omega
  have hz : ∀ j, r ≤ j → bs.getD (8 * (bs.length / 8) + j) false = false := fun j hj => getD_out bs _ (by omega)
  rw [hm]
  unfold byteAt
  have e0 := hz 0; have e1 := hz 1; have e2 := hz 2; have e3 := hz 3; have e4 := hz 4; have e5 := hz 5; have e6 := hz 6; have e7 := hz 7
  rw [Nat.add_zero] at e0
  rcases (show r = 0 ∨ r = 1 ∨ r = 2 ∨ r = 3 ∨ r = 4 ∨ r = 5 ∨ r = 6 ∨ r = 7 by omega) with rfl | rfl | rfl | rfl | rfl | rfl | rfl | rfl <;>
    simp (config := { decide := true }) only [e0, e1, e2, e3, e4, e5, e6, e7, bv, Nat.sub_zero] <;> simp <;> omega
theorem unpack_pack (bs : List Bool) : unpackB (packB bs) = bs ++ List.replicate (8 * ((bs.length + 7) / 8) - bs.length) false := by
  apply List.ext_getElem
  · simp [unpackB_len, packB_len]; omega
  · intro k h1 h2
    have hk : k < 8 * ((bs.length + 7) / 8) := by rw [unpackB_len, packB_len] at h1; exact h1
    have e : (unpackB (packB bs))[k] = bs.getD k false := by
      simp only [unpackB, List.getElem_map, List.getElem_range]
      unfold digitAt
      have hi : k / 8 < (packB bs).length := by rw [packB_len]; omega
      rw [List.getD_eq_getElem?_getD, List.getElem?_eq_getElem hi, Option.getD_some, packB_at, digit_byte bs (k / 8) (k % 8) (by omega)]
      congr 1; omega
    rw [e, List.getD_eq_getElem?_getD]
    by_cases hb : k < bs.length
    · rw [List.getElem?_eq_getElem hb, List.getElem_append_left hb]; rfl
    · rw [List.getElem?_eq_none (by omega), List.getElem_append_right (by omega)]; simp

/-- the lowest n digits of a number, the greatest first -/
def numB (v : Int) : Nat → List Bool
  | 0 => []
  | n + 1 => decide (v / 2 ^ n % 2 = 1) :: numB v n
theorem numB_len (v : Int) : ∀ n, (numB v n).length = n
  | 0 => rfl
  | n + 1 => by simp [numB, numB_len v n]
/-- the number of digits -/
def valB (bs : List Bool) : Nat := bs.foldl (fun a b => 2 * a + bv b) 0
theorem valB_fold (bs : List Bool) (a : Nat) : bs.foldl (fun a b => 2 * a + bv b) a = a * 2 ^ bs.length + valB bs := by
  induction bs generalizing a with
  | nil => simp [valB]
  | cons b bs ih =>
    unfold valB
    rw [List.foldl_cons, List.foldl_cons, ih, ih (2 * 0 + bv b), List.length_cons, Nat.pow_succ]
    have : (2 * a + bv b) * 2 ^ bs.length = a * (2 ^ bs.length * 2) + bv b * 2 ^ bs.length := by
      rw [Nat.add_mul, Nat.mul_comm 2 a, Nat.mul_assoc, Nat.mul_comm 2]
    rw [this]
    simp only [Nat.mul_zero, Nat.zero_add]
    omega
theorem valB_cons (b : Bool) (bs : List Bool) : valB (b :: bs) = bv b * 2 ^ bs.length + valB bs := by
  unfold valB
  rw [List.foldl_cons, valB_fold]
  simp [valB]
theorem valB_lt (bs : List Bool) : valB bs < 2 ^ bs.length := by
  induction bs with
  | nil => simp [valB]
  | cons b bs ih =>
    rw [valB_cons, List.length_cons, Nat.pow_succ]
    cases b <;> simp [bv] <;> omega
theorem emod_two (v P : Int) (hP : 0 < P) : v % (P * 2) = v % P + P * (v / P % 2) := by
  have e1 := Int.emod_add_mul_ediv v P
  have e2 := Int.emod_add_mul_ediv (v / P) 2
  have h2 := Int.emod_nonneg (v / P) (show (2 : Int) ≠ 0 by decide)
  have h3 := Int.emod_lt_of_pos (v / P) (show (0 : Int) < 2 by decide)
  have h4 := Int.emod_nonneg v (show P ≠ 0 by omega)
  have h5 := Int.emod_lt_of_pos v hP
  have e3 : v = (v % P + P * (v / P % 2)) + P * 2 * (v / P / 2) := by
    have : P * (v / P) = P * (v / P % 2) + P * 2 * (v / P / 2) := by rw [Int.mul_assoc, ← Int.mul_add, e2]
    omega
  have h6 : P * (v / P % 2) = 0 ∨ P * (v / P % 2) = P := by
    rcases (show v / P % 2 = 0 ∨ v / P % 2 = 1 by omega) with e | e <;> rw [e] <;> simp
  rw [e3, Int.add_mul_emod_self_left, ← e3]
  exact Int.emod_eq_of_lt (by omega) (by omega)
theorem valB_num (v : Int) : ∀ n, (valB (numB v n) : Int) = v % 2 ^ n
  | 0 => by simp [numB, valB]
  | n + 1 => by
    rw [numB, valB_cons, numB_len, Int.natCast_add, valB_num v n]
    have hp : (2 : Int) ^ (n + 1) = 2 ^ n * 2 := Int.pow_succ 2 n
    have hpos : (0 : Int) < 2 ^ n := Int.pow_pos (by decide)
    have h1 : v % (2 ^ n * 2) = v % 2 ^ n + 2 ^ n * (v / 2 ^ n % 2) := emod_two v _ hpos
    rw [hp, h1]
    have h2 := Int.emod_nonneg (v / 2 ^ n) (show (2 : Int) ≠ 0 by decide)
    have h3 := Int.emod_lt_of_pos (v / 2 ^ n) (show (0 : Int) < 2 by decide)
    by_cases h : v / 2 ^ n % 2 = 1
    · rw [h, decide_eq_true rfl]; simp [bv]; omega
    · have h0 : v / 2 ^ n % 2 = 0 := by omega
      rw [h0]; simp [bv]
end Go.Ov

/- A writer of digits, as data: how it lies, and what stays when it is written. No program in sight. -/
namespace Go.Ov
open Go.RowKit
def byteE : Enc Int := ⟨1, fun x => [.int .u8 x], fun _ => rfl, fun x u h => by simp at h; subst h; rfl⟩
theorem byte_flat (xs : List Int) : xs.flatMap byteE.c = xs.map (Value.int .u8) := by
  induction xs with
  | nil => rfl
  | cons x xs ih => rw [List.flatMap_cons, ih]; rfl
theorem byte_at {w : World} {A : Option Addr} {xs : List Int} (h : byteE.At w A xs) (k : Nat) (hk : k < xs.length) : ∃ ad, A = some ad ∧ w.cell? (ad.add k) = some (.int .u8 xs[k]) := by
  obtain ⟨ad, e, hc⟩ := h k _ (List.getElem?_eq_getElem hk)
  refine ⟨ad, e, ?_⟩
  have := hc 0 _ rfl
  simpa [byteE] using this
/-- a store into a row of bytes of one's own -/
theorem byte_put {T : TypeId} {w : World} {base g n cap : Nat} {xs : List Int} (h : byteE.Own T w base (.slice (some ⟨g, 0, none⟩) n cap) xs) (i : Nat) (x : Int) :
    byteE.Own T (w.setCell ⟨g, i, none⟩ (.int .u8 x)) base (.slice (some ⟨g, 0, none⟩) n cap) (xs.set i x) ∨ xs.length ≤ i := by
  by_cases hi : i < xs.length
  · left
    obtain ⟨h1, h2⟩ := h
    rcases h2 with ⟨h2, _⟩ | ⟨g', c, cur, h2, h3, h4, h5, h6, h7, h8⟩
    · cases h2
    · simp at h2
      obtain ⟨rfl, rfl, rfl⟩ := h2
      refine ⟨by rw [flat_len, List.length_set], .inr ⟨g, cap, cur.setIfInBounds i (.int .u8 x), by rw [List.length_set], h3, setCell_at w g i _ cur T _ h4, by rw [List.length_set]; exact h5, h6, by simpa using h7, ?_⟩⟩
      rw [byte_flat, Array.toList_setIfInBounds, List.take_set, List.length_set, h8, byte_flat, List.map_set]
  · exact .inr (by omega)

/-- a writer in block B: its bytes, its own from a base on -/
structure WrSt (Tw Tb : TypeId) (w : World) (base B : Nat) (v : Value) (bs : List Bool) : Prop where
  blk : Blk w B #[v, .int .i64 bs.length] Tw
  own : byteE.Own Tb w base v (packB bs)
  low : base ≤ B
/-- all but a writer -/
def nobW (B : Nat) (v : Value) : Nat → Bool := fun b => decide (b ≠ B) && decide (v.ownBlock ≠ some b)
/-- a writer alone has turned -/
structure WStep (base : Nat) (w w' : World) (B : Nat) (v v' : Value) : Prop where
  bl : ∀ w0, Bl w0 w → w0.heap.size ≤ base → Bl w0 w'
  sub : Sub (only w (nobW B v)) (only w' (nobW B v'))
  size : w.heap.size ≤ w'.heap.size
theorem WStep.refl (base : Nat) (w : World) (B : Nat) (v : Value) : WStep base w w B v v := ⟨fun _ h _ => h, Sub.refl _, Nat.le_refl _⟩
theorem WStep.trans {base : Nat} {w w1 w2 : World} {B : Nat} {v v1 v2 : Value} (h : WStep base w w1 B v v1) (k : WStep base w1 w2 B v1 v2) : WStep base w w2 B v v2 :=
  ⟨fun w0 h0 hs => k.bl w0 (h.bl w0 h0 hs) hs, h.sub.trans k.sub, Nat.le_trans h.size k.size⟩
/-- what only adds is no harm -/
theorem WStep.of_bl {base : Nat} {w w' : World} {B : Nat} {v : Value} (h : Bl w w') : WStep base w w' B v v := ⟨fun _ h0 _ => h0.bl h, Sub.bl (h.only _), h.size⟩
theorem setCell_grown (w : World) (g j : Nat) (u : Value) : w.grownBy (w.setCell ⟨g, j, none⟩ u) (some g) := ⟨rfl, rfl, rfl, by simp [World.setCell], fun k _ hk => setCell_else _ _ _ _ _ (fun h => hk (by rw [h]))⟩
theorem WStep.setB {base : Nat} {w : World} {B : Nat} {v : Value} (hB : base ≤ B) (j : Nat) (u : Value) : WStep base w (w.setCell ⟨B, j, none⟩ u) B v v :=
  ⟨fun _ h0 hs => h0.grown (setCell_grown w B j u) (fun k hk => by injection hk with hk; omega), Sub.grown (setCell_grown w B j u) (fun k hk => by injection hk with hk; subst hk; simp [nobW]), by simp [World.setCell]⟩
theorem WStep.setV {base : Nat} {w : World} {B g : Nat} {v : Value} (hg : v.ownBlock = some g) (hb : base ≤ g) (j : Nat) (u : Value) : WStep base w (w.setCell ⟨g, j, none⟩ u) B v v :=
  ⟨fun _ h0 hs => h0.grown (setCell_grown w g j u) (fun k hk => by injection hk with hk; omega), Sub.grown (setCell_grown w g j u) (fun k hk => by injection hk with hk; subst hk; simp [nobW, hg]), by simp [World.setCell]⟩
theorem WStep.grow {base : Nat} {w w' : World} {B : Nat} {v v' : Value} (hg : w.grownBy w' v.ownBlock) (hl : Lies w v.ownBlock v'.ownBlock) (hb : ∀ k, v.ownBlock = some k → base ≤ k) : WStep base w w' B v v' := by
  refine ⟨fun w0 h0 hs => h0.grown hg (fun k hk => Nat.le_trans hs (hb k hk)), fun ad u q => ?_, hg.size⟩
  obtain ⟨h1, h2⟩ := only_cell q
  have hlt := World.block_lt_of_cell? w ad h2
  unfold nobW at h1
  simp only [Bool.and_eq_true, decide_eq_true_eq] at h1
  refine cell_only ?_ ?_
  · unfold nobW
    simp only [Bool.and_eq_true, decide_eq_true_eq]
    refine ⟨h1.1, ?_⟩
    rcases hl with e | ⟨g, e, hge⟩
    · rw [e]; exact h1.2
    · rw [e]; intro h; injection h with h; omega
  · unfold World.cell? at h2 ⊢
    rw [hg.block ad.block hlt (fun e => h1.2 e.symm)]; exact h2
theorem WrSt.keep {Tw Tb : TypeId} {w w' : World} {base B : Nat} {v : Value} {bs : List Bool} (h : WrSt Tw Tb w base B v bs) (hb : Bl w w') : WrSt Tw Tb w' base B v bs := ⟨h.blk.bl hb, h.own.bl hb, h.low⟩
theorem own_ne_blk {Tw Tb : TypeId} {w : World} {base B : Nat} {v : Value} {xs : List Int} {cs : Array Value} (h : byteE.Own Tb w base v xs) (hb : Blk w B cs Tw) (hT : Tw ≠ Tb) : v.ownBlock ≠ some B := fun e => by
  obtain ⟨_, h2⟩ := h
  rcases h2 with ⟨h2, _⟩ | ⟨g, c, cur, h2, _, h4, _⟩
  · rw [h2] at e; cases e
  · rw [h2] at e
    simp [Value.ownBlock] at e
    subst e
    unfold Blk at hb
    rw [hb] at h4
    injection h4 with h4
    injection h4 with _ h4 _
    exact hT h4
theorem WrSt.ne {Tw Tb : TypeId} {w : World} {base B : Nat} {v : Value} {bs : List Bool} (h : WrSt Tw Tb w base B v bs) (hT : Tw ≠ Tb) : v.ownBlock ≠ some B := own_ne_blk h.own h.blk hT
/-- what lies in new blocks lies not in the writer -/
theorem WrSt.isM {Tw Tb : TypeId} {w w1 : World} {base B : Nat} {v : Value} {bs : List Bool} (h : WrSt Tw Tb w base B v bs) {α : Type} {E : Enc α} {e : TypeId} {u : Value} {xs : List α} (ho : E.Own e w1 w.heap.size u xs) : E.Is (only w1 (nobW B v)) u xs :=
  ho.isM fun k hk => by
    have h1 := h.blk.lt
    unfold nobW
    simp only [Bool.and_eq_true, decide_eq_true_eq]
    exact ⟨by omega, fun q => by have := (h.own.lt k q).2; omega⟩
end Go.Ov
