/- Several texts joined (see each one's head). -/
import Derived.Test.YtoocebghlchcoaaGreatPkAD
import Derived.Test.YtoocebghlchcoaaGreatPkAA
/- Frames as data: what digits read as; what a frame's digits are; that they read back. No program in sight. -/
namespace Go.Ov
open Go.RowKit

/-! taking -/
def takeN (l : List Bool) (n : Nat) : Option (Nat × List Bool) := if n ≤ l.length then some (valB (l.take n), l.drop n) else none
def onesM : List Bool → Nat → Option (Nat × List Bool)
  | l, 0 => some (0, l)
  | [], _ + 1 => none
  | b :: l, m + 1 => if b then (onesM l m).map (fun p => (p.1 + 1, p.2)) else some (0, l)
def riceO (l : List Bool) (k : Nat) : Option (Nat × List Bool) :=
  (onesM l 24).bind fun p => (takeN p.2 (if p.1 = 24 then 32 else k)).bind fun q => if p.1 < 24 then some (p.1 * 2 ^ k + q.1, q.2) else if q.1 / 2 ^ k < 24 then none else some (q.1, q.2)
def zagM (z : Int) : Int := if z < 0 ∨ 2199023255552 ≤ z then 0 else if z % 2 = 1 then -((z + 1) / 2) else z / 2
def zigM (n : Int) : Int := if n < -1099511627776 ∨ 1099511627776 ≤ n then 0 else if n < 0 then -2 * n - 1 else 2 * n
/-- so many, one behind the other -/
def manyO {α : Type} (f : List Bool → Option (α × List Bool)) : Nat → List Bool → Option (List α × List Bool)
  | 0, l => some ([], l)
  | n + 1, l => (f l).bind fun p => (manyO f n p.2).map fun q => (p.1 :: q.1, q.2)
def sampleO (l : List Bool) : Option (Int × List Bool) := (takeN l 24).map fun p => ((p.1 : Int) - 8388608, p.2)
def coefO (l : List Bool) : Option (Int × List Bool) := (takeN l 16).map fun p => ((p.1 : Int) - 32768, p.2)
def resO (n : Nat) (l : List Bool) : Option (List Int × List Bool) := (takeN l 5).bind fun p => if 24 < p.1 then none else manyO (fun l => (riceO l p.1).map fun q => (zagM q.1, q.2)) n p.2
def okS (v : Int) : Bool := decide (-8388608 ≤ v) && decide (v ≤ 8388607)
/-- what a fixed predictor says -/
def fixC (o : Nat) : List Int := match o with | 1 => [1] | 2 => [2, -1] | 3 => [3, -3, 1] | 4 => [4, -6, 4, -1] | _ => []
def gSum (c past : List Int) : Int := (c.zip past.reverse).foldl (fun s p => wrap64 (s + wrap64 (p.1 * p.2))) 0
def cutG (b : Int) : Int := if b < -16777216 ∨ 16777216 < b then 0 else b
def okC (c : Int) : Bool := decide (-32768 ≤ c) && decide (c ≤ 32767)
def gLpc (c past : List Int) : Int := (((c.zip past.reverse).take 12).foldl (fun s p => if okC p.1 then wrap64 (s + wrap64 (p.1 * cutG p.2)) else s) 0) / 4096
/-- samples out of residuals -/
def runO (g : List Int → Int) : List Int → List Int → Option (List Int)
  | out, [] => some out
  | out, r :: l => if r < -1099511627776 ∨ 1099511627776 < r then none else if okS (wrap64 (g out + r)) then runO g (out ++ [wrap64 (g out + r)]) l else none
def restO (l : List Bool) : Bool := l.all fun b => !b
/-- the samples of a frame's digits -/
def decM (l : List Bool) : Option (List Int) :=
  (takeN l 8).bind fun p => (takeN p.2 8).bind fun q =>
    if 18 < p.1 ∨ q.1 < 1 ∨ 64 < q.1 then none
    else if p.1 = 0 then (sampleO q.2).bind fun s => if restO s.2 then some (List.replicate q.1 s.1) else none
    else if p.1 = 1 then (manyO sampleO q.1 q.2).bind fun s => if restO s.2 then some s.1 else none
    else if p.1 ≤ 6 then
      if q.1 < p.1 - 2 then none
      else (manyO sampleO (p.1 - 2) q.2).bind fun s => (resO (q.1 - (p.1 - 2)) s.2).bind fun r => (runO (gSum (fixC (p.1 - 2))) s.1 r.1).bind fun x => if restO r.2 then some x else none
    else if q.1 ≤ p.1 - 6 then none
    else (manyO sampleO (p.1 - 6) q.2).bind fun s => (manyO coefO (p.1 - 6) s.2).bind fun c => (resO (q.1 - (p.1 - 6)) c.2).bind fun r => (runO (gLpc c.1) s.1 r.1).bind fun x => if restO r.2 then some x else none

/-! making -/
def okZ (z : Int) : Bool := decide (0 ≤ z) && decide (z < 4294967296)
def riceB (k : Nat) (z : Int) : List Bool := if z / 2 ^ k < 24 then List.replicate (z / 2 ^ k).toNat true ++ [false] ++ numB z k else List.replicate 24 true ++ numB z 32
def smpB (x : List Int) : List Bool := x.flatMap fun v => numB (v + 8388608) 24
def coeB (c : List Int) : List Bool := c.flatMap fun v => numB (v + 32768) 16
/-- what a predictor misses -/
def resR (g : List Int → Int) (x : List Int) (o : Nat) : List Int := (List.range (x.length - o)).map fun i => wrap64 (x.getD (o + i) 0 - g (x.take (o + i)))
def resB (k : Nat) (r : List Int) : List Bool := numB k 5 ++ (r.map zigM).flatMap (riceB k)
/-- digits of a frame of samples -/
inductive FrameOf (x : List Int) : List Bool → Prop
  | const (h : ∀ v ∈ x, v = x.headD 0) : FrameOf x (numB 0 8 ++ numB x.length 8 ++ smpB (x.take 1))
  | verb : FrameOf x (numB 1 8 ++ numB x.length 8 ++ smpB x)
  | fixed (o k : Nat) (ho : o ≤ 4) (hx : o ≤ x.length) (hk : k ≤ 24) (hz : ∀ v ∈ resR (gSum (fixC o)) x o, okZ (zigM v) = true) :
      FrameOf x (numB (2 + o) 8 ++ numB x.length 8 ++ smpB (x.take o) ++ resB k (resR (gSum (fixC o)) x o))
  | lpc (o k : Nat) (c : List Int) (h1 : 1 ≤ o) (ho : o ≤ 12) (hx : o < x.length) (hc : c.length = o) (hcc : ∀ v ∈ c, okC v = true) (hk : k ≤ 24) (hz : ∀ v ∈ resR (gLpc c) x o, okZ (zigM v) = true) :
      FrameOf x (numB (6 + o) 8 ++ numB x.length 8 ++ smpB (x.take o) ++ coeB c ++ resB k (resR (gLpc c) x o))
/-- samples that may be a frame's -/
def okX (x : List Int) : Bool := x.all okS && decide (1 ≤ x.length) && decide (x.length ≤ 64)

theorem takeN_num (v : Int) (n : Nat) (l : List Bool) : takeN (numB v n ++ l) n = some ((v % 2 ^ n).toNat, l) := by
  unfold takeN
  rw [if_pos (by simp [numB_len]), List.take_append_of_le_length (by simp [numB_len]), List.take_of_length_le (by simp [numB_len]), List.drop_append_of_le_length (by simp [numB_len]), List.drop_of_length_le (by simp [numB_len])]
  have := valB_num v n
  simp only [List.nil_append, Option.some.injEq, Prod.mk.injEq, and_true]
  omega
theorem takeN_nat (v n : Nat) (h : v < 2 ^ n) (l : List Bool) : takeN (numB v n ++ l) n = some (v, l) := by
  rw [takeN_num]
  have : ((v : Int) % 2 ^ n).toNat = v := by
    have h2 : ((2 : Int) ^ n) = ((2 ^ n : Nat) : Int) := by simp
    rw [h2, ← Int.natCast_emod, Int.toNat_natCast, Nat.mod_eq_of_lt h]
  rw [this]
theorem ones_rep : ∀ (q m : Nat) (l : List Bool), q < m → onesM (List.replicate q true ++ false :: l) m = some (q, l)
  | 0, m + 1, l, _ => rfl
  | q + 1, m + 1, l, h => by
    rw [List.replicate_succ, List.cons_append]
    show (onesM _ m).map _ = _
    rw [ones_rep q m l (by omega)]; rfl
theorem ones_all : ∀ (m : Nat) (l : List Bool), onesM (List.replicate m true ++ l) m = some (m, l)
  | 0, l => by cases l <;> rfl
  | m + 1, l => by
    rw [List.replicate_succ, List.cons_append]
    show (onesM _ m).map _ = _
    rw [ones_all m l]; rfl
theorem rice_back (k : Nat) (_hk : k ≤ 24) (z : Int) (hz : okZ z = true) (l : List Bool) : riceO (riceB k z ++ l) k = some (z.toNat, l) := by
  unfold okZ at hz
  simp only [Bool.and_eq_true, decide_eq_true_eq] at hz
  obtain ⟨n, rfl⟩ := Int.eq_ofNat_of_zero_le hz.1
  have hp : ((2 : Int) ^ k) = ((2 ^ k : Nat) : Int) := by simp
  have hd : ((n : Int) / 2 ^ k) = ((n / 2 ^ k : Nat) : Int) := by rw [hp, Int.natCast_ediv]
  have hpos : 0 < 2 ^ k := Nat.pow_pos (by decide)
  unfold riceO riceB
  rw [hd]
  by_cases h : n / 2 ^ k < 24
  · rw [if_pos (by omega), Int.toNat_natCast, List.append_assoc, List.append_assoc, List.singleton_append, ones_rep _ _ _ h]
    simp only [Option.bind_some]
    rw [if_neg (by omega), takeN_num]
    simp only [Option.bind_some]
    rw [if_pos h]
    have e : ((n : Int) % 2 ^ k).toNat = n % 2 ^ k := by rw [hp, ← Int.natCast_emod, Int.toNat_natCast]
    rw [e]
    have := Nat.div_add_mod n (2 ^ k)
    rw [Nat.mul_comm] at this
    rw [this]; rfl
  · rw [if_neg (by omega), List.append_assoc, ones_all]
    simp only [Option.bind_some]
    rw [if_pos trivial, takeN_nat n 32 (by have := hz.2; omega)]
    simp only [Option.bind_some]
    rw [if_neg (by decide), if_neg h]; rfl
theorem many_back {α : Type} (f : List Bool → Option (α × List Bool)) (g : Int → List Bool) (d : Int → α) (x : List Int) (hf : ∀ v ∈ x, ∀ l, f (g v ++ l) = some (d v, l)) :
    ∀ l, manyO f x.length (x.flatMap g ++ l) = some (x.map d, l) := by
  induction x with
  | nil => intro l; rfl
  | cons v x ih =>
    intro l
    rw [List.length_cons, List.flatMap_cons, List.append_assoc]
    unfold manyO
    rw [hf v (by simp)]
    simp only [Option.bind_some]
    rw [ih (fun v hv => hf v (by simp [hv]))]; rfl
theorem sample_back (v : Int) (h : okS v = true) (l : List Bool) : sampleO (numB (v + 8388608) 24 ++ l) = some (v, l) := by
  unfold okS at h
  simp only [Bool.and_eq_true, decide_eq_true_eq] at h
  unfold sampleO
  rw [takeN_num]
  simp only [Option.map_some, Option.some.injEq, Prod.mk.injEq, and_true]
  have : (v + 8388608) % 2 ^ 24 = v + 8388608 := Int.emod_eq_of_lt (by omega) (by omega)
  rw [this]; omega
theorem coef_back (v : Int) (h : okC v = true) (l : List Bool) : coefO (numB (v + 32768) 16 ++ l) = some (v, l) := by
  unfold okC at h
  simp only [Bool.and_eq_true, decide_eq_true_eq] at h
  unfold coefO
  rw [takeN_num]
  simp only [Option.map_some, Option.some.injEq, Prod.mk.injEq, and_true]
  have : (v + 32768) % 2 ^ 16 = v + 32768 := Int.emod_eq_of_lt (by omega) (by omega)
  rw [this]; omega
theorem samples_back (x : List Int) (h : ∀ v ∈ x, okS v = true) (l : List Bool) : manyO sampleO x.length (smpB x ++ l) = some (x, l) := by
  have := many_back sampleO (fun v => numB (v + 8388608) 24) id x (fun v hv l => sample_back v (h v hv) l) l
  simpa [smpB] using this
theorem coefs_back (x : List Int) (h : ∀ v ∈ x, okC v = true) (l : List Bool) : manyO coefO x.length (coeB x ++ l) = some (x, l) := by
  have := many_back coefO (fun v => numB (v + 32768) 16) id x (fun v hv l => coef_back v (h v hv) l) l
  simpa [coeB] using this
theorem zag_zig (n : Int) (h : -1099511627776 ≤ n ∧ n < 1099511627776) : zagM (zigM n) = n := by
  unfold zigM
  rw [if_neg (by omega)]
  unfold zagM
  by_cases hn : n < 0
  · rw [if_pos hn, if_neg (by omega), if_pos (by omega)]; omega
  · rw [if_neg hn, if_neg (by omega), if_neg (by omega)]; omega
theorem res_back (k : Nat) (hk : k ≤ 24) (r : List Int) (hz : ∀ v ∈ r, okZ (zigM v) = true) (hr : ∀ v ∈ r, -1099511627776 ≤ v ∧ v < 1099511627776) (l : List Bool) : resO r.length (resB k r ++ l) = some (r, l) := by
  unfold resO resB
  rw [List.append_assoc, takeN_nat k 5 (by omega)]
  simp only [Option.bind_some]
  rw [if_neg (by omega)]
  have := many_back (fun l => (riceO l k).map fun q => (zagM q.1, q.2)) (riceB k) (fun z => zagM z.toNat) (r.map zigM) (fun v hv l => by
    obtain ⟨n, hn, rfl⟩ := List.mem_map.1 hv
    rw [rice_back k hk _ (hz n hn)]; rfl) l
  rw [List.length_map] at this
  rw [this, List.map_map]
  congr 2
  refine List.ext_getElem (by simp) fun i h1 h2 => ?_
  rw [List.getElem_map]
  have hm := List.getElem_mem h2
  show zagM ((zigM r[i]).toNat : Int) = r[i]
  have h0 := hz _ hm
  unfold okZ at h0
  simp only [Bool.and_eq_true, decide_eq_true_eq] at h0
  rw [Int.toNat_of_nonneg h0.1, zag_zig _ (hr _ hm)]

theorem fold_bd (f : Int → Int × Int → Int) (M : Int) (hM : 0 ≤ M) : ∀ (l : List (Int × Int)) (s B : Int), 0 ≤ B → -B ≤ s ∧ s ≤ B → (∀ p ∈ l, ∀ s, -(B + l.length * M) ≤ s ∧ s ≤ B + l.length * M → f s p - s ≤ M ∧ -M ≤ f s p - s) →
    -(B + l.length * M) ≤ l.foldl f s ∧ l.foldl f s ≤ B + l.length * M
  | [], s, B, _, h, _ => by simpa using h
  | p :: l, s, B, hB, h, hf => by
    have e : (((p :: l).length : Nat) : Int) * M = M + l.length * M := by
      rw [List.length_cons, Int.natCast_add, Int.add_mul, Int.natCast_one, Int.one_mul]; omega
    rw [e] at hf ⊢
    have hl : 0 ≤ (l.length : Int) * M := Int.mul_nonneg (by omega) hM
    have h1 := hf p (by simp) s (by omega)
    have := fold_bd f M hM l (f s p) (B + M) (by omega) (by omega) (fun q hq t ht => hf q (by simp [hq]) t (by omega))
    rw [List.foldl_cons]
    omega
theorem wrap_in {x : Int} (h : -9223372036854775808 ≤ x ∧ x ≤ 9223372036854775807) : wrap64 x = x := by unfold wrap64; omega
theorem mul_bd {a b A B : Int} (ha : -A ≤ a ∧ a ≤ A) (hb : -B ≤ b ∧ b ≤ B) (hA : 0 ≤ A) (hB : 0 ≤ B) : -(A * B) ≤ a * b ∧ a * b ≤ A * B := by
  have h1 : (a * b).natAbs ≤ (A * B).natAbs := by
    rw [Int.natAbs_mul, Int.natAbs_mul]
    exact Nat.mul_le_mul (by omega) (by omega)
  have h2 : 0 ≤ A * B := Int.mul_nonneg hA hB
  omega
theorem mem_zip {c past : List Int} {p : Int × Int} (h : p ∈ c.zip past) : p.1 ∈ c ∧ p.2 ∈ past := ⟨(List.of_mem_zip h).1, (List.of_mem_zip h).2⟩
theorem gSum_bd (o : Nat) (past : List Int) (hp : ∀ v ∈ past, okS v = true) : -1000000000 ≤ gSum (fixC o) past ∧ gSum (fixC o) past ≤ 1000000000 := by
  have hc : ∀ v ∈ fixC o, -6 ≤ v ∧ v ≤ 6 := by
    unfold fixC
    split <;> intro v hv <;> simp at hv <;> omega
  have hl : (fixC o).length ≤ 4 := by unfold fixC; split <;> simp
  have hlen : ((fixC o).zip past.reverse).length ≤ 4 := by rw [List.length_zip]; omega
  have := fold_bd (fun s p => wrap64 (s + wrap64 (p.1 * p.2))) 50331648 (by decide) ((fixC o).zip past.reverse) 0 0 (by decide) ⟨by decide, by decide⟩ (fun p hp' s hs => by
    obtain ⟨h1, h2⟩ := mem_zip hp'
    have a := hc _ h1
    have b := hp _ (List.mem_reverse.1 h2)
    unfold okS at b
    simp only [Bool.and_eq_true, decide_eq_true_eq] at b
    have m := mul_bd a (show -8388608 ≤ p.2 ∧ p.2 ≤ 8388608 by omega) (by decide) (by decide)
    have hl4 : (((fixC o).zip past.reverse).length : Int) * 50331648 ≤ 4 * 50331648 := by omega
    rw [wrap_in (x := p.1 * p.2) (by omega), wrap_in (by omega)]
    omega)
  unfold gSum
  omega
theorem gLpc_bd (c past : List Int) : -3000000000 ≤ gLpc c past ∧ gLpc c past ≤ 3000000000 := by
  have hlen : (((c.zip past.reverse).take 12).length : Int) ≤ 12 := by rw [List.length_take]; omega
  have := fold_bd (fun s p => if okC p.1 then wrap64 (s + wrap64 (p.1 * cutG p.2)) else s) 549755813888 (by decide) ((c.zip past.reverse).take 12) 0 0 (by decide) ⟨by decide, by decide⟩ (fun p _ s hs => by
    by_cases h : okC p.1 = true
    · rw [if_pos h]
      unfold okC at h
      simp only [Bool.and_eq_true, decide_eq_true_eq] at h
      have b : -16777216 ≤ cutG p.2 ∧ cutG p.2 ≤ 16777216 := by unfold cutG; split <;> omega
      have m := mul_bd (show -32768 ≤ p.1 ∧ p.1 ≤ 32768 by omega) b (by decide) (by decide)
      rw [wrap_in (x := p.1 * cutG p.2) (by omega), wrap_in (by omega)]
      omega
    · rw [if_neg h]; omega)
  unfold gLpc
  omega
theorem run_back (g : List Int → Int) (hg : ∀ past, (∀ v ∈ past, okS v = true) → -3000000000 ≤ g past ∧ g past ≤ 3000000000) (x : List Int) (hx : ∀ v ∈ x, okS v = true) :
    ∀ (n o : Nat), x.length - o = n → o ≤ x.length → runO g (x.take o) (resR g x o) = some x
  | 0, o, hn, ho => by
    unfold resR
    rw [hn, List.range_zero, List.map_nil, List.take_of_length_le (by omega)]; rfl
  | n + 1, o, hn, ho => by
    have hr : resR g x o = wrap64 (x.getD o 0 - g (x.take o)) :: resR g x (o + 1) := by
      unfold resR
      rw [hn, List.range_succ_eq_map, List.map_cons, List.map_map, show x.length - (o + 1) = n by omega]
      congr 1
      refine List.map_congr_left fun i _ => ?_
      show wrap64 (x.getD (o + (i + 1)) 0 - g (x.take (o + (i + 1)))) = wrap64 (x.getD (o + 1 + i) 0 - g (x.take (o + 1 + i)))
      rw [show o + (i + 1) = o + 1 + i by omega]
    have hg1 := hg (x.take o) (fun v hv => hx v (List.mem_of_mem_take hv))
    have hlt : o < x.length := by omega
    have hv : x.getD o 0 = x[o] := by rw [List.getD_eq_getElem?_getD, List.getElem?_eq_getElem hlt]; rfl
    have hs := hx x[o] (List.getElem_mem hlt)
    have hs' := hs
    unfold okS at hs'
    simp only [Bool.and_eq_true, decide_eq_true_eq] at hs'
    rw [hr, hv, wrap_in (by omega)]
    unfold runO
    rw [if_neg (by omega), show g (x.take o) + (x[o] - g (x.take o)) = x[o] by omega, wrap_in (by omega), if_pos hs, ← List.take_succ_eq_append_getElem hlt]
    exact run_back g hg x hx n (o + 1) (by omega) (by omega)
theorem resR_len (g : List Int → Int) (x : List Int) (o : Nat) : (resR g x o).length = x.length - o := by simp [resR]
theorem resR_bd (g : List Int → Int) (hg : ∀ past, (∀ v ∈ past, okS v = true) → -3000000000 ≤ g past ∧ g past ≤ 3000000000) (x : List Int) (hx : ∀ v ∈ x, okS v = true) (o : Nat) :
    ∀ v ∈ resR g x o, -1099511627776 ≤ v ∧ v < 1099511627776 := fun v hv => by
  unfold resR at hv
  obtain ⟨i, hi, rfl⟩ := List.mem_map.1 hv
  have hi := List.mem_range.1 hi
  have h1 := hg (x.take (o + i)) (fun v hv => hx v (List.mem_of_mem_take hv))
  have hs := hx x[o + i] (List.getElem_mem (by omega))
  unfold okS at hs
  simp only [Bool.and_eq_true, decide_eq_true_eq] at hs
  rw [List.getD_eq_getElem?_getD, List.getElem?_eq_getElem (by omega), Option.getD_some, wrap_in (by omega)]
  omega
theorem rest_rep (n : Nat) : restO (List.replicate n false) = true := by unfold restO; simp
/-- a frame's digits, noughts behind them, read back -/
theorem frame_back {x : List Int} (hx : okX x = true) {bs : List Bool} (h : FrameOf x bs) (n : Nat) : decM (bs ++ List.replicate n false) = some x := by
  unfold okX at hx
  simp only [Bool.and_eq_true, decide_eq_true_eq, List.all_eq_true] at hx
  obtain ⟨⟨hs, h1⟩, h64⟩ := hx
  have hg1 : ∀ o past, (∀ v ∈ past, okS v = true) → -3000000000 ≤ gSum (fixC o) past ∧ gSum (fixC o) past ≤ 3000000000 := fun o past hp => by have := gSum_bd o past hp; omega
  have hg2 : ∀ c past, (∀ v ∈ past, okS v = true) → -3000000000 ≤ gLpc c past ∧ gLpc c past ≤ 3000000000 := fun c past _ => gLpc_bd c past
  have ht : ∀ o, o ≤ x.length → (x.take o).length = o := fun o ho => by rw [List.length_take]; omega
  have hst : ∀ o, ∀ v ∈ x.take o, okS v = true := fun o v hv => hs v (List.mem_of_mem_take hv)
  have h256 : ((256 : Nat) : Nat) = 2 ^ 8 := rfl
  unfold decM
  cases h with
  | const h =>
    rw [List.append_assoc, List.append_assoc, show (0 : Int) = ((0 : Nat) : Int) from rfl, takeN_nat 0 8 (by decide)]
    simp only [Option.bind_some]
    rw [takeN_nat x.length 8 (by omega)]
    simp only [Option.bind_some]
    rw [if_neg (by omega), if_pos trivial]
    cases x with
    | nil => simp at h1
    | cons v x =>
      have := sample_back v (hs v (by simp)) (List.replicate n false)
      simp only [smpB, List.take_succ_cons, List.take_zero, List.flatMap_cons, List.flatMap_nil, List.append_nil]
      rw [this]
      simp only [Option.bind_some]
      rw [if_pos (rest_rep n)]
      congr 1
      symm
      refine List.eq_replicate_iff.2 ⟨rfl, fun b hb => ?_⟩
      have := h b hb
      simpa using this
  | verb =>
    rw [List.append_assoc, List.append_assoc, show (1 : Int) = ((1 : Nat) : Int) from rfl, takeN_nat 1 8 (by decide)]
    simp only [Option.bind_some]
    rw [takeN_nat x.length 8 (by omega)]
    simp only [Option.bind_some]
    rw [if_neg (by omega), if_neg (by decide), if_pos trivial, samples_back x hs]
    simp only [Option.bind_some]
    rw [if_pos (rest_rep n)]
  | fixed o k ho hxo hk hz =>
    rw [List.append_assoc, List.append_assoc, List.append_assoc, show (2 + (o : Int)) = ((2 + o : Nat) : Int) by omega, takeN_nat (2 + o) 8 (by omega)]
    simp only [Option.bind_some]
    rw [takeN_nat x.length 8 (by omega)]
    simp only [Option.bind_some]
    rw [if_neg (by omega), if_neg (by omega), if_neg (by omega), if_pos (by omega), show 2 + o - 2 = o by omega, if_neg (by omega)]
    have e1 := samples_back (x.take o) (hst o) (resB k (resR (gSum (fixC o)) x o) ++ List.replicate n false)
    rw [ht o hxo] at e1
    rw [e1]
    simp only [Option.bind_some]
    have e2 := res_back k hk (resR (gSum (fixC o)) x o) hz (resR_bd _ (hg1 o) x hs o) (List.replicate n false)
    rw [resR_len] at e2
    rw [e2]
    simp only [Option.bind_some]
    rw [run_back (gSum (fixC o)) (hg1 o) x hs _ o rfl hxo]
    simp only [Option.bind_some]
    rw [if_pos (rest_rep n)]
  | lpc o k c ho1 ho hxo hc hcc hk hz =>
    rw [List.append_assoc, List.append_assoc, List.append_assoc, List.append_assoc, show (6 + (o : Int)) = ((6 + o : Nat) : Int) by omega, takeN_nat (6 + o) 8 (by omega)]
    simp only [Option.bind_some]
    rw [takeN_nat x.length 8 (by omega)]
    simp only [Option.bind_some]
    rw [if_neg (by omega), if_neg (by omega), if_neg (by omega), if_neg (by omega), show 6 + o - 6 = o by omega, if_neg (by omega)]
    have e1 := samples_back (x.take o) (hst o) (coeB c ++ (resB k (resR (gLpc c) x o) ++ List.replicate n false))
    rw [ht o (by omega)] at e1
    rw [e1]
    simp only [Option.bind_some]
    have e3 := coefs_back c hcc (resB k (resR (gLpc c) x o) ++ List.replicate n false)
    rw [hc] at e3
    rw [e3]
    simp only [Option.bind_some]
    have e2 := res_back k hk (resR (gLpc c) x o) hz (resR_bd _ (hg2 c) x hs o) (List.replicate n false)
    rw [resR_len] at e2
    rw [e2]
    simp only [Option.bind_some]
    rw [run_back (gLpc c) (hg2 c) x hs _ o rfl (by omega)]
    simp only [Option.bind_some]
    rw [if_pos (rest_rep n)]
end Go.Ov

/- The checksum as data: digit by digit, and by a table. No program in sight. -/
namespace Go.Ov

def polyC : BitVec 32 := 0x04C11DB7
def step1 (s : BitVec 32) : BitVec 32 := if s.msb then (s <<< 1) ^^^ polyC else s <<< 1
def stepC : Nat → BitVec 32 → BitVec 32
  | 0, s => s
  | n + 1, s => stepC n (step1 s)
theorem step1_lin (a b : BitVec 32) : step1 (a ^^^ b) = step1 a ^^^ step1 b := by
  unfold step1
  rw [BitVec.msb_xor, BitVec.shiftLeft_xor_distrib]
  cases a.msb <;> cases b.msb
  · simp
  · simp [BitVec.xor_assoc]
  · simp [BitVec.xor_assoc, BitVec.xor_comm (b <<< 1) polyC]
  · simp only [Bool.xor_self, Bool.false_eq_true, if_false, if_true]
    rw [BitVec.xor_assoc, ← BitVec.xor_assoc polyC, BitVec.xor_comm polyC (b <<< 1), BitVec.xor_assoc (b <<< 1), BitVec.xor_self, BitVec.xor_zero]
theorem stepC_lin (n : Nat) (a b : BitVec 32) : stepC n (a ^^^ b) = stepC n a ^^^ stepC n b := by
  induction n generalizing a b with
  | zero => rfl
  | succ n ih => unfold stepC; rw [step1_lin, ih]
theorem stepC_low (n : Nat) (s : BitVec 32) (h : ∀ k, 32 ≤ k + n → s.getLsbD k = false) : stepC n s = s <<< n := by
  induction n generalizing s with
  | zero => simp [stepC]
  | succ n ih =>
    unfold stepC
    have hm : s.msb = false := by rw [BitVec.msb_eq_getLsbD_last]; exact h 31 (by omega)
    unfold step1
    rw [hm, if_neg (by decide), ih]
    · rw [← BitVec.shiftLeft_add, Nat.add_comm]
    · intro k hk
      rw [BitVec.getLsbD_shiftLeft]
      cases k with
      | zero => simp
      | succ k => simp [h k (by omega)]
def lowC (s : BitVec 32) : BitVec 32 := s &&& 0x00FFFFFF
theorem low_bit (s : BitVec 32) (k : Nat) (hk : 24 ≤ k) : (lowC s).getLsbD k = false := by
  unfold lowC
  rw [BitVec.getLsbD_and]
  have : (0x00FFFFFF : BitVec 32).getLsbD k = false := by
    by_cases h : k < 32
    · have : ∀ j : Fin 32, 24 ≤ j.1 → (0x00FFFFFF : BitVec 32).getLsbD j.1 = false := by decide
      exact this ⟨k, h⟩ hk
    · exact BitVec.getLsbD_of_ge _ _ (by omega)
  rw [this, Bool.and_false]
theorem split_low (s : BitVec 32) : s = ((s >>> 24) <<< 24) ^^^ lowC s := by
  apply BitVec.eq_of_getLsbD_eq
  intro k hk
  rw [BitVec.getLsbD_xor, BitVec.getLsbD_shiftLeft, BitVec.getLsbD_ushiftRight]
  by_cases h : k < 24
  · have : (lowC s).getLsbD k = s.getLsbD k := by
      unfold lowC
      rw [BitVec.getLsbD_and]
      have : ∀ j : Fin 24, (0x00FFFFFF : BitVec 32).getLsbD j.1 = true := by decide
      rw [this ⟨k, h⟩, Bool.and_true]
    rw [this]; simp [h]
  · rw [low_bit s k (by omega)]
    have : 24 + (k - 24) = k := by omega
    simp [h, hk, this]
/-- a byte more, by the table, is a byte more, digit by digit -/
theorem crc_table (s c : BitVec 32) : (s <<< 8) ^^^ stepC 8 (((s >>> 24) ^^^ c) <<< 24) = stepC 8 (s ^^^ (c <<< 24)) := by
  have hl : stepC 8 (lowC s) = s <<< 8 := by
    rw [stepC_low 8 (lowC s) (fun k hk => low_bit s k (by omega))]
    conv => rhs; rw [split_low s, BitVec.shiftLeft_xor_distrib, ← BitVec.shiftLeft_add]
    have : (s >>> 24) <<< (24 + 8) = 0#32 := BitVec.shiftLeft_eq_zero (by decide)
    rw [this, BitVec.zero_xor]
  have h1 : s ^^^ (c <<< 24) = (((s >>> 24) ^^^ c) <<< 24) ^^^ lowC s := by
    conv => lhs; rw [split_low s]
    rw [BitVec.shiftLeft_xor_distrib, BitVec.xor_assoc, BitVec.xor_comm (lowC s), BitVec.xor_assoc]
  rw [h1, stepC_lin, hl, BitVec.xor_comm]
/-- bytes -/
def okB (l : List Int) : Prop := ∀ c ∈ l, 0 ≤ c ∧ c < 256
/-- the checksum of bytes -/
def crcAdd (s : BitVec 32) (l : List Int) : BitVec 32 := l.foldl (fun s c => stepC 8 (s ^^^ (BitVec.ofNat 32 c.toNat <<< 24))) s
def crcSum (l : List Int) : BitVec 32 := crcAdd 0xFFFFFFFF l
/-- .. as four bytes, the greatest first -/
def sum4 (l : List Int) : List Int := [((crcSum l).toNat / 16777216 : Nat), ((crcSum l).toNat / 65536 % 256 : Nat), ((crcSum l).toNat / 256 % 256 : Nat), ((crcSum l).toNat % 256 : Nat)]
end Go.Ov

/- Blocks as data: a frame in a sector, its sum behind it; it opens to its samples. No program in sight. -/
namespace Go.Ov

def padB (l : List Int) : List Int := l ++ List.replicate (124 - l.length) 0
/-- bytes and the sum behind them -/
def sealM (l : List Int) : List Int := padB l ++ sum4 (padB l)
/-- what is ahead of a right sum -/
def whole (l : List Int) : Bool := decide (l.length = 128) && decide (sum4 (l.take 124) = l.drop 124)
def openM (l : List Int) : Option (List Int) := if whole l then decM (unpackB (l.take 124)) else none
/-- a sector of samples -/
def BlockOf (x s : List Int) : Prop := ∃ bs, FrameOf x bs ∧ (packB bs).length ≤ 124 ∧ s = sealM (packB bs)
theorem padB_len {l : List Int} (h : l.length ≤ 124) : (padB l).length = 124 := by simp [padB]; omega
theorem seal_len {l : List Int} (h : l.length ≤ 124) : (sealM l).length = 128 := by simp [sealM, padB_len h, sum4]
theorem seal_take {l : List Int} (h : l.length ≤ 124) : (sealM l).take 124 = padB l := by
  unfold sealM
  rw [List.take_append_of_le_length (by rw [padB_len h]; omega), List.take_of_length_le (by rw [padB_len h]; omega)]
theorem seal_drop {l : List Int} (h : l.length ≤ 124) : (sealM l).drop 124 = sum4 (padB l) := by
  unfold sealM
  rw [List.drop_append_of_le_length (by rw [padB_len h]; omega), List.drop_of_length_le (by rw [padB_len h]; omega), List.nil_append]
theorem seal_whole {l : List Int} (h : l.length ≤ 124) : whole (sealM l) = true := by
  unfold whole
  rw [seal_len h, seal_take h, seal_drop h]
  simp
theorem unpack_zeros (l : List Int) (n : Nat) : unpackB (l ++ List.replicate n 0) = unpackB l ++ List.replicate (8 * n) false := by
  apply List.ext_getElem
  · simp [unpackB_len]; omega
  · intro k h1 h2
    simp only [unpackB, List.getElem_map, List.getElem_range]
    by_cases hk : k < 8 * l.length
    · rw [List.getElem_append_left (by simp [hk])]
      simp only [List.getElem_map, List.getElem_range]
      unfold digitAt
      rw [List.getD_eq_getElem?_getD, List.getD_eq_getElem?_getD, List.getElem?_append_left (by omega)]
    · rw [List.getElem_append_right (by simp; omega)]
      simp only [List.getElem_replicate]
      unfold digitAt
      rw [List.getD_eq_getElem?_getD, List.getElem?_append_right (by omega)]
      have : ((List.replicate n (0 : Int))[k / 8 - l.length]?).getD 0 = 0 := by
        rw [List.getElem?_replicate]; split <;> rfl
      rw [this]
      simp
theorem block_opens {x s : List Int} (hx : okX x = true) (h : BlockOf x s) : openM s = some x := by
  obtain ⟨bs, hf, hl, rfl⟩ := h
  unfold openM
  rw [if_pos (seal_whole hl), seal_take hl]
  unfold padB
  rw [unpack_zeros, unpack_pack, List.append_assoc, List.replicate_append_replicate]
  exact frame_back hx hf _
/-- a frame is never longer than its samples plainly -/
def verbLen (n : Nat) : Nat := 16 + 24 * n
theorem verb_len (x : List Int) : (numB 1 8 ++ numB x.length 8 ++ smpB x).length = verbLen x.length := by
  have : ∀ x : List Int, (smpB x).length = 24 * x.length := by
    intro x
    induction x with
    | nil => rfl
    | cons v x ih =>
      unfold smpB at ih ⊢
      rw [List.flatMap_cons, List.length_append, numB_len, ih, List.length_cons]; omega
  rw [List.length_append, List.length_append, numB_len, numB_len, this]
  unfold verbLen; omega
/-- blocks that samples need at most -/
def blocksM (n : Nat) : Nat := (n + 39) / 40
theorem blocks_step (n m k : Nat) (hm : m ≤ n) (h : 40 ≤ m ∨ m = n) (hn : 0 < n) (hk : k ≤ blocksM (n - m)) : k + 1 ≤ blocksM n := by
  unfold blocksM at *
  omega
end Go.Ov
