/- Several texts joined (see each one's head). -/
import Derived.Test.YtoocebghlchcoaaGreatPkAF
import Derived.Test.YtoocebghlchcoaaGreatPkAE
import Derived.Laws.BytesArg
import Derived.Lib.Strings
import Derived.Test.YtoocebghlchcoaaGreatProg
import Derived.Test.YtoocebghlchcoaaGreatPkAA
/- Numbers as bytes, as data; superblocks as data. No program in sight. -/
namespace Go.Ov

/-- a number as so many bytes, the lowest first -/
def putF (n : Int) : Nat → List Int
  | 0 => []
  | w + 1 => n % 256 :: putF (n / 256) w
def getF : List Int → Int
  | [] => 0
  | b :: l => 256 * getF l + b
theorem putF_len (n : Int) (w : Nat) : (putF n w).length = w := by
  induction w generalizing n with
  | zero => rfl
  | succ w ih => simp [putF, ih]
theorem get_put (w : Nat) : ∀ (n : Int), 0 ≤ n → n < 256 ^ w → getF (putF n w) = n := by
  induction w with
  | zero => intro n h0 h1; simp at h1; simp [putF, getF]; omega
  | succ w ih =>
    intro n h0 h1
    have hp : (256 : Int) ^ (w + 1) = 256 ^ w * 256 := Int.pow_succ 256 w
    rw [putF, getF, ih (n / 256) (by omega) (by rw [hp] at h1; omega)]
    omega
/-- bytes -/
def isByte (b : Int) : Bool := decide (0 ≤ b) && decide (b < 256)
theorem put_byte (n : Int) (w : Nat) : ∀ b ∈ putF n w, isByte b = true := by
  induction w generalizing n with
  | zero => intro b h; cases h
  | succ w ih =>
    intro b h
    rcases List.mem_cons.1 h with rfl | h
    · unfold isByte; simp; omega
    · exact ih _ b h
theorem get_bd (l : List Int) (h : ∀ b ∈ l, isByte b = true) : 0 ≤ getF l ∧ getF l < 256 ^ l.length := by
  induction l with
  | nil => simp [getF]
  | cons b l ih =>
    have hb := h b (by simp)
    unfold isByte at hb
    simp only [Bool.and_eq_true, decide_eq_true_eq] at hb
    have := ih (fun b hb => h b (by simp [hb]))
    have hp : (256 : Int) ^ (l.length + 1) = 256 ^ l.length * 256 := Int.pow_succ 256 l.length
    rw [getF, List.length_cons, hp]
    omega
/-- numbers that stand one behind the other -/
def takeF (l : List Int) : List Nat → Option (List Int)
  | [] => some []
  | w :: ws => if 7 < w ∨ l.length < w then none else (takeF (l.drop w) ws).map fun r => getF (l.take w) :: r
theorem take_put (n : Int) (w : Nat) (hw : w ≤ 7) (h0 : 0 ≤ n) (h1 : n < 256 ^ w) (l : List Int) (ws : List Nat) : takeF (putF n w ++ l) (w :: ws) = (takeF l ws).map fun r => n :: r := by
  conv => lhs; unfold takeF
  rw [if_neg (by simp [putF_len]; omega), List.drop_append_of_le_length (by simp [putF_len]), List.drop_of_length_le (by simp [putF_len]), List.take_append_of_le_length (by simp [putF_len]), List.take_of_length_le (by simp [putF_len]), get_put w n h0 h1, List.nil_append]

/-! superblocks -/
structure SuperM where
  gen : Int
  life : Int
  done : Int
  root : Int
/-- what a superblock begins with -/
def wordM : List Int := [111, 118, 101, 114, 100, 117, 98, 49]
def superB (s : SuperM) (cells : Int) : List Int := wordM ++ (putF s.gen 4 ++ (putF s.life 4 ++ (putF s.done 4 ++ (putF s.root 4 ++ putF cells 4))))
def packSuper (s : SuperM) (cells : Int) : List Int := sealM (superB s cells)
def okSuper (s : SuperM) (cells : Int) : Bool :=
  decide (1 ≤ s.gen) && decide (s.gen < 2147483648) && decide (1 ≤ s.life) && decide (s.life < 2147483648) && decide (0 ≤ s.done) && decide (s.done < 2147483648) && decide (0 ≤ s.root) && decide (s.root < 4096) && decide (1 ≤ cells) && decide (cells ≤ 1024)
/-- the superblock of a sector -/
def unpackSuper (l : List Int) : Option (SuperM × Int) :=
  if whole l then
    match takeF ((l.take 124).drop 8) [4, 4, 4, 4, 4] with
    | some [a, b, c, d, e] => if okSuper ⟨a, b, c, d⟩ e && decide (packSuper ⟨a, b, c, d⟩ e = l) then some (⟨a, b, c, d⟩, e) else none
    | _ => none
  else none
theorem superB_len (s : SuperM) (cells : Int) : (superB s cells).length = 28 := by simp [superB, wordM, putF_len]
theorem super_back (s : SuperM) (cells : Int) (h : okSuper s cells = true) : unpackSuper (packSuper s cells) = some (s, cells) := by
  have h' := h
  unfold okSuper at h'
  simp only [Bool.and_eq_true, decide_eq_true_eq] at h'
  obtain ⟨⟨⟨⟨⟨⟨⟨⟨⟨a1, a2⟩, a3⟩, a4⟩, a5⟩, a6⟩, a7⟩, a8⟩, a9⟩, a10⟩ := h'
  have hl := superB_len s cells
  unfold unpackSuper packSuper
  rw [if_pos (seal_whole (by omega)), seal_take (by omega)]
  have e : (padB (superB s cells)).drop 8 = putF s.gen 4 ++ (putF s.life 4 ++ (putF s.done 4 ++ (putF s.root 4 ++ (putF cells 4 ++ List.replicate (124 - 28) 0)))) := by
    unfold padB
    rw [hl]
    unfold superB
    rw [List.append_assoc, List.drop_append_of_le_length (by simp [wordM]), List.drop_of_length_le (by simp [wordM]), List.nil_append]
    simp only [List.append_assoc]
  rw [e, take_put _ 4 (by decide) (by omega) (by omega), take_put _ 4 (by decide) (by omega) (by omega), take_put _ 4 (by decide) (by omega) (by omega), take_put _ 4 (by decide) (by omega) (by omega), take_put _ 4 (by decide) (by omega) (by omega)]
  simp only [takeF, Option.map_some]
  rw [if_pos]
  simp [h]
end Go.Ov

/- Bytes as strings, as numbers; a byte stored into a row. No program in sight. -/
namespace Go.Ov
open Go.RowKit

theorem okB.take {l : List Int} (h : okB l) (n : Nat) : okB (l.take n) := fun c hc => h c (List.mem_of_mem_take hc)
theorem okB.drop {l : List Int} (h : okB l) (n : Nat) : okB (l.drop n) := fun c hc => h c (List.mem_of_mem_drop hc)
theorem okB.app {l m : List Int} (h : okB l) (k : okB m) : okB (l ++ m) := fun c hc => by
  rcases List.mem_append.1 hc with q | q
  · exact h c q
  · exact k c q
theorem put_ok (n : Int) (w : Nat) : okB (putF n w) := fun c hc => by
  have := put_byte n w c hc
  simpa [isByte] using this
theorem sum4_ok (l : List Int) : okB (sum4 l) := fun c hc => by
  have hx := (crcSum l).isLt
  unfold sum4 at hc
  simp only [List.mem_cons, List.not_mem_nil, or_false] at hc
  rcases hc with rfl | rfl | rfl | rfl <;> omega
theorem zeros_ok (n : Nat) : okB (List.replicate n 0) := fun c hc => by
  obtain ⟨_, rfl⟩ := List.mem_replicate.1 hc; omega
theorem rowB_set (xs : List Int) (i : Nat) (x : Int) : (rowB xs).setIfInBounds i (.int .u8 x) = rowB (xs.set i x) := by
  apply Array.toList_inj.1
  rw [Array.toList_setIfInBounds, rowB_list, rowB_list, List.map_set]
theorem byte_str {P : Program} {w : World} {v : Value} {xs : List Int} (h : byteE.Is w v xs) (src dst e : TypeId) (hs : P.underlying src = some (.slice e)) (he : P.underlying e = some (.int .u8)) (hd : P.underlying dst = some .string) :
    (convert src dst v).run P w = .ok (.string (strOfNums xs)) w := by
  obtain ⟨A, c, rfl, h1, h2, h3, h4⟩ := h
  rw [run_convert_bytes_string w src dst e A xs.length c hs he hd]
  cases xs with
  | nil =>
    cases A with
    | none =>
      simp [Conv.bytesToString, strOfNums, ByteArray.empty, ByteArray.emptyWithCapacity]
      rfl
    | some a =>
      have := run_bytesToString (P := P) w a 0 c [] (run_loadCells_list (P := P) w a [] (fun j v hj => by simp at hj))
      exact this
  | cons x l =>
    obtain ⟨ad, rfl, _⟩ := byte_at h4 0 (by simp)
    have hl := run_loadCells_list (P := P) w ad ((x :: l).map (Value.int .u8)) (fun j v hj => by
      have hjl : j < (x :: l).length := by have := (List.getElem?_eq_some_iff.1 hj).1; simpa using this
      obtain ⟨ad', e', hc⟩ := byte_at h4 j hjl
      injection e' with e'
      subst e'
      rw [hc, ← hj]
      simp only [List.getElem?_map]
      rw [List.getElem?_eq_getElem hjl]; rfl)
    rw [List.length_map] at hl
    rw [run_bytesToString w ad _ c (x :: l) hl, foldl_push_bytes]
    simp [strOfNums, ByteArray.empty, ByteArray.emptyWithCapacity]
    rfl
theorem str_inj {xs ys : List Int} (hx : okB xs) (hy : okB ys) (h : strOfNums xs = strOfNums ys) : xs = ys := by
  have h1 := congrArg (fun b => b.data.toList) h
  simp only [strOfNums_data] at h1
  have hl : xs.length = ys.length := by have := congrArg List.length h1; simpa using this
  apply List.ext_getElem hl
  intro i h2 h3
  have h4 := congrArg (fun l => l[i]?) h1
  simp only [List.getElem?_map, List.getElem?_eq_getElem h2, List.getElem?_eq_getElem h3, Option.map_some, Option.some.injEq] at h4
  have h5 := hx _ (List.getElem_mem h2)
  have h6 := hy _ (List.getElem_mem h3)
  have h7 := congrArg UInt8.toNat h4
  simp only [UInt8.toNat_ofNat'] at h7
  omega
theorem or_join (n b : Int) (hn : 0 ≤ n) (hn2 : n < 281474976710656) (hb : 0 ≤ b ∧ b < 256) : bits .or .i64 (n * 256) b = n * 256 + b := by
  have := bits_join .i64 62 (by decide) (fun n h0 h1 => IntWalk.i64_in _ (by omega)) 8 (n * 256) b (by omega) (by show n * 256 % 256 = 0; omega) (by omega) hb.1 (by show b < 256; exact hb.2) (by omega)
  exact this
theorem get_small (l : List Int) (h : okB l) (hl : l.length ≤ 5) : 0 ≤ getF l ∧ getF l < 1099511627776 := by
  have h1 := get_bd l (fun b hb => by have := h b hb; simp [isByte]; exact this)
  have h2 : (256 : Int) ^ l.length = ((256 ^ l.length : Nat) : Int) := by simp
  have h3 : 256 ^ l.length ≤ 256 ^ 5 := Nat.pow_le_pow_right (by decide) hl
  rw [h2] at h1
  omega
theorem putF_snoc (n : Int) (k : Nat) : putF n (k + 1) = putF n k ++ [n / 256 ^ k % 256] := by
  induction k generalizing n with
  | zero => simp [putF]
  | succ k ih =>
    rw [putF, ih (n / 256), putF, List.cons_append]
    congr 2
    rw [Int.pow_succ, Int.mul_comm, Int.ediv_ediv_of_nonneg (by decide)]
theorem getF_cons_drop (l : List Int) (k : Nat) (hk : k < l.length) : getF (l.drop k) = 256 * getF (l.drop (k + 1)) + l[k] := by
  rw [List.drop_eq_getElem_cons hk]; rfl
end Go.Ov

/- Contracts of overdubkeep.Within, need.Nodes, need.Blocks, need.Checkpoint, overdublaw24.wakes. -/
namespace Go.Proofs.YtoocebghlchcoaaGreat.Need
open Go.RowKit Go.Ov

set_option maxHeartbeats 400000 in
theorem within_any (v n : Int) (w : World) (hn : n ≤ 9223372036854775807) :
    Calls Tryz.prog 7 #[.int .i64 v, .int .i64 n] w fun e w' => e = .returned (.int .i64 (within v n)) ∧ w = w' := by
  go_enter Tryz.func7, Tryz.ntmps7
  go_wp2
  all_goals go_ret
  all_goals refine ⟨ret_int ?_, rfl⟩
  · rename_i h; unfold within; rw [if_pos h]
  · rename_i h1 h
    have := Int.emod_nonneg v (show n ≠ 0 by omega)
    have := Int.emod_lt_of_pos v (show 0 < n by omega)
    have e := tmod_lt0 v n h1 h
    unfold within; rw [if_neg (by omega)]
    show wrap64 (v.tmod n + n) = _
    rw [e]; unfold wrap64; omega
  · rename_i h1 h
    unfold within; rw [if_neg (by omega)]; exact tmod_ge0 v n h1 h

def nodes (n : Nat) : Nat := if n = 0 then 0 else if n < 8 then 1 else n / 4 + nodes (n / 4)
  termination_by n
  decreasing_by omega
def nodesI (x : Int) : Int := nodes (min x 1048576).toNat

theorem nodes_le (n : Nat) : nodes n ≤ n := by
  induction n using Nat.strongRecOn with
  | _ n ih =>
    unfold nodes
    split
    · omega
    · split
      · omega
      · have := ih (n / 4) (by omega); omega
theorem nodes_pos (n : Nat) (h : 0 < n) : 1 ≤ nodes n := by
  unfold nodes
  split
  · omega
  · split <;> omega
theorem nodes_mono (n m : Nat) (h : n ≤ m) : nodes n ≤ nodes m := by
  induction m using Nat.strongRecOn generalizing n with
  | _ m ih =>
    by_cases h0 : n = 0
    · subst h0; unfold nodes; rw [if_pos rfl]; exact Nat.zero_le _
    · by_cases h8 : n < 8
      · have := nodes_pos m (by omega)
        have e : nodes n = 1 := by unfold nodes; rw [if_neg h0, if_pos h8]
        omega
      · have := ih (m / 4) (by omega) (n / 4) (by omega)
        unfold nodes
        rw [if_neg h0, if_neg h8, if_neg (by omega), if_neg (by omega)]
        omega

def blocks (n : Int) : Int := if n ≤ 0 then 0 else (n - 1) / 40 + 1
theorem nodesI_1 : nodesI 1 = 1 := by unfold nodesI nodes; rfl
def sums (l : List Int) : Int := (l.map nodesI).sum
def sumss (ls : List (List Int)) : Int := (ls.map sums).sum
end Go.Proofs.YtoocebghlchcoaaGreat.Need
