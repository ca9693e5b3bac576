/- Bytes as strings, as numbers; a byte stored into a row. No program in sight. -/
import Derived.Test.YtoocebghlchcoaaGreatKpP
import Derived.Test.YtoocebghlchcoaaGreatFieldP
import Derived.Laws.BytesArg
import Derived.Lib.Strings
namespace Go.Ov
open Go.RowKit

theorem okB.take {l : List Int} (h : okB l) (n : Nat) : okB (l.take n) := fun c hc => h c (List.mem_of_mem_take hc)
theorem okB.drop {l : List Int} (h : okB l) (n : Nat) : okB (l.drop n) := fun c hc => h c (List.mem_of_mem_drop hc)
theorem okB.app {l m : List Int} (h : okB l) (k : okB m) : okB (l ++ m) := fun c hc => by
  rcases List.mem_append.1 hc with q | q
  · exact h c q
  · exact k c q
theorem put_ok (n : Int) (w : Nat) : okB (putF n w) := fun c hc => by
  have := put_byte n w c hc
  simpa [isByte] using this
theorem sum4_ok (l : List Int) : okB (sum4 l) := fun c hc => by
  have hx := (crcSum l).isLt
  unfold sum4 at hc
  simp only [List.mem_cons, List.not_mem_nil, or_false] at hc
  rcases hc with rfl | rfl | rfl | rfl <;> omega
theorem zeros_ok (n : Nat) : okB (List.replicate n 0) := fun c hc => by
  obtain ⟨_, rfl⟩ := List.mem_replicate.1 hc; omega
theorem rowB_set (xs : List Int) (i : Nat) (x : Int) : (rowB xs).setIfInBounds i (.int .u8 x) = rowB (xs.set i x) := by
  apply Array.toList_inj.1
  rw [Array.toList_setIfInBounds, rowB_list, rowB_list, List.map_set]
theorem byte_str {P : Program} {w : World} {v : Value} {xs : List Int} (h : byteE.Is w v xs) (src dst e : TypeId) (hs : P.underlying src = some (.slice e)) (he : P.underlying e = some (.int .u8)) (hd : P.underlying dst = some .string) :
    (convert src dst v).run P w = .ok (.string (strOfNums xs)) w := by
  obtain ⟨A, c, rfl, h1, h2, h3, h4⟩ := h
  rw [run_convert_bytes_string w src dst e A xs.length c hs he hd]
  cases xs with
  | nil =>
    cases A with
    | none =>
      simp [Conv.bytesToString, strOfNums, ByteArray.empty, ByteArray.emptyWithCapacity]
      rfl
    | some a =>
      have := run_bytesToString (P := P) w a 0 c [] (run_loadCells_list (P := P) w a [] (fun j v hj => by simp at hj))
      exact this
  | cons x l =>
    obtain ⟨ad, rfl, _⟩ := byte_at h4 0 (by simp)
    have hl := run_loadCells_list (P := P) w ad ((x :: l).map (Value.int .u8)) (fun j v hj => by
      have hjl : j < (x :: l).length := by have := (List.getElem?_eq_some_iff.1 hj).1; simpa using this
      obtain ⟨ad', e', hc⟩ := byte_at h4 j hjl
      injection e' with e'
      subst e'
      rw [hc, ← hj]
      simp only [List.getElem?_map]
      rw [List.getElem?_eq_getElem hjl]; rfl)
    rw [List.length_map] at hl
    rw [run_bytesToString w ad _ c (x :: l) hl, foldl_push_bytes]
    simp [strOfNums, ByteArray.empty, ByteArray.emptyWithCapacity]
    rfl
theorem str_inj {xs ys : List Int} (hx : okB xs) (hy : okB ys) (h : strOfNums xs = strOfNums ys) : xs = ys := by
  have h1 := congrArg (fun b => b.data.toList) h
  simp only [strOfNums_data] at h1
  have hl : xs.length = ys.length := by have := congrArg List.length h1; simpa using this
  apply List.ext_getElem hl
  intro i h2 h3
  have h4 := congrArg (fun l => l[i]?) h1
  simp only [List.getElem?_map, List.getElem?_eq_getElem h2, List.getElem?_eq_getElem h3, Option.map_some, Option.some.injEq] at h4
  have h5 := hx _ (List.getElem_mem h2)
  have h6 := hy _ (List.getElem_mem h3)
  have h7 := congrArg UInt8.toNat h4
  simp only [UInt8.toNat_ofNat'] at h7
  omega
theorem or_join (n b : Int) (hn : 0 ≤ n) (hn2 : n < 281474976710656) (hb : 0 ≤ b ∧ b < 256) : bits .or .i64 (n * 256) b = n * 256 + b := by
  have := bits_join .i64 62 (by decide) (fun n h0 h1 => IntWalk.i64_in _ (by omega)) 8 (n * 256) b (by omega) (by show n * 256 % 256 = 0; omega) (by omega) hb.1 (by show b < 256; exact hb.2) (by omega)
  exact this
theorem get_small (l : List Int) (h : okB l) (hl : l.length ≤ 5) : 0 ≤ getF l ∧ getF l < 1099511627776 := by
  have h1 := get_bd l (fun b hb => by have := h b hb; simp [isByte]; exact this)
  have h2 : (256 : Int) ^ l.length = ((256 ^ l.length : Nat) : Int) := by simp
  have h3 : 256 ^ l.length ≤ 256 ^ 5 := Nat.pow_le_pow_right (by decide) hl
  rw [h2] at h1
  omega
theorem putF_snoc (n : Int) (k : Nat) : putF n (k + 1) = putF n k ++ [n / 256 ^ k % 256] := by
  induction k generalizing n with
  | zero => simp [putF]
  | succ k ih =>
    rw [putF, ih (n / 256), putF, List.cons_append]
    congr 2
    rw [Int.pow_succ, Int.mul_comm, Int.ediv_ediv_of_nonneg (by decide)]
theorem getF_cons_drop (l : List Int) (k : Nat) (hk : k < l.length) : getF (l.drop k) = 256 * getF (l.drop (k + 1)) + l[k] := by
  rw [List.drop_eq_getElem_cons hk]; rfl
end Go.Ov
