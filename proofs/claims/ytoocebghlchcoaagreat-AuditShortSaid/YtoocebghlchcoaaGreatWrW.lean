/- Contracts of bits.Writer: NewWriter, put, Put, Ones, Len, Bytes. -/
import Derived.Test.YtoocebghlchcoaaGreatNeed
import Derived.Test.YtoocebghlchcoaaGreatWrP
import Derived.Test.YtoocebghlchcoaaGreatCanon
namespace Go.Proofs.YtoocebghlchcoaaGreat.ExtW
open Go.RowKit Go.Ov Go.Proofs.YtoocebghlchcoaaGreat.Need

theorem infoByte : (Tryz.prog.info? 5).map (fun i => (i.zero, i.size, i.bytes)) = some (some (.int .u8 0), 1, 1) := by kernel_rfl
theorem or_new (x i : Nat) (hx : x % 2 ^ (i + 1) = 0) (hx1 : x < 256) (hi : i < 8) : bits .or .u8 (x : Int) ((2 ^ i : Nat) : Int) = ((x + 2 ^ i : Nat) : Int) := by
  have hp : 2 ^ i < 256 := by
    have : ∀ j : Fin 8, 2 ^ j.1 < 256 := by decide
    exact this ⟨i, hi⟩
  have hlt : 2 ^ i < 2 ^ (i + 1) := Nat.pow_lt_pow_right (by decide) (by omega)
  have hx' : (x : Int) % 2 ^ (i + 1) = 0 := by
    have e : ((2 : Int) ^ (i + 1)) = ((2 ^ (i + 1) : Nat) : Int) := by simp
    rw [e, ← Int.natCast_emod, hx]; rfl
  rw [bits_join .u8 8 (by decide) wraps_u8 (i + 1) x _ (by omega) hx' (by omega) (by omega) (by
    have e : ((2 : Int) ^ (i + 1)) = ((2 ^ (i + 1) : Nat) : Int) := by simp
    rw [e]; omega) (by omega)]
  omega
theorem add_zero_block (g q : Nat) : (⟨g, 0, none⟩ : Addr).add q = ⟨g, q, none⟩ := by unfold Addr.add; split <;> simp_all
theorem lies_ne {w : World} {row row' : Option Nat} {B : Nat} (h : Lies w row row') (hr : row ≠ some B) (hB : B < w.heap.size) : row' ≠ some B := by
  rcases h with e | ⟨g, e, hg⟩
  · rw [e]; exact hr
  · rw [e]; intro h; injection h with h; omega
/-- where a digit goes: the row, the byte -/
def SlotOk (bs : List Bool) (q r : Nat) (P : List Int) : Prop := P.length = q + 1 ∧ (∃ o : Nat, P.getD q 0 = (o : Int) ∧ o < 256 ∧ o % 2 ^ (8 - r) = 0) ∧ ∀ b, packB (bs ++ [b]) = P.set q (P.getD q 0 + ((bv b * 2 ^ (7 - r) : Nat) : Int))
theorem slot_new (bs : List Bool) (q : Nat) (h : bs.length = 8 * q) : SlotOk bs q 0 (packB bs ++ [0]) := by
  have hl := packB_len bs
  have hq : (packB bs).length = q := by omega
  have hg : (packB bs ++ [0]).getD q 0 = 0 := by rw [List.getD_eq_getElem?_getD, List.getElem?_append_right (by omega)]; simp [hq]
  refine ⟨by simp [hq], ⟨0, by rw [hg]; rfl, by decide, by simp⟩, fun b => ?_⟩
  rw [packB_snoc_new bs b (by omega), hg, List.set_append_right _ _ (by omega), hq, Nat.sub_self]
  simp
theorem slot_old (bs : List Bool) (q r : Nat) (hr : r < 7) (h : bs.length = 8 * q + (r + 1)) : SlotOk bs q (r + 1) (packB bs) := by
  have hl := packB_len bs
  have hq : bs.length / 8 = q := by omega
  have hm : bs.length % 8 = r + 1 := by omega
  have hlt : q < (packB bs).length := by omega
  have hg : (packB bs).getD q 0 = (byteAt bs q : Int) := by rw [List.getD_eq_getElem?_getD, List.getElem?_eq_getElem hlt, Option.getD_some, packB_at]
  refine ⟨by omega, ⟨byteAt bs q, hg, byteAt_lt bs q, by have := byteAt_low bs; rw [hq, hm] at this; exact this⟩, fun b => ?_⟩
  have := packB_snoc_old bs b (by omega) (by omega)
  simp only [hq, hm] at this
  rw [this, hg, packB_at]

end Go.Proofs.YtoocebghlchcoaaGreat.ExtW
