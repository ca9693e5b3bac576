/- Contracts of crc: New, step. -/
import Derived.Test.YtoocebghlchcoaaGreatWrW
import Derived.Test.YtoocebghlchcoaaGreatCrcP
namespace Go.Ov
open Go.RowKit
theorem wrap_u32v (n : Int) : IntKind.u32.wrap n = n % 4294967296 := by simp [IntKind.wrap, IntKind.bits, IntKind.signed]
theorem xor_u32 (a b : BitVec 32) : bits .xor .u32 (a.toNat : Int) (b.toNat : Int) = ((a ^^^ b).toNat : Int) := by
  have h : ∀ a : BitVec 32, BitVec.ofInt 32 (a.toNat : Int) = a := fun a => by rw [BitVec.ofInt_natCast, BitVec.ofNat_toNat]; simp
  have hx : (a ^^^ b).toNat < 4294967296 := (a ^^^ b).isLt
  show IntKind.u32.wrap ((BitVec.ofInt 32 (a.toNat : Int) ^^^ BitVec.ofInt 32 (b.toNat : Int)).toNat : Int) = _
  rw [h, h, wrap_u32v]; omega
theorem shl1_u32 (a : BitVec 32) : (a.toNat : Int) * (2 : Int) % (4294967296 : Int) = ((a <<< 1).toNat : Int) := by
  rw [BitVec.toNat_shiftLeft, Nat.shiftLeft_eq]; omega
theorem msb_u32 (a : BitVec 32) : ((a.toNat : Int) / 2147483648 == 1) = a.msb := by
  rw [BitVec.msb_eq_decide]
  have := a.isLt
  by_cases h : 2 ^ (32 - 1) ≤ a.toNat
  · simp only [h, decide_true, beq_iff_eq]; omega
  · simp only [h, decide_false, beq_eq_false_iff_ne, ne_eq]; omega
theorem Blk.newC {cs' : Array Value} (w : World) {cs : Array Value} (T : TypeId) (h : cs = cs') : Blk (w.alloc (.cells cs T)) w.heap.size cs' T := by rw [← h]; exact Blk.new _ _ _
theorem gb_drew {a b : World} {row : Option Nat} (h : a.grownBy b row) : a.grownBy b.drew row := ⟨h.os, h.tape, h.output, h.size, h.block⟩
end Go.Ov
namespace Go.Proofs.YtoocebghlchcoaaGreat.ExtW
open Go.RowKit Go.Ov Go.Proofs.YtoocebghlchcoaaGreat.Need

def tabL (d s : Int) (m : Bool) (f : Nat → Int) : List Value := .int .u32 d :: .int .i32 s :: .int .u32 0 :: .bool m :: (List.range 256).map fun i => .int .u32 (f i)
def tabC (d s : Int) (m : Bool) (f : Nat → Int) : Array Value := (tabL d s m f).toArray
theorem cnew_any (w : World) : Calls Tryz.prog 67 #[] w fun e w' => e = .returned (.pointer (some ⟨w.heap.size, 0, none⟩)) ∧ Bl w w' ∧ Blk w' w.heap.size (tabC 0 0 false fun _ => 0) 201 := by
  go_enter Tryz.func67, Tryz.ntmps67
  go_wp2
  go_ret
  exact ⟨rfl, (Bl.refl _).alloc _, Blk.newC _ _ (by kernel_rfl)⟩
theorem cstep_any (s : BitVec 32) (w : World) : Calls Tryz.prog 190 #[.int .u32 s.toNat] w fun e w' => e = .returned (.int .u32 (stepC 8 s).toNat) ∧ w' = w := by
  go_enter Tryz.func190, Tryz.ntmps190
  go_wp2_with fail
  go_loopg [0, 4] 8 (fun gk v i wr => ∃ (k : Nat) (t : BitVec 32), k ≤ 8 ∧ gk = 8 - k ∧ i = .int .i64 k ∧ v = .int .u32 t.toNat ∧ Hid (stepC (8 - k) t = stepC 8 s) ∧ wr = w)
  case atStart => exact ⟨0, s, by omega, rfl, rfl, rfl, Lib.hid rfl, rfl⟩
  case round =>
    obtain ⟨k, t, hk, hgk, rfl, rfl, HE, hw⟩ := hrel
    obtain rfl : w = wr := hw.symm
    by_cases hlt : k < 8
    · have hlti : (k : Int) < 8 := by omega
      have hm := msb_u32 t
      have HS := Lib.hid (show stepC (8 - k) t = stepC (8 - (k + 1)) (step1 t) by rw [show 8 - k = (8 - (k + 1)) + 1 by omega]; rfl)
      have HL := Lib.hid (shl1_u32 t)
      have HX := Lib.hid (xor_u32 (t <<< 1) polyC)
      cases hb : t.msb
      · rw [hb] at hm
        have H1 := Lib.hid (show step1 t = t <<< 1 by unfold step1; rw [hb]; rfl)
        go_wp2
        go_roundg (8 - (k + 1))
        case measure => omega
        case rel => exact ⟨k + 1, step1 t, by omega, rfl, by go_num, by rw [H1.out, ← HL.out], Lib.hid (by rw [← HS.out, HE.out]), rfl⟩
      · rw [hb] at hm
        have H1 := Lib.hid (show step1 t = (t <<< 1) ^^^ polyC by unfold step1; rw [hb]; rfl)
        go_wp2
        go_roundg (8 - (k + 1))
        case measure => omega
        case rel => exact ⟨k + 1, step1 t, by omega, rfl, by go_num, by rw [H1.out, ← HX.out, ← HL.out]; rfl, Lib.hid (by rw [← HS.out, HE.out]), rfl⟩
    · obtain rfl : k = 8 := by omega
      have HE2 := Lib.hid (show t = stepC 8 s from HE.out)
      go_wp2
      go_ret
      exact ⟨by rw [HE2.out]; rfl, rfl⟩
theorem cstep_at (x : Int) (s : BitVec 32) (h : x = s.toNat) (w : World) : Calls Tryz.prog 190 #[.int .u32 x] w fun e w' => e = .returned (.int .u32 (stepC 8 s).toNat) ∧ w' = w := by rw [h]; exact cstep_any s w
end Go.Proofs.YtoocebghlchcoaaGreat.ExtW
