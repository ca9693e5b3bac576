/- Several texts joined (see each one's head). -/
import Derived.Test.YtoocebghlchcoaaGreatPkAM
/- Contract of lpc.Residual. -/
namespace Go.Proofs.YtoocebghlchcoaaGreat.ExtW
open Go.RowKit Go.Ov Go.Proofs.YtoocebghlchcoaaGreat.Need

end Go.Proofs.YtoocebghlchcoaaGreat.ExtW

/- Contracts of levin: floor, Auto. -/
namespace Go.Proofs.YtoocebghlchcoaaGreat.ExtW
open Go.RowKit Go.Ov Go.Proofs.YtoocebghlchcoaaGreat.Need

/-- bounds on sums of products -/
def AutoOk (r : List Int) : Prop := (∀ v ∈ r, -4503599627370496 ≤ v ∧ v ≤ 4503599627370496) ∧ 0 ≤ r.getD 0 0
theorem prod_bd {a b : Int} (ha : okS a = true) (hb : okS b = true) : -70368744177664 ≤ a * b ∧ a * b ≤ 70368744177664 := by
  unfold okS at ha hb
  simp only [Bool.and_eq_true, decide_eq_true_eq] at ha hb
  have := mul_bd (a := a) (b := b) (A := 8388608) (B := 8388608) (by omega) (by omega) (by omega) (by omega)
  omega

end Go.Proofs.YtoocebghlchcoaaGreat.ExtW

/- Contract of levin.Scaled. -/
namespace Go.Proofs.YtoocebghlchcoaaGreat.ExtW
open Go.RowKit Go.Ov Go.Proofs.YtoocebghlchcoaaGreat.Need

theorem sh_lt (x : Int) (s : Nat) (hx : x ≤ 4503599627370496) (hs : 23 ≤ s) : x / 2 ^ s < 1073741824 := by
  have h1 : (2 : Nat) ^ 23 ≤ 2 ^ s := Nat.pow_le_pow_right (by decide) hs
  have h2 : ((2 : Int) ^ s) = ((2 ^ s : Nat) : Int) := by simp
  have h3 : (8388608 : Int) ≤ 2 ^ s := by rw [h2]; have : (2 : Nat) ^ 23 = 8388608 := by decide
                                          omega
  exact Int.ediv_lt_of_lt_mul (by omega) (by omega)

end Go.Proofs.YtoocebghlchcoaaGreat.ExtW
