/- The two finds agree on valid rows. -/
import Derived.Test.YtaedelhdandflaaRiseW
import Derived.Test.YtaedelhdandflaaCutsPure
namespace Go.Proofs.Ytaedelhdandflaa.ExtW
open Go.RowKit Go.Ov Go.Proofs.Ytaedelhdandflaa.Need

theorem find_same : ∀ (l : List Ext) (a x : Int) (k : Nat), 0 ≤ a → a ≤ 1000 → x ≤ 9223372036854775807 → validFrom a l = true → findP (hasM x) k l = findP (hasR x) k l
  | [], _, _, _, _, _, _, _ => rfl
  | e :: l, a, x, k, ha, ha2, hx, h => by
    have hc := (valid_cons h).1
    have hv : validFrom (a + e.take) l = true := by simp [validFrom] at h; exact h.2
    have hk : 1 ≤ e.take ∧ e.take ≤ 1000 - a := by simp [validFrom, oneB] at h; omega
    have hs : hasM x e = hasR x e := by
      unfold hasM hasR
      rw [show wrap64 (e.at_ + e.take) = e.at_ + e.take from wrap_id (by omega) (by omega), Bool.eq_iff_iff]
      simp only [Bool.and_eq_true, decide_eq_true_eq]
      constructor
      · rintro ⟨h1, h2⟩
        rw [wrap_id (by omega) (by omega)] at h2
        exact ⟨h1, by omega⟩
      · rintro ⟨h1, h2⟩
        rw [wrap_id (by omega) (by omega)]
        exact ⟨h1, by omega⟩
    unfold findP
    rw [hs, find_same l (a + e.take) x (k + 1) (by omega) (by omega) hx hv]
end Go.Proofs.Ytaedelhdandflaa.ExtW
