/- What ExtentFinds says of valid rows, in plain words. -/
import Derived.Test.YtaedelhdandflaaFindEq
namespace Go.Proofs.Ytaedelhdandflaa.ExtW
open Go.RowKit Go.Ov Go.Proofs.Ytaedelhdandflaa.Need

/-- a sample is found in the piece that has it -/
theorem find_spec : ∀ (l : List Ext) (a x : Int) (k : Nat), 0 ≤ a → a ≤ 1000 → validFrom a l = true →
    (¬ (a ≤ x ∧ x < a + endM l) → findP (hasR x) k l = (0, false)) ∧
    (a ≤ x → x < a + endM l → ∃ i, ∃ h : i < l.length, findP (hasR x) k l = (((k + i : Nat) : Int), true) ∧ l[i].at_ ≤ x ∧ x < l[i].at_ + l[i].take ∧ 0 ≤ l[i].at_ ∧ l[i].at_ + l[i].take ≤ 1000 ∧
      (spotsM l)[(x - a).toNat]? = some (l[i].sector, l[i].skip + (x - l[i].at_)))
  | [], a, x, k, _, _, _ => ⟨fun _ => rfl, fun h1 h2 => by simp [endM] at h2; omega⟩
  | e :: l, a, x, k, ha, ha2, h => by
    have hb := valid_bd _ a ha2 h
    have hc := (valid_cons h).1
    have hv : validFrom (a + e.take) l = true := by simp [validFrom] at h; exact h.2
    have hk : 1 ≤ e.take ∧ e.take ≤ 1000 - a := by simp [validFrom, oneB] at h; omega
    have hl := valid_bd l (a + e.take) (by omega) hv
    have ht : endM (e :: l) = e.take + endM l := rfl
    have hw : wrap64 (e.at_ + e.take) = e.at_ + e.take := wrap_id (by omega) (by omega)
    have hs : hasR x e = (decide (e.at_ ≤ x) && decide (x < e.at_ + e.take)) := by unfold hasR; rw [hw]
    have hsp : spotsM (e :: l) = spotE e ++ spotsM l := spotsM_cons e l
    by_cases hin : e.at_ ≤ x ∧ x < e.at_ + e.take
    · have hf : findP (hasR x) k (e :: l) = (((k : Nat) : Int), true) := by unfold findP; rw [hs]; simp [hin.1, hin.2]
      refine ⟨fun hn => by exfalso; omega, fun h1 h2 => ⟨0, by simp, by rw [hf]; simp, hin.1, hin.2, by simp; omega, by simp; omega, ?_⟩⟩
      rw [hsp, List.getElem?_append_left (by rw [spotE_len]; omega)]
      unfold spotE
      rw [List.getElem?_map, List.getElem?_range (by omega)]
      simp only [Option.map_some, List.getElem_cons_zero]
      congr 2
      omega
    · have hf : findP (hasR x) k (e :: l) = findP (hasR x) (k + 1) l := by
        rw [findP, hs, if_neg]; simp; omega
      obtain ⟨g1, g2⟩ := find_spec l (a + e.take) x (k + 1) (by omega) (by omega) hv
      have G2 := Lib.hid g2
      clear g2
      refine ⟨fun hn => by rw [hf]; exact g1 (by omega), fun h1 h2 => ?_⟩
      have e1 : (x - a).toNat - e.take.toNat = (x - (a + e.take)).toNat := by omega
      obtain ⟨i, hi, q1, q2, q3, q4, q5, q6⟩ := G2.out (by omega) (by omega)
      refine ⟨i + 1, by simp; omega, by rw [hf, q1]; congr 2; omega, by simpa using q2, by simpa using q3, by simpa using q4, by simpa using q5, ?_⟩
      rw [hsp, List.getElem?_append_right (by rw [spotE_len]; omega), spotE_len]
      rw [e1, q6]
      simp
end Go.Proofs.Ytaedelhdandflaa.ExtW
