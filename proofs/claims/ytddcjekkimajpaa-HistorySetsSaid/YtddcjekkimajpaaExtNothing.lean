/- The walk of overdublaw18.ExtentNothing. -/
import Derived.Test.YtddcjekkimajpaaSpotsW
import Derived.Test.YtddcjekkimajpaaOpenExt
namespace Go.Proofs.Ytddcjekkimajpaa.ExtW
open Go.RowKit Go.Ov Go.Proofs.Ytddcjekkimajpaa.Need

theorem splice_eq (v u : Value) (l new : List Ext) (fr tt : Int) (w : World) (h : extE.Is w v l) (hn : extE.Is w u new) (hv : validFrom 0 l = true) (hlen : new.length * 40 ≤ 100000000000000) {R : List Ext} {c : Int} (hm : spliceM l fr tt new = (R, c)) :
    Calls Try.prog 70 #[v, .int .i64 fr, .int .i64 tt, u] w fun e w' => ∃ z, e = .returned (.tuple #[z, .int .i64 c]) ∧ extE.Own 38 w' w.heap.size z R ∧ Bl w w' := by
  have := splice_any v u l new fr tt w h hn hv hlen
  rw [hm] at this; exact this
theorem end_eq (v : Value) (l : List Ext) (w : World) (h : extE.Is w v l) {n : Int} (hm : wrap64 (endM l) = n) :
    Calls Try.prog 63 #[v] w fun e w' => e = .returned (.int .i64 n) ∧ Bl w w' := by
  have := end_any v l w h
  rw [hm] at this; exact this

theorem valid_small : ∀ (l : List Ext) (a : Int), validFrom a l = true → ∀ e ∈ l, small e = true
  | [], _, _ => fun e h => by simp at h
  | x :: l, a, hv => by
    obtain ⟨e0, e1, e2, e3, e4, e5, e6, e7, e8, e9⟩ := valid_cons hv
    intro e he
    rcases List.mem_cons.1 he with rfl | he
    · simp [small]; omega
    · exact valid_small l _ e9 e he
theorem valid_len (l : List Ext) (h : validFrom 0 l = true) : l.length ≤ 1000 := by have := validFrom_bd l 0 (by decide) h; omega
theorem shift_zero : ∀ (l : List Ext) (a : Int), 0 ≤ a → a ≤ 1000 → validFrom a l = true → shiftM 0 l = l
  | [], _, _, _, _ => rfl
  | x :: l, a, h0, h1, hv => by
    obtain ⟨e0, e1, e2, e3, e4, e5, e6, e7, e8, e9⟩ := valid_cons hv
    show shiftE 0 x :: shiftM 0 l = x :: l
    rw [shift_zero l (a + x.take) (by omega) e8 e9]
    obtain ⟨x0, x1, x2, x3, x4⟩ := x
    simp only at e0
    simp only [shiftE, Int.add_zero]
    rw [wrap_id (by omega) (by omega)]

/-- what the statement says, of the model -/
theorem nothing_pure (R M : List Ext) (at_ : Int) (hR : validFrom 0 R = true) (hM : validFrom 0 M = true) (h0 : 0 ≤ at_) (h1 : at_ ≤ endM R) :
    spliceM R at_ at_ [] = (spliceL R at_ at_ [], 0) ∧ validFrom 0 (spliceL R at_ at_ []) = true ∧ spotsM (spliceL R at_ at_ []) = spotsM R ∧
    spliceM R 0 (endM R) M = (M, 0) ∧ spliceM R 0 (endM R) [] = ([], 0) ∧ spliceM [] 0 0 M = (M, 0) ∧ spliceM R (endM R + 1) (endM R + 1) [] = ([], 1) ∧ spliceM R 0 (-1) [] = ([], 1) := by
  have b1 := valid_bd R 0 (by decide) hR
  have b2 := valid_bd M 0 (by decide) hM
  have hn : endM [] = 0 := rfl
  have good : ∀ (l : List Ext) (fr tt : Int) (new : List Ext), validFrom 0 new = true → 0 ≤ fr → fr ≤ tt → fr ≤ endM l → fr + endM new + endM l - min tt (endM l) ≤ 1000 → spliceM l fr tt new = (spliceL l fr tt new, 0) := by
    intro l fr tt new h1 h2 h3 h4 h5
    unfold spliceM spliceBad spliceLong
    rw [if_neg (by simp [h1]; omega), if_neg (by simp; omega)]
  have whole : ∀ (l new : List Ext), validFrom 0 l = true → validFrom 0 new = true → spliceL l 0 (endM l) new = new := by
    intro l new hl hn
    unfold spliceL
    rw [cut_nil l 0 0 0 (by decide) hl (by decide), shift_zero new 0 (by decide) (by decide) hn, Int.min_self, cut_nil l 0 _ _ (by decide) hl (by omega)]
    simp [shiftM]
  refine ⟨good _ _ _ _ rfl h0 (Int.le_refl _) h1 (by omega), splice_valid R [] _ _ hR rfl h0 (Int.le_refl _) h1 (by omega), ?_, ?_, ?_, ?_, ?_, ?_⟩
  · rw [splice_spots R [] _ _ hR h0 (Int.le_refl _) h1, Int.min_eq_left h1]
    simp [spotsM]
  · rw [good _ _ _ _ hM (by decide) (by omega) (by omega) (by omega), whole R M hR hM]
  · rw [good _ _ _ _ rfl (by decide) (by omega) (by omega) (by omega), whole R [] hR rfl]
  · rw [good [] 0 0 M hM (by decide) (by decide) (by decide) (by rw [hn]; omega)]; exact congrArg (·, 0) (whole [] M rfl hM)
  · unfold spliceM spliceBad; rw [if_pos (by simp; omega)]
  · unfold spliceM spliceBad; rw [if_pos (by simp)]

end Go.Proofs.Ytddcjekkimajpaa.ExtW
