/- Several texts joined (see each one's head). -/
import Derived.Test.YtoocebghlchcoaaGreatPkAP
import Derived.Deep.OwnRows
import Derived.Test.YtoocebghlchcoaaGreatPkAF
/- Contract of levin.Coefficients (weak: which coefficients, is not said). -/
namespace Go.Proofs.YtoocebghlchcoaaGreat.ExtW
open Go.RowKit Go.Ov Go.Proofs.YtoocebghlchcoaaGreat.Need

theorem rep_flat (n : Nat) : (List.replicate n (0 : Int)).flatMap intE.c = List.replicate n (.int .i64 0) := by
  induction n with
  | zero => rfl
  | succ n ih => rw [List.replicate_succ, List.flatMap_cons, ih, List.replicate_succ]; rfl
theorem int_put {T : TypeId} {w : World} {base g n cap : Nat} {xs : List Int} (h : intE.Own T w base (.slice (some ⟨g, 0, none⟩) n cap) xs) (i : Nat) (x : Int) (_ : i < xs.length) :
    intE.Own T (w.setCell ⟨g, i, none⟩ (.int .i64 x)) base (.slice (some ⟨g, 0, none⟩) n cap) (xs.set i x) := by
  have hf : ∀ l : List Int, l.flatMap intE.c = l.map (Value.int .i64) := fun l => by
    induction l with
    | nil => rfl
    | cons a l ih => rw [List.flatMap_cons, ih]; rfl
  obtain ⟨h1, h2⟩ := h
  rcases h2 with ⟨h2, _⟩ | ⟨g', c, cur, h2, h3, h4, h5, h6, h7, h8⟩
  · cases h2
  · simp at h2
    obtain ⟨rfl, rfl, rfl⟩ := h2
    refine ⟨by rw [flat_len, List.length_set], .inr ⟨g, cap, cur.setIfInBounds i (.int .i64 x), by rw [List.length_set], h3, setCell_at w g i _ cur T _ h4, by rw [List.length_set]; exact h5, h6, by simpa using h7, ?_⟩⟩
    rw [hf, Array.toList_setIfInBounds, List.take_set, List.length_set, h8, hf, List.map_set]

end Go.Proofs.YtoocebghlchcoaaGreat.ExtW

/- Contracts of frame: samples, residuals. -/
namespace Go.Proofs.YtoocebghlchcoaaGreat.ExtW
open Go.RowKit Go.Ov Go.Proofs.YtoocebghlchcoaaGreat.Need

theorem smpB_step (x : List Int) (k : Nat) (hk : k < x.length) : smpB (x.take (k + 1)) = smpB (x.take k) ++ numB (x[k] + 8388608) 24 := by
  unfold smpB; rw [List.take_succ_eq_append_getElem hk, List.flatMap_append]; simp
theorem smpB_len (x : List Int) : (smpB x).length = 24 * x.length := by
  induction x with
  | nil => rfl
  | cons v x ih =>
    unfold smpB at ih ⊢
    rw [List.flatMap_cons, List.length_append, numB_len, ih, List.length_cons]; omega
theorem coeB_step (x : List Int) (k : Nat) (hk : k < x.length) : coeB (x.take (k + 1)) = coeB (x.take k) ++ numB (x[k] + 32768) 16 := by
  unfold coeB; rw [List.take_succ_eq_append_getElem hk, List.flatMap_append]; simp
theorem coeB_len (x : List Int) : (coeB x).length = 16 * x.length := by
  induction x with
  | nil => rfl
  | cons v x ih =>
    unfold coeB at ih ⊢
    rw [List.flatMap_cons, List.length_append, numB_len, ih, List.length_cons]; omega

theorem rice_sum (k : Nat) (hk : k ≤ 24) (q : List Int) (h : q.all okZ = true) : (q.map fun a => (riceB k a).length).sum ≤ q.length * 56 := by
  induction q with
  | nil => simp
  | cons a q ih =>
    simp only [List.all_cons, Bool.and_eq_true] at h
    have h1 := riceB_len k hk a (by have := h.1; simp [okZ] at this; omega)
    have h2 := ih h.2
    simp only [List.map_cons, List.sum_cons, List.length_cons]
    omega
end Go.Proofs.YtoocebghlchcoaaGreat.ExtW

/- Contracts of frame: predicted, digits, Encode. -/
namespace Go.Ov
open Go.RowKit
theorem WrSt.frs {Tw Tb : TypeId} {w w1 : World} {base B : Nat} {v : Value} {bs : List Bool} (h : WrSt Tw Tb w base B v bs) : Sub (only w1 (fr w)) (only w1 (nobW B v)) := Sub.mono fun b hb => by
  have h1 := h.blk.lt
  have h2 := h.own.lt
  unfold nobW
  simp only [fr, decide_eq_true_eq] at hb
  simp only [Bool.and_eq_true, decide_eq_true_eq]
  exact ⟨by omega, fun q => by have := (h2 b q).2; omega⟩
theorem WrSt.old {Tw Tb : TypeId} {w w1 : World} {base B : Nat} {v : Value} {bs : List Bool} (h : WrSt Tw Tb w1 base B v bs) (hb : Bl w w1) (hw : w.heap.size ≤ base) : Sub w (only w1 (nobW B v)) := fun ad u q => cell_only (by
  have h1 := h.low
  have h2 := h.own.lt
  have h3 := World.block_lt_of_cell? w ad q
  unfold nobW
  simp only [Bool.and_eq_true, decide_eq_true_eq]
  exact ⟨by omega, fun q => by have := (h2 _ q).1; omega⟩) (hb.cell q)
end Go.Ov
namespace Go.Proofs.YtoocebghlchcoaaGreat.ExtW
open Go.RowKit Go.Ov Go.Proofs.YtoocebghlchcoaaGreat.Need

end Go.Proofs.YtoocebghlchcoaaGreat.ExtW
