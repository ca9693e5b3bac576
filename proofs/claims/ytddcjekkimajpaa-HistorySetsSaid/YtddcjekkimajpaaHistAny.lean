/- history.Apply, whole. -/
import Derived.Test.YtddcjekkimajpaaHistSmall
namespace Go.Proofs.Ytddcjekkimajpaa.ExtW
open Go.RowKit Go.Ov Go.Proofs.Ytddcjekkimajpaa.Need

def applyH (m : HistM) (r : Rec) : HistM × Int :=
  if validRec r = false then (m, 1)
  else if r.kind = 4 then (if h : 0 < m.undo.length then (undoM m h, 0) else (m, 5))
  else if r.kind = 5 then (if h : 0 < m.redo.length then (redoM m h, 0) else (m, 5))
  else if (applyR m.now r).2 = 0 then (stepH m (applyR m.now r).1, 0) else (m, (applyR m.now r).2)
theorem valid_kind {r : Rec} (h : validRec r = true) (h4 : r.kind ≠ 4) (h5 : r.kind ≠ 5) : r.kind ≤ 3 := by
  unfold validRec at h
  by_cases h1 : r.kind = 1 ∨ r.kind = 2
  · omega
  · rw [if_neg h1, if_neg (by omega)] at h
    by_cases h3 : r.kind = 3
    · omega
    · rw [if_neg h3] at h; cases h
theorem happly_any (B : Nat) (m : HistM) (rv : Value) (r : Rec) (w : World) (h : HistIs 95 w B m) (hr : RecIs w rv r) (hs : StOK m.now) (hn : m.undo.length ≤ 4) (hn' : m.redo.length ≤ 4) :
    Calls Try.prog 23 #[.pointer (some ⟨B, 0, none⟩), rv] w fun e w' => e = .returned (.int .i64 (applyH m r).2) ∧ HistIs 95 w' B (applyH m r).1 ∧ w.grownBy w' (some B) := by
  unfold applyH
  by_cases hv : validRec r = false
  · rw [if_pos hv]
    exact (happly_bad B rv r w hr hv).mono fun e w' ⟨h1, h2⟩ => ⟨h1, h.bl h2, grown_bl h2⟩
  · rw [if_neg hv]
    have hv' : validRec r = true := by simpa using hv
    by_cases h4 : r.kind = 4
    · rw [if_pos h4]
      by_cases hu : 0 < m.undo.length
      · rw [dif_pos hu]; exact happly_undo B m rv r w h hr h4 hv' hu hn hn'
      · rw [dif_neg hu]; exact (happly_undo0 B m rv r w h hr h4 hv' (by omega)).mono fun e w' ⟨h1, h2⟩ => ⟨h1, h.bl h2, grown_bl h2⟩
    · rw [if_neg h4]
      by_cases h5 : r.kind = 5
      · rw [if_pos h5]
        by_cases hu : 0 < m.redo.length
        · rw [dif_pos hu]; exact happly_redo B m rv r w h hr h5 hv' hu hn' hn
        · rw [dif_neg hu]; exact (happly_redo0 B m rv r w h hr h5 hv' (by omega)).mono fun e w' ⟨h1, h2⟩ => ⟨h1, h.bl h2, grown_bl h2⟩
      · rw [if_neg h5]
        refine (happly_change B m rv r w h hr (valid_kind hv' h4 h5) hv' hs hn).mono fun e w' ⟨h1, h2, h3⟩ => ?_
        by_cases hz : (applyR m.now r).2 = 0
        · rw [if_pos hz]; exact ⟨by rw [h1, hz], h3 hz⟩
        · rw [if_neg hz]; exact ⟨h1, h.bl (h2 hz), grown_bl (h2 hz)⟩
end Go.Proofs.Ytddcjekkimajpaa.ExtW
