/- Blocks known whole. No program in sight. -/
import Derived.Test.YtoocebghlchcoaaGreatCutsPure
namespace Go.Ov
open Go.RowKit

/-- a block, known whole -/
def Blk (w : World) (b : Nat) (cs : Array Value) (T : TypeId) : Prop := w.heap[b]? = some (.cells cs T (0, 0))
theorem Blk.new (w : World) (cs : Array Value) (T : TypeId) : Blk (w.alloc (.cells cs T)) w.heap.size cs T := heap_alloc_new w _
theorem Blk.lt {w : World} {b : Nat} {cs : Array Value} {T : TypeId} (h : Blk w b cs T) : b < w.heap.size := by
  unfold Blk at h
  by_cases hb : b < w.heap.size
  · exact hb
  · rw [Array.getElem?_eq_none (by omega)] at h; cases h
theorem Blk.bl {w w' : World} {b : Nat} {cs : Array Value} {T : TypeId} (h : Blk w b cs T) (hb : Bl w w') : Blk w' b cs T := by
  have hl := h.lt
  unfold Blk at *
  rw [hb.block b hl]; exact h
theorem Blk.cell {w : World} {b : Nat} {cs : Array Value} {T : TypeId} (h : Blk w b cs T) (j : Nat) : w.cell? ⟨b, j, none⟩ = cs[j]? := cell_of_row w b j cs T (0, 0) h
theorem Blk.frozen {w : World} {b : Nat} {cs : Array Value} {T : TypeId} (h : Blk w b cs T) (j : Nat) : w.frozen? ⟨b, j, none⟩ = false := frozen_of_row w b j cs T h
theorem Blk.set {w : World} {b : Nat} {cs : Array Value} {T : TypeId} (h : Blk w b cs T) (j : Nat) (u : Value) : Blk (w.setCell ⟨b, j, none⟩ u) b (cs.setIfInBounds j u) T := setCell_at w b j u cs T _ h
theorem Blk.set_else {w : World} {b : Nat} {cs : Array Value} {T : TypeId} (h : Blk w b cs T) (g j : Nat) (u : Value) (hg : g ≠ b) : Blk (w.setCell ⟨g, j, none⟩ u) b cs T := by
  unfold Blk at *; rw [setCell_else _ _ _ _ _ hg]; exact h
theorem Blk.drew {w : World} {b : Nat} {cs : Array Value} {T : TypeId} (h : Blk w b cs T) : Blk w.drew b cs T := h
theorem Blk.grown {w w' : World} {b : Nat} {cs : Array Value} {T : TypeId} {row : Option Nat} (h : Blk w b cs T) (hg : w.grownBy w' row) (hr : row ≠ some b) : Blk w' b cs T := by
  have hl := h.lt
  unfold Blk at *
  rw [hg.block b hl (fun e => hr e.symm)]; exact h
theorem Enc.Own.set {α : Type} {E : Enc α} {e : TypeId} {w : World} {base : Nat} {v : Value} {xs : List α} (h : E.Own e w base v xs) (g j : Nat) (u : Value) (hg : g < base) : E.Own e (w.setCell ⟨g, j, none⟩ u) base v xs :=
  h.grown (row := some g) ⟨rfl, rfl, rfl, by simp [World.setCell], fun k _ hk => setCell_else _ _ _ _ _ (fun h => hk (by rw [h]))⟩ (by
    cases hv : v.ownBlock with
    | none => exact .inl rfl
    | some k => refine .inr fun hk => ?_
                have := (h.lt k hv).1
                cases hk
                omega)
end Go.Ov
