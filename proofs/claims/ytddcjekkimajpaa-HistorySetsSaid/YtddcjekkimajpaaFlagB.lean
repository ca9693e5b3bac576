/- A block of flags: a store into it leaves every other datum as it is. No program in sight. -/
import Derived.Test.YtddcjekkimajpaaStateP
namespace Go.Ov
open Go.RowKit

def notB : Value → Bool
  | .bool _ => false
  | _ => true
/-- every cell that holds no flag stays -/
def KeepB (w w' : World) : Prop := ∀ a v, notB v = true → w.cell? a = some v → w'.cell? a = some v
theorem Blk.keepB {w : World} {B : Nat} {cs : Array Value} {T : TypeId} (h : Blk w B cs T) (hc : ∀ x ∈ cs, notB x = false) (j : Nat) (u : Value) : KeepB w (w.setCell ⟨B, j, none⟩ u) := by
  intro a v hv ha
  by_cases e : a.block = B
  · unfold World.cell? at ha
    rw [e] at ha
    unfold Blk at h
    rw [h] at ha
    dsimp only at ha
    split at ha
    · cases ha
    · have := hc v (Array.mem_of_getElem? ha)
      rw [hv] at this; cases this
  · rw [World.cell?_setCell_other (h := fun h => e (by rw [← h]))]; exact ha
section
variable {α : Type} {E : Enc α}
theorem Enc.At.kb {w w' : World} {A : Option Addr} {xs : List α} (hE : ∀ x u, u ∈ E.c x → notB u = true) (h : E.At w A xs) (hb : KeepB w w') : E.At w' A xs := fun i x hx => by
  obtain ⟨ad, e, hc⟩ := h i x hx
  exact ⟨ad, e, fun j u hu => hb _ _ (hE x u (List.mem_of_getElem? hu)) (hc j u hu)⟩
theorem Enc.Is.kb {w w' : World} {v : Value} {xs : List α} (hE : ∀ x u, u ∈ E.c x → notB u = true) (h : E.Is w v xs) (hb : KeepB w w') : E.Is w' v xs := by
  obtain ⟨A, c, e, hl, hm, hn, hA⟩ := h
  exact ⟨A, c, e, hl, hm, hn, hA.kb hE hb⟩
end
theorem int_nb (x : Int) (u : Value) (h : u ∈ intE.c x) : notB u = true := by simp [intE] at h; subst h; rfl
theorem ext_nb (x : Ext) (u : Value) (h : u ∈ extE.c x) : notB u = true := by change u ∈ Ext.vals x at h; simp only [Ext.vals, List.mem_cons, List.not_mem_nil, or_false] at h; rcases h with rfl | rfl | rfl | rfl | rfl <;> rfl
theorem node_nb (x : NH) (u : Value) (h : u ∈ nodeE.c x) : notB u = true := by simp [nodeE, Head.v] at h; rcases h with rfl | rfl | rfl <;> rfl
theorem track_nb (x : TH) (u : Value) (h : u ∈ trackE.c x) : notB u = true := by simp [trackE] at h; rcases h with rfl | rfl <;> rfl
theorem NodeR.kb {w w' : World} {n : NodeM} {h : NH} (hr : NodeR w n h) (hb : KeepB w w') : NodeR w' n h := by
  induction hr with
  | mk l f p a b c hs h1 h2 h3 h4 _ ih => exact .mk l f p a b c hs (h1.kb ext_nb hb) (h2.kb int_nb hb) (h3.kb node_nb hb) h4 ih
theorem TreeIs.kb {w w' : World} {v : Value} {t : TreeM} (h : TreeIs w v t) (hb : KeepB w w') : TreeIs w' v t := by
  obtain ⟨b, u, n, e, h0, h1, h2, h3, h4, h5⟩ := h
  exact ⟨b, u, n, e, hb _ _ rfl h0, hb _ _ rfl h1, hb _ _ rfl h2, hb _ _ rfl h3, h4.kb ext_nb hb, h5.kb hb⟩
theorem StateIs.kb {w w' : World} {v : Value} {s : StM} (h : StateIs w v s) (hb : KeepB w w') : StateIs w' v s := by
  obtain ⟨b, u, hs, e, h0, h1, h2⟩ := h
  exact ⟨b, u, hs, e, hb _ _ rfl h0, h1.kb track_nb hb, h2.1, fun i x y hx hy => ⟨(h2.2 i x y hx hy).1, (h2.2 i x y hx hy).2.kb hb⟩⟩
end Go.Ov
