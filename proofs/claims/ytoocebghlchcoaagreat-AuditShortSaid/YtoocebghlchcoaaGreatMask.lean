/- Worlds of which only some blocks are seen: what lies in these blocks alone. No program in sight. -/
import Derived.Test.YtoocebghlchcoaaGreatStateP
namespace Go.Ov
open Go.RowKit

/-- a world of which only some blocks are seen -/
def only (w : World) (G : Nat → Bool) : World := { w with heap := w.heap.mapIdx fun i o => if G i then o else .cells #[] 0 (0, 0) }
theorem only_size (w : World) (G : Nat → Bool) : (only w G).heap.size = w.heap.size := by simp [only]
theorem only_get (w : World) (G : Nat → Bool) (b : Nat) (h : G b = true) : (only w G).heap[b]? = w.heap[b]? := by
  simp only [only, Array.getElem?_mapIdx, h, if_true]
  cases w.heap[b]? <;> rfl
theorem only_cell {w : World} {G : Nat → Bool} {a : Addr} {v : Value} (h : (only w G).cell? a = some v) : G a.block = true ∧ w.cell? a = some v := by
  cases hg : G a.block with
  | true =>
    refine ⟨rfl, ?_⟩
    unfold World.cell? at h ⊢
    rwa [only_get w G a.block hg] at h
  | false =>
    unfold World.cell? at h
    have : (only w G).heap[a.block]? = (w.heap[a.block]?).map fun _ => .cells #[] 0 (0, 0) := by
      simp only [only, Array.getElem?_mapIdx, hg]
      cases w.heap[a.block]? <;> rfl
    rw [this] at h
    cases hh : w.heap[a.block]? with
    | none => rw [hh] at h; cases h
    | some o =>
      rw [hh] at h
      simp at h
theorem cell_only {w : World} {G : Nat → Bool} {a : Addr} {v : Value} (hg : G a.block = true) (h : w.cell? a = some v) : (only w G).cell? a = some v := by
  unfold World.cell? at h ⊢
  rwa [only_get w G a.block hg]
/-- every cell of the one is there in the other -/
def Sub (a b : World) : Prop := ∀ ad v, a.cell? ad = some v → b.cell? ad = some v
theorem Sub.refl (a : World) : Sub a a := fun _ _ h => h
theorem Sub.trans {a b c : World} (h : Sub a b) (k : Sub b c) : Sub a c := fun _ _ q => k _ _ (h _ _ q)
theorem Sub.bl {a b : World} (h : Bl a b) : Sub a b := fun _ _ q => h.cell q
theorem Sub.un (w : World) (G : Nat → Bool) : Sub (only w G) w := fun _ _ h => (only_cell h).2
theorem Sub.mono {w : World} {G G' : Nat → Bool} (h : ∀ b, G b = true → G' b = true) : Sub (only w G) (only w G') := fun _ _ q => cell_only (h _ (only_cell q).1) (only_cell q).2
theorem Bl.only {a b : World} (h : Bl a b) (G : Nat → Bool) : Bl (only a G) (only b G) := ⟨h.os, h.tape, h.output, by rw [only_size, only_size]; exact h.size, fun k hk => by
  rw [only_size] at hk
  have := h.block k hk
  simp only [Go.Ov.only, Array.getElem?_mapIdx, this]⟩
theorem Sub.grown {a b : World} {row : Option Nat} (h : a.grownBy b row) {G : Nat → Bool} (hg : ∀ k, row = some k → G k = false) : Sub (only a G) (only b G) := fun ad v q => by
  obtain ⟨h1, h2⟩ := only_cell q
  refine cell_only h1 ?_
  have hlt := World.block_lt_of_cell? a ad h2
  unfold World.cell? at h2 ⊢
  rw [h.block ad.block hlt (fun e => by rw [hg _ e.symm] at h1; cases h1)]; exact h2
theorem Sub.at {a b : World} (h : Sub a b) {α : Type} {E : Enc α} {A : Option Addr} {xs : List α} (hA : E.At a A xs) : E.At b A xs := fun i x hx => by
  obtain ⟨ad, e, hc⟩ := hA i x hx
  exact ⟨ad, e, fun j u hu => h _ _ (hc j u hu)⟩
theorem Sub.is {a b : World} (h : Sub a b) {α : Type} {E : Enc α} {v : Value} {xs : List α} (hA : E.Is a v xs) : E.Is b v xs := by
  obtain ⟨A, c, e, hl, hm, hn, hA⟩ := hA
  exact ⟨A, c, e, hl, hm, hn, h.at hA⟩
theorem Sub.node {a b : World} (h : Sub a b) {n : NodeM} {p : NH} (hr : NodeR a n p) : NodeR b n p := by
  induction hr with
  | mk l f q x y z hs h1 h2 h3 h4 _ ih => exact .mk l f q x y z hs (h.is h1) (h.is h2) (h.is h3) h4 ih
theorem Sub.nodes {a b : World} (h : Sub a b) {hs : List NH} {ns : List NodeM} (hr : NRows a hs ns) : NRows b hs ns := ⟨hr.1, fun i x y hx hy => h.node (hr.2 i x y hx hy)⟩
theorem Sub.tree {a b : World} (h : Sub a b) {v : Value} {t : TreeM} (ht : TreeIs a v t) : TreeIs b v t := by
  obtain ⟨b', u, n, e, h0, h1, h2, h3, h4, h5⟩ := ht
  exact ⟨b', u, n, e, h _ _ h0, h _ _ h1, h _ _ h2, h _ _ h3, h.is h4, h.node h5⟩
theorem Sub.trows {a b : World} (h : Sub a b) {hs : List TH} {s : StM} (hr : TRows a hs s) : TRows b hs s := ⟨hr.1, fun i x y hx hy => ⟨(hr.2 i x y hx hy).1, h.tree (hr.2 i x y hx hy).2⟩⟩
theorem Sub.state {a b : World} (h : Sub a b) {v : Value} {s : StM} (hs : StateIs a v s) : StateIs b v s := by
  obtain ⟨b', u, hs, e, h0, h1, h2⟩ := hs
  exact ⟨b', u, hs, e, h _ _ h0, h.is h1, h.trows h2⟩
/-- new blocks -/
def fr (w : World) : Nat → Bool := fun b => decide (w.heap.size ≤ b)
/-- these, and new ones -/
def gor (G : Nat → Bool) (w : World) : Nat → Bool := fun b => G b || decide (w.heap.size ≤ b)
theorem fr_le {w w' : World} (h : w.heap.size ≤ w'.heap.size) (b : Nat) (hb : fr w' b = true) : fr w b = true := by simp [fr] at *; omega
theorem fr_gor (G : Nat → Bool) (w : World) (b : Nat) (h : fr w b = true) : gor G w b = true := by simp [fr, gor] at *; exact .inr h
theorem gor_l (G : Nat → Bool) (w : World) (b : Nat) (h : G b = true) : gor G w b = true := by simp [gor, h]
theorem gor_le {G : Nat → Bool} {w w' : World} (h : w.heap.size ≤ w'.heap.size) (b : Nat) (hb : gor G w' b = true) : gor G w b = true := by
  simp [gor] at *
  rcases hb with hb | hb
  · exact .inl hb
  · exact .inr (by omega)
theorem gor_gor {G : Nat → Bool} {w w' : World} (h : w.heap.size ≤ w'.heap.size) (b : Nat) (hb : gor (gor G w) w' b = true) : gor G w b = true := by
  simp [gor] at *
  rcases hb with (hb | hb) | hb
  · exact .inl hb
  · exact .inr hb
  · exact .inr (by omega)
theorem fr_ge {w : World} {k base : Nat} (h : w.heap.size ≤ base) (hk : base ≤ k) : fr w k = true := by simp [fr]; omega
theorem Enc.Own.isM {α : Type} {E : Enc α} {e : TypeId} {w : World} {base : Nat} {v : Value} {xs : List α} (h : E.Own e w base v xs) {G : Nat → Bool} (hG : ∀ k, base ≤ k → G k = true) : E.Is (only w G) v xs := by
  have hl := h.lt
  obtain ⟨A, c, rfl, h1, h2, h3, h4⟩ := h.is
  refine ⟨A, c, rfl, h1, h2, h3, fun i x hx => ?_⟩
  obtain ⟨ad, rfl, hc⟩ := h4 i x hx
  refine ⟨ad, rfl, fun j u hu => cell_only ?_ (hc j u hu)⟩
  have hb : ∀ k, (ad.add k).block = ad.block := fun k => by unfold Addr.add; split <;> rfl
  rw [hb]
  exact hG _ (hl ad.block (by simp [Value.ownBlock])).1
theorem Blk.only {w : World} {b : Nat} {cs : Array Value} {T : TypeId} (h : Blk w b cs T) {G : Nat → Bool} (hG : G b = true) : Blk (only w G) b cs T := by
  unfold Blk at *; rw [only_get w G b hG]; exact h
end Go.Ov
