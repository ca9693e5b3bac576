/- A writer of digits, as data: how it lies, and what stays when it is written. No program in sight. -/
import Derived.Test.YtoocebghlchcoaaGreatMask
import Derived.Test.YtoocebghlchcoaaGreatLib4
import Derived.Test.YtoocebghlchcoaaGreatBitsP
namespace Go.Ov
open Go.RowKit
def byteE : Enc Int := ⟨1, fun x => [.int .u8 x], fun _ => rfl, fun x u h => by simp at h; subst h; rfl⟩
theorem byte_flat (xs : List Int) : xs.flatMap byteE.c = xs.map (Value.int .u8) := by
  induction xs with
  | nil => rfl
  | cons x xs ih => rw [List.flatMap_cons, ih]; rfl
theorem byte_at {w : World} {A : Option Addr} {xs : List Int} (h : byteE.At w A xs) (k : Nat) (hk : k < xs.length) : ∃ ad, A = some ad ∧ w.cell? (ad.add k) = some (.int .u8 xs[k]) := by
  obtain ⟨ad, e, hc⟩ := h k _ (List.getElem?_eq_getElem hk)
  refine ⟨ad, e, ?_⟩
  have := hc 0 _ rfl
  simpa [byteE] using this
/-- a store into a row of bytes of one's own -/
theorem byte_put {T : TypeId} {w : World} {base g n cap : Nat} {xs : List Int} (h : byteE.Own T w base (.slice (some ⟨g, 0, none⟩) n cap) xs) (i : Nat) (x : Int) :
    byteE.Own T (w.setCell ⟨g, i, none⟩ (.int .u8 x)) base (.slice (some ⟨g, 0, none⟩) n cap) (xs.set i x) ∨ xs.length ≤ i := by
  by_cases hi : i < xs.length
  · left
    obtain ⟨h1, h2⟩ := h
    rcases h2 with ⟨h2, _⟩ | ⟨g', c, cur, h2, h3, h4, h5, h6, h7, h8⟩
    · cases h2
    · simp at h2
      obtain ⟨rfl, rfl, rfl⟩ := h2
      refine ⟨by rw [flat_len, List.length_set], .inr ⟨g, cap, cur.setIfInBounds i (.int .u8 x), by rw [List.length_set], h3, setCell_at w g i _ cur T _ h4, by rw [List.length_set]; exact h5, h6, by simpa using h7, ?_⟩⟩
      rw [byte_flat, Array.toList_setIfInBounds, List.take_set, List.length_set, h8, byte_flat, List.map_set]
  · exact .inr (by omega)

/-- a writer in block B: its bytes, its own from a base on -/
structure WrSt (Tw Tb : TypeId) (w : World) (base B : Nat) (v : Value) (bs : List Bool) : Prop where
  blk : Blk w B #[v, .int .i64 bs.length] Tw
  own : byteE.Own Tb w base v (packB bs)
  low : base ≤ B
/-- all but a writer -/
def nobW (B : Nat) (v : Value) : Nat → Bool := fun b => decide (b ≠ B) && decide (v.ownBlock ≠ some b)
/-- a writer alone has turned -/
structure WStep (base : Nat) (w w' : World) (B : Nat) (v v' : Value) : Prop where
  bl : ∀ w0, Bl w0 w → w0.heap.size ≤ base → Bl w0 w'
  sub : Sub (only w (nobW B v)) (only w' (nobW B v'))
  size : w.heap.size ≤ w'.heap.size
theorem WStep.refl (base : Nat) (w : World) (B : Nat) (v : Value) : WStep base w w B v v := ⟨fun _ h _ => h, Sub.refl _, Nat.le_refl _⟩
theorem WStep.trans {base : Nat} {w w1 w2 : World} {B : Nat} {v v1 v2 : Value} (h : WStep base w w1 B v v1) (k : WStep base w1 w2 B v1 v2) : WStep base w w2 B v v2 :=
  ⟨fun w0 h0 hs => k.bl w0 (h.bl w0 h0 hs) hs, h.sub.trans k.sub, Nat.le_trans h.size k.size⟩
/-- what only adds is no harm -/
theorem WStep.of_bl {base : Nat} {w w' : World} {B : Nat} {v : Value} (h : Bl w w') : WStep base w w' B v v := ⟨fun _ h0 _ => h0.bl h, Sub.bl (h.only _), h.size⟩
theorem setCell_grown (w : World) (g j : Nat) (u : Value) : w.grownBy (w.setCell ⟨g, j, none⟩ u) (some g) := ⟨rfl, rfl, rfl, by simp [World.setCell], fun k _ hk => setCell_else _ _ _ _ _ (fun h => hk (by rw [h]))⟩
theorem WStep.setB {base : Nat} {w : World} {B : Nat} {v : Value} (hB : base ≤ B) (j : Nat) (u : Value) : WStep base w (w.setCell ⟨B, j, none⟩ u) B v v :=
  ⟨fun _ h0 hs => h0.grown (setCell_grown w B j u) (fun k hk => by injection hk with hk; omega), Sub.grown (setCell_grown w B j u) (fun k hk => by injection hk with hk; subst hk; simp [nobW]), by simp [World.setCell]⟩
theorem WStep.setV {base : Nat} {w : World} {B g : Nat} {v : Value} (hg : v.ownBlock = some g) (hb : base ≤ g) (j : Nat) (u : Value) : WStep base w (w.setCell ⟨g, j, none⟩ u) B v v :=
  ⟨fun _ h0 hs => h0.grown (setCell_grown w g j u) (fun k hk => by injection hk with hk; omega), Sub.grown (setCell_grown w g j u) (fun k hk => by injection hk with hk; subst hk; simp [nobW, hg]), by simp [World.setCell]⟩
theorem WStep.grow {base : Nat} {w w' : World} {B : Nat} {v v' : Value} (hg : w.grownBy w' v.ownBlock) (hl : Lies w v.ownBlock v'.ownBlock) (hb : ∀ k, v.ownBlock = some k → base ≤ k) : WStep base w w' B v v' := by
  refine ⟨fun w0 h0 hs => h0.grown hg (fun k hk => Nat.le_trans hs (hb k hk)), fun ad u q => ?_, hg.size⟩
  obtain ⟨h1, h2⟩ := only_cell q
  have hlt := World.block_lt_of_cell? w ad h2
  unfold nobW at h1
  simp only [Bool.and_eq_true, decide_eq_true_eq] at h1
  refine cell_only ?_ ?_
  · unfold nobW
    simp only [Bool.and_eq_true, decide_eq_true_eq]
    refine ⟨h1.1, ?_⟩
    rcases hl with e | ⟨g, e, hge⟩
    · rw [e]; exact h1.2
    · rw [e]; intro h; injection h with h; omega
  · unfold World.cell? at h2 ⊢
    rw [hg.block ad.block hlt (fun e => h1.2 e.symm)]; exact h2
theorem WrSt.keep {Tw Tb : TypeId} {w w' : World} {base B : Nat} {v : Value} {bs : List Bool} (h : WrSt Tw Tb w base B v bs) (hb : Bl w w') : WrSt Tw Tb w' base B v bs := ⟨h.blk.bl hb, h.own.bl hb, h.low⟩
theorem own_ne_blk {Tw Tb : TypeId} {w : World} {base B : Nat} {v : Value} {xs : List Int} {cs : Array Value} (h : byteE.Own Tb w base v xs) (hb : Blk w B cs Tw) (hT : Tw ≠ Tb) : v.ownBlock ≠ some B := fun e => by
  obtain ⟨_, h2⟩ := h
  rcases h2 with ⟨h2, _⟩ | ⟨g, c, cur, h2, _, h4, _⟩
  · rw [h2] at e; cases e
  · rw [h2] at e
    simp [Value.ownBlock] at e
    subst e
    unfold Blk at hb
    rw [hb] at h4
    injection h4 with h4
    injection h4 with _ h4 _
    exact hT h4
theorem WrSt.ne {Tw Tb : TypeId} {w : World} {base B : Nat} {v : Value} {bs : List Bool} (h : WrSt Tw Tb w base B v bs) (hT : Tw ≠ Tb) : v.ownBlock ≠ some B := own_ne_blk h.own h.blk hT
/-- what lies in new blocks lies not in the writer -/
theorem WrSt.isM {Tw Tb : TypeId} {w w1 : World} {base B : Nat} {v : Value} {bs : List Bool} (h : WrSt Tw Tb w base B v bs) {α : Type} {E : Enc α} {e : TypeId} {u : Value} {xs : List α} (ho : E.Own e w1 w.heap.size u xs) : E.Is (only w1 (nobW B v)) u xs :=
  ho.isM fun k hk => by
    have h1 := h.blk.lt
    unfold nobW
    simp only [Bool.and_eq_true, decide_eq_true_eq]
    exact ⟨by omega, fun q => by have := (h.own.lt k q).2; omega⟩
end Go.Ov
