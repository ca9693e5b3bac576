/- Rows whose elements lead on: what stays true while a row grows in its place. No program in sight. -/
import Derived.Test.YtoocebghlchcoaaGreatLib3
import Derived.Deep.AppendLies
namespace Go.Ov
open Go.RowKit

/-- true, whatever is written into one block, and whatever is made -/
def Stab (w : World) (row : Option Nat) (P : World → Prop) : Prop := ∀ w', w.grownBy w' row → P w'
theorem Stab.here {w : World} {row : Option Nat} {P : World → Prop} (h : Stab w row P) : P w := h w (World.grownBy.refl w row)
theorem Stab.bl {w w1 : World} {row : Option Nat} {P : World → Prop} (h : Stab w row P) (hb : Bl w w1) : Stab w1 row P := fun w' hg =>
  h w' ⟨hg.os.trans hb.os, hg.tape.trans hb.tape, hg.output.trans hb.output, Nat.le_trans hb.size hg.size, fun k hk hr => (hg.block k (Nat.lt_of_lt_of_le hk hb.size) hr).trans (hb.block k hk)⟩
/-- the row is another one: the same block, or a new one -/
def Lies (w : World) (row row' : Option Nat) : Prop := row' = row ∨ ∃ g, row' = some g ∧ w.heap.size ≤ g
theorem Stab.grow {w w1 : World} {row row' : Option Nat} {P : World → Prop} (h : Stab w row P) (hg : w.grownBy w1 row) (hl : Lies w row row') : Stab w1 row' P := fun w' hg' =>
  h w' ⟨hg'.os.trans hg.os, hg'.tape.trans hg.tape, hg'.output.trans hg.output, Nat.le_trans hg.size hg'.size, fun k hk hr => by
    rw [hg'.block k (Nat.lt_of_lt_of_le hk hg.size) ?_, hg.block k hk hr]
    rcases hl with rfl | ⟨g, rfl, h1⟩
    · exact hr
    · intro e; injection e with e; omega⟩
theorem Stab.old {W w : World} {row : Option Nat} {P : World → Prop} (hP : ∀ {a b : World}, P a → Bl a b → P b) (h : P W) (hb : Bl W w) (hr : ∀ g, row = some g → W.heap.size ≤ g) : Stab w row P := fun w' hg =>
  hP h (Bl.grown hb hg hr)
theorem Stab.own {α : Type} {E : Enc α} {e : TypeId} {w : World} {base : Nat} {v : Value} {xs : List α} {row : Option Nat} (h : E.Own e w base v xs) (hr : ∀ g, row = some g → g < base) : Stab w row (fun w' => E.Own e w' base v xs) := fun _ hg =>
  h.grown hg (by
    cases hv : v.ownBlock with
    | none => exact .inl rfl
    | some k => refine .inr fun hk => ?_
                have := (h.lt k hv).1
                have := hr k hk.symm
                omega)
theorem Stab.mono {w : World} {row : Option Nat} {P Q : World → Prop} (h : Stab w row P) (hi : ∀ w', P w' → Q w') : Stab w row Q := fun w' hg => hi _ (h w' hg)
theorem Stab.and {w : World} {row : Option Nat} {P Q : World → Prop} (h : Stab w row P) (hi : Stab w row Q) : Stab w row (fun w' => P w' ∧ Q w') := fun w' hg => ⟨h w' hg, hi w' hg⟩
theorem Stab.drewN {w : World} {row : Option Nat} {P : World → Prop} (h : Stab w row P) (n : Nat) : Stab (w.drewN n) row P := h.bl ((Bl.refl w).drewN n)

theorem Stab.set {w : World} {g : Nat} {P : World → Prop} (h : Stab w (some g) P) (j : Nat) (u : Value) : Stab (w.setCell ⟨g, j, none⟩ u) (some g) P :=
  h.grow ⟨rfl, rfl, rfl, by simp [World.setCell], fun k _ hk => setCell_else _ _ _ _ _ (fun e => hk (by rw [e]))⟩ (.inl rfl)
/-- owned, two blocks aside -/
theorem Stab.own2 {α : Type} {E : Enc α} {e : TypeId} {w : World} {base : Nat} {v : Value} {xs : List α} {row : Option Nat} {B : Nat} (h : E.Own e w base v xs) (hr : ∀ g, row = some g → g < base) (hB : B < base) :
    Stab w row (fun w' => Stab w' (some B) fun w'' => E.Own e w'' base v xs) := (Stab.own h hr).mono fun w' h => Stab.own h (fun g hg => by injection hg with hg; omega)

section
variable {α : Type} {E : Enc α}
theorem Enc.Own.wpAppendL {P : Program} {w : World} {o : Oper} {a : Act} {K : Act → World → Prop} {Q : Exit → Act → World → Prop} (s x : Operand) (t : TypeId)
    (ho : o.op = .call { callee := .builtin .append, args := #[s, x], argTypes := #[t, t] })
    (base : Nat) (e : TypeId) (z : Value) (size bytes : Nat) (ht : P.underlying t = some (.slice e)) (hinfo : (P.info? e).map (fun i => (i.zero, i.size, i.bytes)) = some (some z, size, bytes))
    (hE : E.sz = size) (hzs : z.cells.size = size) (hsz : 0 < size) (hby : 0 < bytes)
    (v : Value) (xs : List α) (hs : a.eval s = v) (hown : E.Own e w base v xs)
    (u : Value) (ys : List α) (hx : a.eval x = u) (his : E.Is w u ys) (hne : ys ≠ [])
    (hlen : (xs.length + ys.length) * bytes ≤ 140737488355328) (hbase : base ≤ w.heap.size)
    (h : ∀ v' w', E.Own e w' base v' (xs ++ ys) → w.grownBy w' v.ownBlock → Lies w v.ownBlock v'.ownBlock → K (a.put o.dst v') w') : o.wp P a w K Q := by
  obtain ⟨i, hi, hz, hs1, hb1⟩ := info_parts hinfo
  obtain ⟨A, c, rfl, hc, _, hAn, hA⟩ := his
  have hmax : xs.length + ys.length ≤ maxLen := by
    have : (xs.length + ys.length) * 1 ≤ (xs.length + ys.length) * bytes := Nat.mul_le_mul_left _ hby
    unfold maxLen; omega
  obtain ⟨y, hy0⟩ : ∃ y, ys[0]? = some y := by cases ys with | nil => exact absurd rfl hne | cons y _ => exact ⟨y, rfl⟩
  obtain ⟨ad, rfl, _⟩ := hA 0 y hy0
  have hnews : ∀ j q, (ys.flatMap E.c)[j]? = some q → w.cell? (ad.add j) = some q := by
    intro j q hq
    have hj : j < ys.length * E.sz := by have := (List.getElem?_eq_some_iff.1 hq).1; rwa [flat_len] at this
    have hi' : j / E.sz < ys.length := by rw [Nat.div_lt_iff_lt_mul (by omega)]; exact hj
    obtain ⟨ad', e', hc'⟩ := hA (j / E.sz) ys[j / E.sz] (List.getElem?_eq_getElem hi')
    obtain rfl : ad = ad' := by injection e'
    have hm : j % E.sz < (E.c ys[j / E.sz]).length := by rw [E.len]; exact Nat.mod_lt _ (by omega)
    have hj2 : j = j / E.sz * E.sz + j % E.sz := by rw [Nat.mul_comm]; exact (Nat.div_add_mod j E.sz).symm
    have h1 := flat_get E ys (j / E.sz) _ (List.getElem?_eq_getElem hi') (j % E.sz) _ (List.getElem?_eq_getElem hm)
    rw [← hj2] at h1
    rw [h1] at hq
    have h2 := hc' (j % E.sz) _ (List.getElem?_eq_getElem hm)
    rw [← hj2] at h2
    rw [h2]; exact hq
  refine wp_append_lies w s x t ho base e i z size bytes ht hi hz hs1 hb1 hzs hsz v xs.length _ hs (by rw [← hE]; exact hown) ad ys.length c (ys.flatMap E.c) hx (by rw [flat_len, hE]) hnews (flat_one E ys) (List.length_pos_iff.2 hne) hmax hlen hbase w.heap.size rfl ?_
  intro g cap w' h1 h2 h3 h4
  refine h _ w' ?_ h2 ?_
  · unfold Enc.Own
    rw [List.flatMap_append, List.length_append, hE]; exact h1
  · rcases h3 with h3 | h3
    · left; rw [h3]; rfl
    · right; exact ⟨g, rfl, by omega⟩
/-- append of one element that stands in a block of its own; where the row lies then -/
theorem Enc.Own.append1L {P : Program} {w : World} {ops : Array Oper} {rest : List Oper} {o : Oper} {a : Act} {Q : Exit → Act → World → Prop} (hgd : o.guard = none) (s x : Operand) (t : TypeId)
    (ho : o.op = .call { callee := .builtin .append, args := #[s, x], argTypes := #[t, t] })
    (base : Nat) (e : TypeId) (z : Value) (size bytes : Nat) (ht : P.underlying t = some (.slice e)) (hinfo : (P.info? e).map (fun i => (i.zero, i.size, i.bytes)) = some (some z, size, bytes))
    (hE : E.sz = size) (hzs : z.cells.size = size) (hsz : 0 < size) (hby : 0 < bytes)
    (v : Value) (xs : List α) (hs : a.eval s = v) (hown : E.Own e w base v xs)
    (y : α) (cs : Array Value) (hcs : cs.toList = E.c y) {N : Nat} (hN : N = w.heap.size) (hx : a.eval x = .slice (some ⟨N, 0, none⟩) 1 1)
    (hlen : (xs.length + 1) * bytes ≤ 140737488355328) (hbase : base ≤ w.heap.size)
    (h : ∀ v' w', E.Own e w' base v' (xs ++ [y]) → (w.alloc (.cells cs e)).grownBy w' v.ownBlock → Lies (w.alloc (.cells cs e)) v.ownBlock v'.ownBlock → wpList P ops Q rest (a.put o.dst v') w') : wpList P ops Q (o :: rest) a (w.alloc (.cells cs e)) :=
  wpList_plain hgd fun _ hK => Enc.Own.wpAppendL s x t ho base e z size bytes ht hinfo hE hzs hsz hby v xs hs (hown.bl ((Bl.refl _).alloc _)) _ [y] hx
    (Enc.Own.lit (E := E) w 0 [y] cs (by simpa using hcs) 1 rfl (Nat.zero_le _) (by decide) hN).is (by simp) hlen (Nat.le_trans hbase ((Bl.refl w).alloc _).size) fun v' w' h1 h2 h3 => hK _ _ (h v' w' h1 h2 h3)
end
end Go.Ov
