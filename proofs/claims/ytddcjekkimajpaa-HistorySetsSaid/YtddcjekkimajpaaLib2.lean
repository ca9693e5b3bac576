/- More on slices: an append to a full slice that is not owned; 'x[:hi:hi]'. No program in sight. -/
import Derived.Test.YtddcjekkimajpaaLib
import Derived.ArgAppend
namespace Go.Ov
open Go.RowKit

theorem Enc.At.cells {α : Type} {E : Enc α} {w : World} {ad : Addr} {ys : List α} (hsz : 0 < E.sz) (hA : E.At w (some ad) ys) (j : Nat) (q : Value) (hq : (ys.flatMap E.c)[j]? = some q) : w.cell? (ad.add j) = some q := by
  have hj : j < ys.length * E.sz := by have := (List.getElem?_eq_some_iff.1 hq).1; rwa [flat_len] at this
  have hi' : j / E.sz < ys.length := by rw [Nat.div_lt_iff_lt_mul (by omega)]; exact hj
  obtain ⟨ad', e', hc'⟩ := hA (j / E.sz) ys[j / E.sz] (List.getElem?_eq_getElem hi')
  obtain rfl : ad = ad' := by injection e'
  have hm : j % E.sz < (E.c ys[j / E.sz]).length := by rw [E.len]; exact Nat.mod_lt _ (by omega)
  have hj2 : j = j / E.sz * E.sz + j % E.sz := by rw [Nat.mul_comm]; exact (Nat.div_add_mod j E.sz).symm
  have h1 := flat_get E ys (j / E.sz) _ (List.getElem?_eq_getElem hi') (j % E.sz) _ (List.getElem?_eq_getElem hm)
  rw [← hj2] at h1
  rw [h1] at hq
  have h2 := hc' (j % E.sz) _ (List.getElem?_eq_getElem hm)
  rw [← hj2] at h2
  rw [h2]; exact hq

/-- append to a slice that has no room: a new row -/
theorem Enc.appendFull {α : Type} {E : Enc α} {P : Program} {w : World} {ops : Array Oper} {rest : List Oper} {o : Oper} {a : Act} {Q : Exit → Act → World → Prop} (hgd : o.guard = none) (s x : Operand) (t : TypeId)
    (ho : o.op = .call { callee := .builtin .append, args := #[s, x], argTypes := #[t, t] })
    (e : TypeId) (z : Value) (size bytes : Nat) (ht : P.underlying t = some (.slice e)) (hinfo : (P.info? e).map (fun i => (i.zero, i.size, i.bytes)) = some (some z, size, bytes))
    (hE : E.sz = size) (hzs : z.cells.size = size) (hsz : 0 < size) (hby : 0 < bytes)
    (A : Option Addr) (xs : List α) (cap : Nat) (hs : a.eval s = .slice A xs.length cap) (hcap : cap = xs.length) (his0 : E.Is w (.slice A xs.length cap) xs)
    (u : Value) (ys : List α) (hx : a.eval x = u) (his : E.Is w u ys) (hy : ys ≠ [])
    (hlen : (xs.length + ys.length) * bytes ≤ 140737488355328)
    (h : ∀ v' w', E.Own e w' w.heap.size v' (xs ++ ys) → w.grownBy w' none → wpList P ops Q rest (a.put o.dst v') w') : wpList P ops Q (o :: rest) a w := by
  obtain ⟨i, hi, hz, hs1, hb1⟩ := info_parts hinfo
  obtain ⟨A', c', e0, _, _, hn0, hA0⟩ := his0
  simp at e0
  obtain ⟨rfl, rfl⟩ := e0
  obtain ⟨B, c, rfl, hc, _, hAn, hA⟩ := his
  have hmax : xs.length + ys.length ≤ maxLen := by
    have : (xs.length + ys.length) * 1 ≤ (xs.length + ys.length) * bytes := Nat.mul_le_mul_left _ hby
    unfold maxLen; omega
  obtain ⟨y, hy0⟩ : ∃ y, ys[0]? = some y := by cases ys with | nil => exact absurd rfl hy | cons y _ => exact ⟨y, rfl⟩
  obtain ⟨ad, rfl, _⟩ := hA 0 y hy0
  have hpos : 0 < ys.length := by cases ys with | nil => exact absurd rfl hy | cons _ _ => simp
  refine wpList_append_grows w hgd s x t ho e i z size bytes ht hi hz hs1 hb1 hzs hsz A xs.length cap (xs.flatMap E.c) hs (fun hA => ⟨by have := hn0 hA; omega, hn0 hA⟩) (by rw [flat_len, hE])
    (fun b hb j q hq => by subst hb; exact Enc.At.cells (by omega) hA0 j q hq) ad ys.length c (ys.flatMap E.c) hx (by rw [flat_len, hE]) (fun j q hq => Enc.At.cells (by omega) hA j q hq) (flat_one E ys) (by omega) hmax hlen ?_
  intro v' w' h1 h2
  refine h v' w' ?_ h2
  unfold Enc.Own
  rw [List.flatMap_append, List.length_append, hE]; exact h1

/-- 'x[:hi:hi]' -/
theorem slice_full {α : Type} {E : Enc α} {P : Program} {t : TypeId} (ht : P.underlying t = some (.slice (P.elem t))) (hs : ∀ w, (sizeOf (P.elem t)).run P w = .ok E.sz w) (A : Option Addr) (c : Nat) (xs : List α) (hi : Nat) (h2 : hi ≤ xs.length) (hc : xs.length ≤ c) :
    (∀ w, (Instr.slice t (.slice A xs.length c) none (some (.int .i64 hi)) (some (.int .i64 hi))).run P w = .ok (.slice A hi hi) w) ∧ ∀ w, E.Is w (.slice A xs.length c) xs → E.Is w (.slice A hi hi) (xs.take hi) := by
  refine ⟨fun w => ?_, fun w h => ?_⟩
  · have hn : (0 : Int) ≤ (hi : Int) ∧ (hi : Int) ≤ (c : Int) := by omega
    have hn2 : (0 : Int) ≤ (hi : Int) ∧ (hi : Int) ≤ (hi : Int) := by omega
    have hm : A.map (fun x => x.add 0) = A := by cases A <;> rfl
    simp [Instr.slice, run_underlying ht, Instr.sliceBounds, Instr.sliceBound, asIntOf, hs]
    rw [if_pos (by omega : hi ≤ c), hm, ite_self]
  · obtain ⟨A', c', e, g1, g2, g3, g4⟩ := h
    simp at e
    obtain ⟨rfl, rfl⟩ := e
    have hl : (xs.take hi).length = hi := by rw [List.length_take]; omega
    refine ⟨A, hi, by rw [hl], by rw [hl]; exact Nat.le_refl _, by omega, fun hA => by have := g3 hA; omega, fun i x hx => ?_⟩
    rw [List.getElem?_take] at hx
    split at hx
    · exact g4 i x hx
    · cases hx
end Go.Ov
