/- How arguments that are slices of extents are opened. -/
import Derived.Test.YtddcjekkimajpaaOpen
import Derived.Test.YtddcjekkimajpaaExt
namespace Go.Ov
open Go.RowKit Go.ChangeShapes Go.WideShapes Go.ChangeAt Go.Deep

def inExt (e : Ext) : Prop := (-9223372036854775808 ≤ e.at_ ∧ e.at_ ≤ 9223372036854775807) ∧ (-9223372036854775808 ≤ e.sector ∧ e.sector ≤ 9223372036854775807) ∧ (-9223372036854775808 ≤ e.count ∧ e.count ≤ 9223372036854775807) ∧ (-9223372036854775808 ≤ e.skip ∧ e.skip ≤ 9223372036854775807) ∧ (-9223372036854775808 ≤ e.take ∧ e.take ≤ 9223372036854775807)
/-- an argument that is a slice of extents -/
def ArgExts (w : World) (v : Value) (l : List Ext) : Prop := extE.Is w v l ∧ l.length * 40 ≤ 140737488351232 ∧ ∀ x ∈ l, inExt x

section
variable {H : Type} {enc : TypeId × Value → H} {P : Program} {w : World} {base : Nat} {spare : Nat → Bool} {held : Bool}

theorem trod_ext {e t : TypeId} (hs : ∃ f0 f1 f2 f3 f4 : Field, P.underlying e = some (.struct #[f0, f1, f2, f3, f4]) ∧ f0.type = t ∧ f1.type = t ∧ f2.type = t ∧ f3.type = t ∧ f4.type = t ∧ f0.offset = 0 ∧ f1.offset = 1 ∧ f2.offset = 2 ∧ f3.offset = 3 ∧ f4.offset = 4)
    (hi : P.underlying t = some (.int .i64)) (hc : P.cellsOf e = 5) (hc1 : P.cellsOf t = 1) {fuel : Nat} {cs : List Value} {x : DataW H × List MemPlace}
    (h : DataW.trod enc P w base spare held fuel e cs = some x) : ∃ y : Ext, cs = y.vals ∧ inExt y := by
  obtain ⟨f0, f1, f2, f3, f4, hu, t0, t1, t2, t3, t4, o0, o1, o2, o3, o4⟩ := hs
  obtain ⟨xs, n, _, rfl, hl, hlen, hf⟩ := DataW.trod_struct hu h
  rw [hc] at hl
  match cs, hl with
  | [c0, c1, c2, c3, c4], _ =>
    have g0 := hf 0 f0 rfl
    have g1 := hf 1 f1 rfl
    have g2 := hf 2 f2 rfl
    have g3 := hf 3 f3 rfl
    have g4 := hf 4 f4 rfl
    rw [t0, o0, hc1] at g0
    rw [t1, o1, hc1] at g1
    rw [t2, o2, hc1] at g2
    rw [t3, o3, hc1] at g3
    rw [t4, o4, hc1] at g4
    have hx : xs.length = 5 := hlen
    rw [List.getElem?_eq_getElem (by omega)] at g0 g1 g2 g3 g4
    obtain ⟨n0, h0, w0⟩ := trod_int hi g0
    obtain ⟨n1, h1, w1⟩ := trod_int hi g1
    obtain ⟨n2, h2, w2⟩ := trod_int hi g2
    obtain ⟨n3, h3, w3⟩ := trod_int hi g3
    obtain ⟨n4, h4, w4⟩ := trod_int hi g4
    simp at h0 h1 h2 h3 h4
    subst h0; subst h1; subst h2; subst h3; subst h4
    exact ⟨⟨n0, n1, n2, n3, n4⟩, rfl, wf_bd w0, wf_bd w1, wf_bd w2, wf_bd w3, wf_bd w4⟩

theorem open_argExts {t e ti : TypeId} {ts : List TypeId} {ds : List (DataW H)} {j : Nat} {d : DataW H} {ps : List MemPlace} {a : Option Addr} {n c : Nat}
    (ht : P.underlying t = some (.slice e)) (hs : ∃ f0 f1 f2 f3 f4 : Field, P.underlying e = some (.struct #[f0, f1, f2, f3, f4]) ∧ f0.type = ti ∧ f1.type = ti ∧ f2.type = ti ∧ f3.type = ti ∧ f4.type = ti ∧ f0.offset = 0 ∧ f1.offset = 1 ∧ f2.offset = 2 ∧ f3.offset = 3 ∧ f4.offset = 4)
    (hc : P.cellsOf e = 5) (hb : P.bytesOf e = 40) (hi : P.underlying ti = some (.int .i64)) (hc1 : P.cellsOf ti = 1)
    (hsz : (DataW.weightsEach P ts ds).all (· ≤ reachBytes) = true) (htj : ts[j]? = some t) (hdj : ds[j]? = some d)
    (h : DataW.Trod enc P w base spare held t (.slice a n c) d ps) : ∃ l, ArgExts w (.slice a n c) l := by
  obtain ⟨fuel, hf⟩ := h
  obtain ⟨A, c', xs, e1, e2, e3, e4, e5, e6⟩ := trod_slice_rel (α := Ext) (fun x cs => cs = x.vals ∧ inExt x) ht (fun fuel cs x hx => trod_ext hs hi hc hc1 hx) hf
  simp [Value.cells] at e1
  obtain ⟨rfl, rfl, rfl⟩ := e1
  refine ⟨xs, ⟨a, c, rfl, e2, e3, e4, fun i x hx => ?_⟩, ?_, fun x hx => ?_⟩
  · obtain ⟨ad, cs', rfl, h1, rfl, _⟩ := e5 i x hx
    rw [hc] at h1
    exact ⟨ad, rfl, h1⟩
  · rcases e6 with ⟨_, rfl⟩ | ⟨el, sp, rfl, e7⟩
    · simp
    · have z := sized_slice hsz htj hdj ht
      rw [hb, e7] at z
      have : reachBytes = 140737488351232 := rfl
      have := Nat.mul_le_mul_right 40 (Nat.le_add_right xs.length sp.length)
      omega
  · obtain ⟨i, hi⟩ := List.getElem?_of_mem hx
    obtain ⟨ad, cs', _, _, _, h2⟩ := e5 i x hi
    exact h2
end
end Go.Ov
