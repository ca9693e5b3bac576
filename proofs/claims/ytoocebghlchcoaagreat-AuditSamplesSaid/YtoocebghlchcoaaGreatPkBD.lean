/- Several texts joined (see each one's head). -/
import Derived.Test.YtoocebghlchcoaaGreatPkBC
import Derived.Test.YtoocebghlchcoaaGreatPkAB
import Derived.Deep.RegionHeld3
import Derived.Deep.DeepMust
import Derived.IntWalk
import Derived.Test.YtoocebghlchcoaaGreatPkAA
import Derived.ProofKit
import Derived.OpenShut
import Derived.ShutString
import Derived.ChangeOld
import Derived.SizedLaws
import Derived.Deep.Slices
import Derived.Lib.SmallJoins
/- Contract of overdublaw18.spots. -/
namespace Go.Proofs.YtoocebghlchcoaaGreat.ExtW
open Go.RowKit Go.Ov Go.Proofs.YtoocebghlchcoaaGreat.Need

/-- small extents -/
def small (e : Ext) : Bool := decide (0 ≤ e.skip) && decide (e.skip ≤ 64) && decide (0 ≤ e.take) && decide (e.take ≤ 64)

end Go.Proofs.YtoocebghlchcoaaGreat.ExtW

/- How a law's arguments are opened: slices of whatever elements. -/
namespace Go.Ov
open Go.RowKit Go.ChangeShapes Go.WideShapes Go.ChangeAt Go.Deep

section
variable {H : Type} {enc : TypeId × Value → H} {P : Program} {w : World} {base : Nat} {spare : Nat → Bool} {held : Bool}

theorem trod_slice_rel {α : Type} [Inhabited α] {t e : TypeId} (R : α → List Value → Prop) (ht : P.underlying t = some (.slice e))
    (hel : ∀ fuel cs x, DataW.trod enc P w base spare held fuel e cs = some x → ∃ a, R a cs)
    {fuel : Nat} {cs : List Value} {x : DataW H × List MemPlace} (h : DataW.trod enc P w base spare held fuel t cs = some x) :
    ∃ (A : Option Addr) (c : Nat) (xs : List α), cs = [.slice A xs.length c] ∧ xs.length ≤ c ∧ c ≤ maxLen ∧ (A = none → c = 0) ∧
      (∀ i y, xs[i]? = some y → ∃ ad cs', A = some ad ∧ (∀ j u, cs'[j]? = some u → w.cell? (ad.add (i * P.cellsOf e + j)) = some u) ∧ R y cs') ∧
      (x.1 = .nil ∧ xs = [] ∨ ∃ el sp, x.1 = .slice el sp ∧ el.length = xs.length) := by
  rcases open_slice ht h with ⟨rfl, rfl⟩ | ⟨a, len, cap, m, n, D, Pl, rfl, hb, hl, hm, hmm, rfl, hx⟩
  · exact ⟨none, 0, [], rfl, Nat.le_refl _, Nat.zero_le _, fun _ => rfl, fun i y hy => by simp at hy, .inl ⟨rfl, rfl⟩⟩
  · have hlm : len ≤ m := by rw [hmm]; split <;> omega
    obtain ⟨f, hf⟩ := choose_lt (α := α) (n := len) (p := fun i y => ∃ cs', (∀ j u, cs'[j]? = some u → w.cell? (a.add (i * P.cellsOf e + j)) = some u) ∧ R y cs') (fun i hi => by
      obtain ⟨cs', h1, h2⟩ := hx i (by omega)
      obtain ⟨y, hy⟩ := hel _ _ _ h2
      refine ⟨y, cs', fun j u hu => ?_, hy⟩
      obtain ⟨_, hlen, hc⟩ := World.cells?_some h1
      have hj : j < cs'.length := (List.getElem?_eq_some_iff.1 hu).1
      have := hc j (by omega)
      rw [← add_add]
      rw [this, hu])
    refine ⟨some a, cap, (List.range len).map f, by simp, by simpa using hl, hm, (fun h => by cases h), fun i y hy => ?_, .inr ⟨_, _, rfl, by simp⟩⟩
    have hi : i < len := by have := (List.getElem?_eq_some_iff.1 hy).1; simpa using this
    rw [List.getElem?_map, List.getElem?_range hi] at hy
    simp at hy; subst hy
    obtain ⟨cs', h1, h2⟩ := hf i hi
    exact ⟨a, cs', rfl, h1, h2⟩

theorem trod_int {t : TypeId} {k : IntKind} (ht : P.underlying t = some (.int k)) {fuel : Nat} {cs : List Value} {x : DataW H × List MemPlace} (h : DataW.trod enc P w base spare held fuel t cs = some x) :
    ∃ n : Int, cs = [.int k n] ∧ (Lit.int k n).wf = true := by
  obtain ⟨n, hn, _, hw⟩ := DataW.trod_int ht h
  exact ⟨n, hn, hw⟩

/-- an argument that is a slice of ints -/
def ArgInts (w : World) (v : Value) (l : List Int) : Prop := intE.Is w v l ∧ l.length * 8 ≤ 140737488351232 ∧ ∀ x ∈ l, -9223372036854775808 ≤ x ∧ x ≤ 9223372036854775807

theorem wf_bd {x : Int} (h : (Lit.int .i64 x).wf = true) : -9223372036854775808 ≤ x ∧ x ≤ 9223372036854775807 := Joins.in64_of_wf h

theorem open_argInts {t e : TypeId} {ts : List TypeId} {ds : List (DataW H)} {j : Nat} {d : DataW H} {ps : List MemPlace} {a : Option Addr} {n c : Nat}
    (ht : P.underlying t = some (.slice e)) (he : P.underlying e = some (.int .i64)) (hc : P.cellsOf e = 1) (hb : P.bytesOf e = 8)
    (hsz : (DataW.weightsEach P ts ds).all (· ≤ reachBytes) = true) (htj : ts[j]? = some t) (hdj : ds[j]? = some d)
    (h : DataW.Trod enc P w base spare held t (.slice a n c) d ps) : ∃ l, ArgInts w (.slice a n c) l := by
  obtain ⟨fuel, hf⟩ := h
  obtain ⟨A, c', xs, e1, e2, e3, e4, e5, e6⟩ := trod_slice_rel (α := Int) (fun x cs => cs = [.int .i64 x] ∧ (Lit.int .i64 x).wf = true) ht (fun fuel cs x hx => trod_int he hx) hf
  simp [Value.cells] at e1
  obtain ⟨rfl, rfl, rfl⟩ := e1
  refine ⟨xs, ⟨a, c, rfl, e2, e3, e4, fun i x hx => ?_⟩, ?_, fun x hx => ?_⟩
  · obtain ⟨ad, cs', rfl, h1, rfl, _⟩ := e5 i x hx
    rw [hc] at h1
    exact ⟨ad, rfl, h1⟩
  · rcases e6 with ⟨_, rfl⟩ | ⟨el, sp, rfl, e7⟩
    · simp
    · have z := sized_slice hsz htj hdj ht
      rw [hb, e7] at z
      have : reachBytes = 140737488351232 := rfl
      have := Nat.mul_le_mul_right 8 (Nat.le_add_right xs.length sp.length)
      omega
  · obtain ⟨i, hi⟩ := List.getElem?_of_mem hx
    obtain ⟨ad, cs', _, _, _, h2⟩ := e5 i x hi
    exact wf_bd h2
end
end Go.Ov

/- How arguments that are slices of extents are opened. -/
namespace Go.Ov
open Go.RowKit Go.ChangeShapes Go.WideShapes Go.ChangeAt Go.Deep

def inExt (e : Ext) : Prop := (-9223372036854775808 ≤ e.at_ ∧ e.at_ ≤ 9223372036854775807) ∧ (-9223372036854775808 ≤ e.sector ∧ e.sector ≤ 9223372036854775807) ∧ (-9223372036854775808 ≤ e.count ∧ e.count ≤ 9223372036854775807) ∧ (-9223372036854775808 ≤ e.skip ∧ e.skip ≤ 9223372036854775807) ∧ (-9223372036854775808 ≤ e.take ∧ e.take ≤ 9223372036854775807)
/-- an argument that is a slice of extents -/
def ArgExts (w : World) (v : Value) (l : List Ext) : Prop := extE.Is w v l ∧ l.length * 40 ≤ 140737488351232 ∧ ∀ x ∈ l, inExt x

section
variable {H : Type} {enc : TypeId × Value → H} {P : Program} {w : World} {base : Nat} {spare : Nat → Bool} {held : Bool}

theorem trod_ext {e t : TypeId} (hs : ∃ f0 f1 f2 f3 f4 : Field, P.underlying e = some (.struct #[f0, f1, f2, f3, f4]) ∧ f0.type = t ∧ f1.type = t ∧ f2.type = t ∧ f3.type = t ∧ f4.type = t ∧ f0.offset = 0 ∧ f1.offset = 1 ∧ f2.offset = 2 ∧ f3.offset = 3 ∧ f4.offset = 4)
    (hi : P.underlying t = some (.int .i64)) (hc : P.cellsOf e = 5) (hc1 : P.cellsOf t = 1) {fuel : Nat} {cs : List Value} {x : DataW H × List MemPlace}
    (h : DataW.trod enc P w base spare held fuel e cs = some x) : ∃ y : Ext, cs = y.vals ∧ inExt y := by
  obtain ⟨f0, f1, f2, f3, f4, hu, t0, t1, t2, t3, t4, o0, o1, o2, o3, o4⟩ := hs
  obtain ⟨xs, n, _, rfl, hl, hlen, hf⟩ := DataW.trod_struct hu h
  rw [hc] at hl
  match cs, hl with
  | [c0, c1, c2, c3, c4], _ =>
    have g0 := hf 0 f0 rfl
    have g1 := hf 1 f1 rfl
    have g2 := hf 2 f2 rfl
    have g3 := hf 3 f3 rfl
    have g4 := hf 4 f4 rfl
    rw [t0, o0, hc1] at g0
    rw [t1, o1, hc1] at g1
    rw [t2, o2, hc1] at g2
    rw [t3, o3, hc1] at g3
    rw [t4, o4, hc1] at g4
    have hx : xs.length = 5 := hlen
    rw [List.getElem?_eq_getElem (by omega)] at g0 g1 g2 g3 g4
    obtain ⟨n0, h0, w0⟩ := trod_int hi g0
    obtain ⟨n1, h1, w1⟩ := trod_int hi g1
    obtain ⟨n2, h2, w2⟩ := trod_int hi g2
    obtain ⟨n3, h3, w3⟩ := trod_int hi g3
    obtain ⟨n4, h4, w4⟩ := trod_int hi g4
    simp at h0 h1 h2 h3 h4
    subst h0; subst h1; subst h2; subst h3; subst h4
    exact ⟨⟨n0, n1, n2, n3, n4⟩, rfl, wf_bd w0, wf_bd w1, wf_bd w2, wf_bd w3, wf_bd w4⟩

theorem open_argExts {t e ti : TypeId} {ts : List TypeId} {ds : List (DataW H)} {j : Nat} {d : DataW H} {ps : List MemPlace} {a : Option Addr} {n c : Nat}
    (ht : P.underlying t = some (.slice e)) (hs : ∃ f0 f1 f2 f3 f4 : Field, P.underlying e = some (.struct #[f0, f1, f2, f3, f4]) ∧ f0.type = ti ∧ f1.type = ti ∧ f2.type = ti ∧ f3.type = ti ∧ f4.type = ti ∧ f0.offset = 0 ∧ f1.offset = 1 ∧ f2.offset = 2 ∧ f3.offset = 3 ∧ f4.offset = 4)
    (hc : P.cellsOf e = 5) (hb : P.bytesOf e = 40) (hi : P.underlying ti = some (.int .i64)) (hc1 : P.cellsOf ti = 1)
    (hsz : (DataW.weightsEach P ts ds).all (· ≤ reachBytes) = true) (htj : ts[j]? = some t) (hdj : ds[j]? = some d)
    (h : DataW.Trod enc P w base spare held t (.slice a n c) d ps) : ∃ l, ArgExts w (.slice a n c) l := by
  obtain ⟨fuel, hf⟩ := h
  obtain ⟨A, c', xs, e1, e2, e3, e4, e5, e6⟩ := trod_slice_rel (α := Ext) (fun x cs => cs = x.vals ∧ inExt x) ht (fun fuel cs x hx => trod_ext hs hi hc hc1 hx) hf
  simp [Value.cells] at e1
  obtain ⟨rfl, rfl, rfl⟩ := e1
  refine ⟨xs, ⟨a, c, rfl, e2, e3, e4, fun i x hx => ?_⟩, ?_, fun x hx => ?_⟩
  · obtain ⟨ad, cs', rfl, h1, rfl, _⟩ := e5 i x hx
    rw [hc] at h1
    exact ⟨ad, rfl, h1⟩
  · rcases e6 with ⟨_, rfl⟩ | ⟨el, sp, rfl, e7⟩
    · simp
    · have z := sized_slice hsz htj hdj ht
      rw [hb, e7] at z
      have : reachBytes = 140737488351232 := rfl
      have := Nat.mul_le_mul_right 40 (Nat.le_add_right xs.length sp.length)
      omega
  · obtain ⟨i, hi⟩ := List.getElem?_of_mem hx
    obtain ⟨ad, cs', _, _, _, h2⟩ := e5 i x hi
    exact h2
end
end Go.Ov
