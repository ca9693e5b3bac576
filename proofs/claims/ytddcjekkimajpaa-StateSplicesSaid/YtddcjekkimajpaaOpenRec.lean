/- How arguments are opened that are records, rows of records, rows of rows of numbers. -/
import Derived.Test.YtddcjekkimajpaaOpenExt
import Derived.Test.YtddcjekkimajpaaRecP
import Derived.Test.YtddcjekkimajpaaProg
namespace Go.Ov
open Go.RowKit Go.ChangeShapes Go.WideShapes Go.ChangeAt Go.Deep Go.Proofs

section
variable {H : Type} {enc : TypeId × Value → H} {w : World} {base : Nat} {spare : Nat → Bool} {held : Bool}

set_option maxRecDepth 100000 in
theorem trod_ints {fuel : Nat} {cs : List Value} {x : DataW H × List MemPlace} (h : DataW.trod enc Try.prog w base spare held fuel 22 cs = some x) :
    ∃ (h : Head) (l : List Int), cs = [h.v] ∧ h.n = l.length ∧ l.length ≤ h.cap ∧ h.cap ≤ maxLen ∧ (h.A = none → h.cap = 0) ∧ intE.At w h.A l := by
  obtain ⟨A, c, xs, e1, e2, e3, e4, e5, e6⟩ := trod_slice_rel (α := Int) (fun x cs => cs = [.int .i64 x]) Try.underlying22 (fun fuel cs x hx => by obtain ⟨n, hn, _⟩ := trod_int Try.underlying3 hx; exact ⟨n, hn⟩) h
  refine ⟨⟨A, xs.length, c⟩, xs, e1, rfl, e2, e3, e4, fun i x hx => ?_⟩
  obtain ⟨ad, cs', rfl, h1, rfl⟩ := e5 i x hx
  exact ⟨ad, rfl, h1⟩

set_option maxRecDepth 100000 in
theorem trod_exts {fuel : Nat} {cs : List Value} {x : DataW H × List MemPlace} (h : DataW.trod enc Try.prog w base spare held fuel 31 cs = some x) :
    ∃ (h : Head) (l : List Ext), cs = [h.v] ∧ h.n = l.length ∧ extE.Is w h.v l ∧ ∀ x ∈ l, inExt x := by
  obtain ⟨A, c, xs, e1, e2, e3, e4, e5, e6⟩ := trod_slice_rel (α := Ext) (fun x cs => cs = x.vals ∧ inExt x) Try.underlying31 (fun fuel cs x hx => trod_ext ⟨_, _, _, _, _, Try.underlying38, rfl, rfl, rfl, rfl, rfl, rfl, rfl, rfl, rfl, rfl⟩ Try.underlying3 (by kernel_rfl) (by kernel_rfl) hx) h
  refine ⟨⟨A, xs.length, c⟩, xs, e1, rfl, ⟨A, c, rfl, e2, e3, e4, fun i x hx => ?_⟩, fun x hx => ?_⟩
  · obtain ⟨ad, cs', rfl, h1, rfl, _⟩ := e5 i x hx
    rw [show Try.prog.cellsOf 38 = 5 by kernel_rfl] at h1
    exact ⟨ad, rfl, h1⟩
  · obtain ⟨i, hi⟩ := List.getElem?_of_mem hx
    obtain ⟨ad, cs', _, _, _, h2⟩ := e5 i x hi
    exact h2

set_option maxRecDepth 100000 in
theorem trod_rec {fuel : Nat} {cs : List Value} {x : DataW H × List MemPlace} (h : DataW.trod enc Try.prog w base spare held fuel 33 cs = some x) :
    ∃ (r : Rec) (u : Head), cs = [.int .i64 r.kind, .int .i64 r.track, .int .i64 r.fr, .int .i64 r.tt, u.v] ∧ extE.Is w u.v r.l ∧ inRec r := by
  obtain ⟨xs, n, _, rfl, hl, hlen, hf⟩ := DataW.trod_struct Try.underlying33 h
  rw [show Try.prog.cellsOf 33 = 5 by kernel_rfl] at hl
  match cs, hl with
  | [c0, c1, c2, c3, c4], _ =>
    have g0 : DataW.trod enc Try.prog w base spare held n 3 (([c0, c1, c2, c3, c4].drop 0).take (Try.prog.cellsOf 3)) = xs[0]? := hf 0 _ rfl
    have g1 : DataW.trod enc Try.prog w base spare held n 3 (([c0, c1, c2, c3, c4].drop 1).take (Try.prog.cellsOf 3)) = xs[1]? := hf 1 _ rfl
    have g2 : DataW.trod enc Try.prog w base spare held n 3 (([c0, c1, c2, c3, c4].drop 2).take (Try.prog.cellsOf 3)) = xs[2]? := hf 2 _ rfl
    have g3 : DataW.trod enc Try.prog w base spare held n 3 (([c0, c1, c2, c3, c4].drop 3).take (Try.prog.cellsOf 3)) = xs[3]? := hf 3 _ rfl
    have g4 : DataW.trod enc Try.prog w base spare held n 31 (([c0, c1, c2, c3, c4].drop 4).take (Try.prog.cellsOf 31)) = xs[4]? := hf 4 _ rfl
    have hc1 : Try.prog.cellsOf 3 = 1 := by kernel_rfl
    have hc2 : Try.prog.cellsOf 31 = 1 := by kernel_rfl
    have hx : xs.length = 5 := hlen
    rw [List.getElem?_eq_getElem (by omega)] at g0 g1 g2 g3 g4
    simp only [hc1, hc2, List.drop_zero, List.drop_succ_cons, List.take_succ_cons, List.take_zero] at g0 g1 g2 g3 g4
    obtain ⟨n0, h0, w0⟩ := trod_int Try.underlying3 g0
    obtain ⟨n1, h1, w1⟩ := trod_int Try.underlying3 g1
    obtain ⟨n2, h2, w2⟩ := trod_int Try.underlying3 g2
    obtain ⟨n3, h3, w3⟩ := trod_int Try.underlying3 g3
    obtain ⟨u, l, h4, _, h5, h6⟩ := trod_exts g4
    simp at h0 h1 h2 h3 h4
    subst h0; subst h1; subst h2; subst h3; subst h4
    exact ⟨⟨n0, n1, n2, n3, l⟩, u, rfl, h5, wf_bd w0, wf_bd w1, wf_bd w2, wf_bd w3, h6⟩

instance : Inhabited Head := ⟨⟨none, 0, 0⟩⟩
set_option maxRecDepth 100000 in
/-- a record -/
theorem open_arg_rec {r : Reach} {b0 : Nat} {v : Value} {d : DataW H} {p : List MemPlace} {ts : List TypeId} {ds : List (DataW H)} {j : Nat} (hv : Value.okWide Try.prog w r b0 33 v)
    (_ : (DataW.weightsEach Try.prog ts ds).all (· ≤ reachBytes) = true) (_ : ts[j]? = some 33) (_ : ds[j]? = some d)
    (h : DataW.Trod enc Try.prog w base spare held 33 v d p) : ∃ r, ArgRec w v r := by
  obtain ⟨cs, rfl, hsz⟩ := okWide_struct Try.underlying33 hv
  obtain ⟨fuel, hf⟩ := h
  obtain ⟨r, u, e, h1, h2⟩ := trod_rec hf
  refine ⟨r, ⟨u.v, ?_, h1⟩, h2⟩
  have e' : cs.toList = _ := e
  rw [show cs = (cs.toList).toArray by simp, e']

set_option maxRecDepth 100000 in
/-- rows of rows of numbers -/
theorem open_arg_intss {r : Reach} {b0 : Nat} {v : Value} {d : DataW H} {p : List MemPlace} {ts : List TypeId} {ds : List (DataW H)} {j : Nat} (hv : Value.okWide Try.prog w r b0 40 v)
    (_ : (DataW.weightsEach Try.prog ts ds).all (· ≤ reachBytes) = true) (_ : ts[j]? = some 40) (_ : ds[j]? = some d)
    (h : DataW.Trod enc Try.prog w base spare held 40 v d p) : ∃ ls, ArgIntss w v ls := by
  obtain ⟨A0, n0, c0, rfl⟩ := okWide_slice Try.underlying40 hv
  obtain ⟨fuel, hf⟩ := h
  obtain ⟨A, c, xs, e1, e2, e3, e4, e5, e6⟩ := trod_slice_rel (α := Head × List Int) (fun x cs => cs = [x.1.v] ∧ x.1.n = x.2.length ∧ x.2.length ≤ x.1.cap ∧ x.1.cap ≤ maxLen ∧ (x.1.A = none → x.1.cap = 0) ∧ intE.At w x.1.A x.2)
    Try.underlying40 (fun fuel cs x hx => by obtain ⟨h, l, h1⟩ := trod_ints hx; exact ⟨(h, l), h1⟩) hf
  simp [Value.cells] at e1
  obtain ⟨rfl, rfl, rfl⟩ := e1
  refine ⟨xs.map (·.2), A0, c0, xs.map (·.1), by simp, by simpa using e2, e3, fun i x hx => ?_, by simp, fun i x l hx hl => ?_⟩
  · rw [List.getElem?_map] at hx
    cases e : xs[i]? with
    | none => rw [e] at hx; cases hx
    | some y =>
      rw [e] at hx
      simp at hx; subst hx
      obtain ⟨ad, cs', rfl, h1, rfl, _⟩ := e5 i y e
      rw [show Try.prog.cellsOf 22 = 1 by kernel_rfl] at h1
      exact ⟨ad, rfl, h1⟩
  · rw [List.getElem?_map] at hx hl
    cases e : xs[i]? with
    | none => rw [e] at hx; cases hx
    | some y =>
      rw [e] at hx hl
      simp at hx hl; subst hx; subst hl
      obtain ⟨ad, cs', rfl, h1, rfl, h2⟩ := e5 i y e
      exact h2
end
end Go.Ov
