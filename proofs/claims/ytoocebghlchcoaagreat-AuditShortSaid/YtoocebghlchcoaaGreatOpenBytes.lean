/- How an argument that is a slice of bytes is opened. -/
import Derived.Test.YtoocebghlchcoaaGreatOpen
import Derived.Test.YtoocebghlchcoaaGreatNeed
import Derived.Test.YtoocebghlchcoaaGreatByteP
import Derived.Test.YtoocebghlchcoaaGreatProg
namespace Go.Ov
open Go.RowKit Go.ChangeShapes Go.WideShapes Go.ChangeAt Go.Deep Go.Proofs
/-- an argument that is a slice of bytes -/
def ArgBytes (w : World) (v : Value) (l : List Int) : Prop := byteE.Is w v l ∧ l.length ≤ 140737488351232 ∧ okB l
section
variable {H : Type} {enc : TypeId × Value → H} {w : World} {base : Nat} {spare : Nat → Bool} {held : Bool}
theorem wf_byte {x : Int} (h : (Lit.int .u8 x).wf = true) : 0 ≤ x ∧ x < 256 := by have := bounds_u8 h; omega
set_option maxRecDepth 100000 in
theorem open_arg_bytes {r : Reach} {b0 : Nat} {v : Value} {d : DataW H} {p : List MemPlace} {ts : List TypeId} {ds : List (DataW H)} {j : Nat} (hv : Value.okWide Tryz.prog w r b0 25 v)
    (hsz : (DataW.weightsEach Tryz.prog ts ds).all (· ≤ reachBytes) = true) (htj : ts[j]? = some 25) (hdj : ds[j]? = some d)
    (h : DataW.Trod enc Tryz.prog w base spare held 25 v d p) : ∃ l, ArgBytes w v l := by
  obtain ⟨a, n, c, rfl⟩ := okWide_slice Tryz.underlying25 hv
  obtain ⟨fuel, hf⟩ := h
  obtain ⟨A, c', xs, e1, e2, e3, e4, e5, e6⟩ := trod_slice_rel (α := Int) (fun x cs => cs = [.int .u8 x] ∧ (Lit.int .u8 x).wf = true) Tryz.underlying25 (fun fuel cs x hx => trod_int Tryz.underlying5 hx) hf
  simp [Value.cells] at e1
  obtain ⟨rfl, rfl, rfl⟩ := e1
  refine ⟨xs, ⟨a, c, rfl, e2, e3, e4, fun i x hx => ?_⟩, ?_, fun x hx => ?_⟩
  · obtain ⟨ad, cs', rfl, h1, rfl, _⟩ := e5 i x hx
    rw [show Tryz.prog.cellsOf 5 = 1 by kernel_rfl] at h1
    exact ⟨ad, rfl, h1⟩
  · rcases e6 with ⟨_, rfl⟩ | ⟨el, sp, rfl, e7⟩
    · simp
    · have z := sized_slice hsz htj hdj Tryz.underlying25
      rw [show Tryz.prog.bytesOf 5 = 1 by kernel_rfl, e7] at z
      have : reachBytes = 140737488351232 := rfl
      have := Nat.mul_le_mul_right 1 (Nat.le_add_right xs.length sp.length)
      omega
  · obtain ⟨i, hi⟩ := List.getElem?_of_mem hx
    obtain ⟨ad, cs', _, _, _, h2⟩ := e5 i x hi
    exact wf_byte h2
end
end Go.Ov
