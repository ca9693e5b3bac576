/- Contracts of audit.found. -/
import Derived.Test.YtoocebghlchcoaaGreatFoundZ
namespace Go.Proofs.YtoocebghlchcoaaGreat.ExtW
open Go.RowKit Go.Ov Go.Proofs.YtoocebghlchcoaaGreat.Need
theorem afound_arg (v : Value) (l : List Int) (w : World) (h : byteE.Is w v l) (hl : l.length ≤ 1000000) (hs : sectorsM l = 0) :
    Calls Tryz.prog 30 #[v] w fun e w' => e = .returned (.tuple #[.pointer none, .int .i64 1]) ∧ Bl w w' := by
  obtain ⟨A, ca, rfl⟩ : ∃ A c, v = .slice A l.length c := by obtain ⟨A, c, e, _⟩ := h; exact ⟨A, c, e⟩
  have hal := (Bl.refl w).alloc (.cells #[.slice A l.length ca] 25)
  have HBx := Lib.hid (Blk.new w #[.slice A l.length ca] 25)
  have HAL := Lib.hid hal
  have HI := Lib.hid (h.bl HAL.out)
  have c0 := HBx.out.cell 0
  simp at c0
  clear h hal
  go_enter Tryz.func30, Tryz.ntmps30
  go_wp2_with fail
  generalize w.alloc (.cells #[.slice A l.length ca] 25) = w0 at *
  refine (asectors_any _ l _ HI.out (by omega)).mono ?_
  rintro e w1 ⟨rfl, rfl⟩
  rw [hs]
  go_wp2
  go_ret2
  exact ⟨rfl, HAL.out⟩
set_option maxHeartbeats 1000000 in
theorem afound_bad (v : Value) (l : List Int) (w : World) (n : Nat) (g f d r c now : Int) (ok : Bool) (h : byteE.Is w v l) (hl : l.length ≤ 1000000) (ho : okB l) (hs : sectorsM l = n) (h0 : n ≠ 0) (hn : n ≤ 4096)
    (hc : chooseM (rdM l 0) (rdM l 1) = (⟨g, f, d, r⟩, c, now, ok)) (hc1 : 0 ≤ c ∧ c ≤ 1000000) (hno : ok = false ∨ (n : Int) < c + 12) :
    Calls Tryz.prog 30 #[v] w fun e w' => e = .returned (.tuple #[.pointer none, .int .i64 2]) ∧ Bl w w' := by
  obtain ⟨A, ca, rfl⟩ : ∃ A c, v = .slice A l.length c := by obtain ⟨A, c, e, _⟩ := h; exact ⟨A, c, e⟩
  have hal := (Bl.refl w).alloc (.cells #[.slice A l.length ca] 25)
  have HBx := Lib.hid (Blk.new w #[.slice A l.length ca] 25)
  have HAL := Lib.hid hal
  have HI := Lib.hid (h.bl HAL.out)
  have c0 := HBx.out.cell 0
  simp at c0
  clear h hal
  go_enter Tryz.func30, Tryz.ntmps30
  go_wp2_with fail
  generalize w.alloc (.cells #[.slice A l.length ca] 25) = w0 at *
  refine (asectors_any _ l _ HI.out (by omega)).mono ?_
  rintro e w1 ⟨rfl, rfl⟩
  rw [hs]
  have hn0 : ¬ (n : Int) = 0 := by omega
  go_wp2_with fail
  refine (wFrom_no _ l _ n g f d r c now ok _ HBx.out HI.out hl ho hn hc hc1 hno).mono ?_
  rintro e w2 ⟨rfl, hb2⟩
  go_wp2
  go_ret2
  exact ⟨rfl, HAL.out.trans hb2⟩
set_option maxHeartbeats 1000000 in
theorem afound_zero (v : Value) (l : List Int) (w : World) (n : Nat) (g f d c now : Int) (h : byteE.Is w v l) (hl : l.length ≤ 1000000) (ho : okB l) (hs : sectorsM l = n) (h0 : n ≠ 0) (hn : n ≤ 4096)
    (hc : chooseM (rdM l 0) (rdM l 1) = (⟨g, f, d, 0⟩, c, now, true)) (hc1 : 0 ≤ c ∧ c ≤ 1000000) (hno : c + 12 ≤ n) :
    Calls Tryz.prog 30 #[v] w fun e w' => ∃ F M, e = .returned (.tuple #[.pointer (some ⟨F, 0, none⟩), .int .i64 0]) ∧ Bl w w' ∧ Blk w' F (foundC g f d c M) 76 := by
  obtain ⟨A, ca, rfl⟩ : ∃ A c, v = .slice A l.length c := by obtain ⟨A, c, e, _⟩ := h; exact ⟨A, c, e⟩
  have hal := (Bl.refl w).alloc (.cells #[.slice A l.length ca] 25)
  have HBx := Lib.hid (Blk.new w #[.slice A l.length ca] 25)
  have HAL := Lib.hid hal
  have HI := Lib.hid (h.bl HAL.out)
  have c0 := HBx.out.cell 0
  simp at c0
  clear h hal
  go_enter Tryz.func30, Tryz.ntmps30
  go_wp2_with fail
  generalize w.alloc (.cells #[.slice A l.length ca] 25) = w0 at *
  refine (asectors_any _ l _ HI.out (by omega)).mono ?_
  rintro e w1 ⟨rfl, rfl⟩
  rw [hs]
  have hn0 : ¬ (n : Int) = 0 := by omega
  go_wp2_with fail
  refine (wFrom_zero _ l _ n g f d c now _ HBx.out HI.out hl ho hn hc hc1 hno).mono ?_
  rintro e w2 ⟨F, M, rfl, hb2, hF, _⟩
  go_wp2
  go_ret2
  exact ⟨F, M, rfl, HAL.out.trans hb2, hF⟩
end Go.Proofs.YtoocebghlchcoaaGreat.ExtW
