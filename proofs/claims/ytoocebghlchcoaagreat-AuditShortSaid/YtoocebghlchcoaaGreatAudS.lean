/- Contract of audit.Samples where no extent is asked for. -/
import Derived.Test.YtoocebghlchcoaaGreatAudT
import Derived.Test.YtoocebghlchcoaaGreatCrcW
namespace Go.Proofs.YtoocebghlchcoaaGreat.ExtW
open Go.RowKit Go.Ov Go.Proofs.YtoocebghlchcoaaGreat.Need
theorem knewN_any (w : World) : Calls Tryz.prog 42 #[] w fun e w' => ∃ C, e = .returned (.pointer (some ⟨C, 0, none⟩)) ∧ Bl w w' := by
  go_enter Tryz.func42, Tryz.ntmps42
  go_wp2_with fail
  refine (cnew_any _).mono ?_
  rintro e w1 ⟨rfl, hb, hk⟩
  clear hk
  go_wp2
  go_ret
  exact ⟨_, rfl, hb.alloc _⟩
theorem asamples_nil (v : Value) (w : World) :
    Calls Tryz.prog 23 #[v, .slice none 0 0] w fun e w' => e = .returned (.tuple #[.slice none 0 0, .bool true]) ∧ Bl w w' := by
  go_enter Tryz.func23, Tryz.ntmps23
  go_wp2_with fail
  refine (knewN_any _).mono ?_
  rintro e w1 ⟨C, rfl, hb⟩
  go_wp2_with fail
  refine wp_loop_rounds 1 ?_
  rw [rounds_succ]
  go_wp2
  go_ret2
  exact ⟨rfl, hb⟩
theorem aSamples_arg (v : Value) (l : List Int) (w : World) (h : byteE.Is w v l) (hl : l.length ≤ 1000000) (hs : sectorsM l = 0) :
    Calls Tryz.prog 10 #[v, .slice none 0 0] w fun e w' => e = .returned (.tuple #[.slice none 0 0, .int .i64 1]) ∧ Bl w w' := by
  have HI := Lib.hid h
  clear h
  go_enter Tryz.func10, Tryz.ntmps10
  go_wp2_with fail
  refine (asectors_any _ l _ HI.out (by omega)).mono ?_
  rintro e w1 ⟨rfl, rfl⟩
  rw [hs]
  go_wp2
  go_ret2
  exact ⟨rfl, Bl.refl _⟩
theorem aSamples_nil (v : Value) (l : List Int) (w : World) (n : Nat) (h : byteE.Is w v l) (hl : l.length ≤ 1000000) (hs : sectorsM l = n) (h0 : n ≠ 0) :
    Calls Tryz.prog 10 #[v, .slice none 0 0] w fun e w' => e = .returned (.tuple #[.slice none 0 0, .int .i64 0]) ∧ Bl w w' := by
  have HI := Lib.hid h
  clear h
  go_enter Tryz.func10, Tryz.ntmps10
  go_wp2_with fail
  refine (asectors_any _ l _ HI.out (by omega)).mono ?_
  rintro e w1 ⟨rfl, rfl⟩
  rw [hs]
  have hn0 : ¬ (n : Int) = 0 := by omega
  go_wp2_with fail
  refine (valid_any _ [] _ (Enc.Is.nil _)).mono ?_
  rintro e w2 ⟨rfl, hb2⟩
  rw [show validFrom 0 [] = true from rfl]
  go_wp2_with fail
  refine (asamples_nil _ _).mono ?_
  rintro e w3 ⟨rfl, hb3⟩
  go_wp2
  go_ret2
  exact ⟨rfl, hb2.trans hb3⟩
end Go.Proofs.YtoocebghlchcoaaGreat.ExtW
