/- Contracts of package piece and extent's functions, and of overdublaw16.Row. -/
import Derived.Test.YtoocebghlchcoaaGreatProg
import Derived.Test.YtoocebghlchcoaaGreatNeed
import Derived.Test.YtoocebghlchcoaaGreatExt
namespace Go.Proofs.YtoocebghlchcoaaGreat.ExtW
open Go.RowKit Go.Ov Go.Proofs.YtoocebghlchcoaaGreat.Need

theorem infoExt : (Tryz.prog.info? 34).map (fun i => (i.zero, i.size, i.bytes)) = some (some (.agg #[.int .i64 0, .int .i64 0, .int .i64 0, .int .i64 0, .int .i64 0]), 5, 40) := by kernel_rfl

set_option maxRecDepth 100000 in
set_option maxHeartbeats 1000000 in
theorem end_any (v : Value) (l : List Ext) (w : World) (h : extE.Is w v l) :
    Calls Tryz.prog 154 #[v] w fun e w' => e = .returned (.int .i64 (wrap64 (endM l))) ∧ Bl w w' := by
  obtain ⟨A, c, rfl, h1, h2, h3, h4⟩ := h
  have HA := Lib.hid h4
  have hl : l.length ≤ 9223372036854775807 := by unfold maxLen at h2; omega
  have hu := Tryz.underlying34
  clear h1 h2 h3 h4
  go_enter Tryz.func154, Tryz.ntmps154
  go_wp2
  go_loopg [3, 8] l.length (fun g s i wr => ∃ k : Nat, k ≤ l.length ∧ g = l.length - k ∧ i = .int .i64 k ∧ s = .int .i64 (wrap64 (psum Ext.take l k)) ∧ Bl w wr)
  case atStart => exact ⟨0, by omega, rfl, rfl, by rw [psum_zero]; exact congrArg (Value.int .i64) (wrap_id (by decide) (by decide)).symm, Bl.refl _⟩
  case round =>
    obtain ⟨k, hk, rfl, rfl, rfl, hbl⟩ := hrel
    have HB := Lib.hid hbl
    clear hbl
    by_cases hlt : k < l.length
    · obtain ⟨ad, rfl, c0, c1, c2, c3, c4⟩ := ext_at (HA.out.bl HB.out) k hlt
      have hst := Lib.hid (psum_succ Ext.take l k hlt)
      generalize l[k] = x at *
      obtain ⟨x0, x1, x2, x3, x4⟩ := x
      dsimp only at c0 c1 c2 c3 c4
      go_wp2
      go_roundg (l.length - (k + 1))
      case measure => omega
      case rel => exact ⟨k + 1, by omega, rfl, by go_num, by rw [hst.out, wrap_wrap_add], HB.out.alloc _⟩
    · go_wp2
      go_ret
      exact ⟨ret_int (by rw [psum_all _ _ _ (by omega)]; rfl), HB.out⟩

set_option maxRecDepth 100000 in
set_option maxHeartbeats 1000000 in
theorem one_any (x : Ext) (w : World) : Calls Tryz.prog 66 #[x.v] w fun e w' => e = .returned (.bool (oneB x)) ∧ w.alloc (.cells #[.int .i64 x.at_, .int .i64 x.sector, .int .i64 x.count, .int .i64 x.skip, .int .i64 x.take] 34) = w' := by
  obtain ⟨x0, x1, x2, x3, x4⟩ := x
  have hu := Tryz.underlying34
  show Calls Tryz.prog 66 #[.agg #[.int .i64 x0, .int .i64 x1, .int .i64 x2, .int .i64 x3, .int .i64 x4]] w _
  go_enter Tryz.func66, Tryz.ntmps66
  go_wp2
  all_goals (go_ret; refine ⟨ret_bool ?_, rfl⟩; rw [Bool.eq_iff_iff]; simp [oneB]; omega)

set_option maxRecDepth 100000 in
set_option maxHeartbeats 1000000 in
theorem pvalid_any (v : Value) (l : List Ext) (w : World) (h : extE.Is w v l) : Calls Tryz.prog 41 #[v] w fun e w' => e = .returned (.bool (validFrom 0 l)) ∧ Bl w w' := by
  obtain ⟨A, c, rfl, h1, h2, h3, h4⟩ := h
  have HA := Lib.hid h4
  have hl : l.length ≤ 9223372036854775807 := by unfold maxLen at h2; omega
  have hu := Tryz.underlying34
  clear h1 h2 h3 h4
  go_enter Tryz.func41, Tryz.ntmps41
  go_wp2
  go_loopg [3, 8] l.length (fun g s i wr => ∃ (k : Nat) (a : Int), k ≤ l.length ∧ g = l.length - k ∧ i = .int .i64 k ∧ s = .int .i64 a ∧ Hid (validFrom 0 l = validFrom a (l.drop k)) ∧ 0 ≤ a ∧ a ≤ 1000 ∧ Bl w wr)
  case atStart => exact ⟨0, 0, by omega, rfl, rfl, rfl, Lib.hid rfl, by omega, by omega, Bl.refl _⟩
  case round =>
    obtain ⟨k, a, hk, rfl, rfl, rfl, hv, ha0, ha1, hbl⟩ := hrel
    have HB := Lib.hid hbl
    clear hbl
    by_cases hlt : k < l.length
    · obtain ⟨ad, rfl, c0, c1, c2, c3, c4⟩ := ext_at (HA.out.bl HB.out) k hlt
      have hd := Lib.hid (List.drop_eq_getElem_cons hlt)
      generalize hx : l[k] = x at *
      have HX := Lib.hid hx
      clear hx
      by_cases t1 : oneB x = true
      · have ht := Lib.hid t1
        have hcase : validFrom a (x :: l.drop (k + 1)) = ((x.at_ == a) && decide (x.take ≤ 1000 - a) && validFrom (a + x.take) (l.drop (k + 1))) := by simp [validFrom, t1]
        have HC := Lib.hid hcase
        have htk : 1 ≤ x.take := by simp [oneB] at t1; omega
        obtain ⟨x0, x1, x2, x3, x4⟩ := x
        dsimp only at c0 c1 c2 c3 c4 htk
        clear hcase
        go_wp2_with (go_at_call 66; refine (one_any ⟨x0, x1, x2, x3, x4⟩ _).mono ?_; rintro e w' ⟨rfl, rfl⟩)
        · go_ret
          refine ⟨ret_bool ?_, (HB.out.alloc _).alloc _⟩
          rw [hv.out, hd.out, HC.out, Bool.eq_iff_iff]; simp; intros; exfalso; omega
        · go_roundg (l.length - (k + 1))
          case measure => omega
          case rel =>
            refine ⟨k + 1, a + x4, by omega, rfl, by go_num, rfl, Lib.hid ?_, by omega, by omega, (HB.out.alloc _).alloc _⟩
            rw [hv.out, hd.out, HC.out]; simp; omega
        · go_ret
          refine ⟨ret_bool ?_, (HB.out.alloc _).alloc _⟩
          rw [hv.out, hd.out, HC.out, Bool.eq_iff_iff]; simp; intros; exfalso; omega
      · have t1' : oneB x = false := by simpa using t1
        have hcase : validFrom a (x :: l.drop (k + 1)) = false := by simp [validFrom, t1']
        have HC := Lib.hid hcase
        clear t1 hcase
        obtain ⟨x0, x1, x2, x3, x4⟩ := x
        dsimp only at c0 c1 c2 c3 c4
        go_wp2_with (go_at_call 66; refine (one_any ⟨x0, x1, x2, x3, x4⟩ _).mono ?_; rintro e w' ⟨rfl, rfl⟩)
        go_ret
        exact ⟨ret_bool (by rw [hv.out, hd.out, HC.out]), (HB.out.alloc _).alloc _⟩
    · go_wp2
      go_ret
      refine ⟨ret_bool ?_, HB.out⟩
      rw [hv.out, List.drop_of_length_le (by omega)]; rfl

set_option maxRecDepth 100000 in
set_option maxHeartbeats 1000000 in
theorem valid_any (v : Value) (l : List Ext) (w : World) (h : extE.Is w v l) : Calls Tryz.prog 22 #[v] w fun e w' => e = .returned (.bool (validFrom 0 l)) ∧ Bl w w' := by
  have HH := Lib.hid h
  clear h
  go_enter Tryz.func22, Tryz.ntmps22
  go_wp2_with (go_at_call 41; refine (pvalid_any _ _ _ HH.out).mono ?_; rintro e w' ⟨rfl, hb⟩)
  go_ret
  exact ⟨rfl, hb⟩

def pflat {α β : Type} (f : α → List β) (l : List α) (k : Nat) : List β := (l.take k).flatMap f
theorem pflat_zero {α β : Type} (f : α → List β) (l : List α) : pflat f l 0 = [] := rfl
theorem pflat_succ {α β : Type} (f : α → List β) (l : List α) (k : Nat) (h : k < l.length) : pflat f l (k + 1) = pflat f l k ++ f l[k] := by
  unfold pflat; rw [List.take_succ_eq_append_getElem h, List.flatMap_append]; simp
theorem pflat_all {α β : Type} (f : α → List β) (l : List α) (k : Nat) (h : l.length ≤ k) : pflat f l k = l.flatMap f := by
  unfold pflat; rw [List.take_of_length_le h]
theorem pflat_len {α β : Type} (f : α → List β) (hf : ∀ x, (f x).length ≤ 1) (l : List α) : ∀ k, (pflat f l k).length ≤ k
  | 0 => by rw [pflat_zero]; simp
  | k + 1 => by
    have ih := pflat_len f hf l k
    by_cases h : k < l.length
    · rw [pflat_succ _ _ _ h, List.length_append]; have := hf l[k]; omega
    · rw [pflat_all _ _ _ (by omega)]; rw [pflat_all _ _ _ (by omega)] at ih; omega

theorem ret2 {u : Value} {a b : Int} (h : a = b) : Ending.returned (.tuple #[u, .int .i64 a]) = .returned (.tuple #[u, .int .i64 b]) := by rw [h]

end Go.Proofs.YtoocebghlchcoaaGreat.ExtW
