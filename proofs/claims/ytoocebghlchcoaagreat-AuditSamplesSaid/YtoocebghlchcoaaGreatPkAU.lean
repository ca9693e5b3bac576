/- Several texts joined (see each one's head). -/
import Derived.Test.YtoocebghlchcoaaGreatPkAT
import Derived.Test.YtoocebghlchcoaaGreatPkAD
import Derived.Test.YtoocebghlchcoaaGreatProg
import Derived.Test.YtoocebghlchcoaaGreatPkAG
import Derived.Test.YtoocebghlchcoaaGreatPkAA
/- Contract of walk.From where a disk has no root. -/
namespace Go.Proofs.YtoocebghlchcoaaGreat.ExtW
open Go.RowKit Go.Ov Go.Proofs.YtoocebghlchcoaaGreat.Need
theorem alloc_size' (w : World) (o : Obj) : (w.alloc o).heap.size = w.heap.size + 1 := by simp
theorem made_at {w w' : World} {o : Obj} {k : Nat} (hk : k = w.heap.size) (hb : Bl (w.alloc o) w') : w'.heap[k]? = some o := by
  subst hk
  rw [hb.block _ (by rw [alloc_size']; omega)]
  exact heap_alloc_new w o
set_option maxRecDepth 100000 in
set_option maxHeartbeats 2000000 in
theorem wFrom_zero (v : Value) (l : List Int) (B : Nat) (n : Nat) (g f d c now : Int) (w : World) (hb : Blk w B #[v] 25) (h : byteE.Is w v l) (hl : l.length ≤ 1000000) (ho : okB l) (hn : n ≤ 4096)
    (hc : chooseM (rdM l 0) (rdM l 1) = (⟨g, f, d, 0⟩, c, now, true)) (hc1 : 0 ≤ c ∧ c ≤ 1000000) (hno : c + 12 ≤ n) :
    Calls Tryz.prog 50 #[rdF B, .int .i64 n] w fun e w' => ∃ F M, e = .returned (.tuple #[.pointer (some ⟨F, 0, none⟩), .bool true]) ∧ Bl w w' ∧ Blk w' F (foundC g f d c M) 76 ∧ w.heap.size ≤ F := by
  have HI := Lib.hid h
  have HX := Lib.hid hb
  have HO := Lib.hid ho
  have HC := Lib.hid hc
  have hw1 : IntKind.i64.wrap (c + 12) = c + 12 := IntWalk.i64_in _ (by omega)
  have hw2 : IntKind.i64.wrap (2 + c) = 2 + c := IntWalk.i64_in _ (by omega)
  have hno' : ¬ (n : Int) < c + 12 := by omega
  have hmm := @run_makeMap Tryz.prog
  clear h hb ho hc
  unfold rdF
  go_enter Tryz.func50, Tryz.ntmps50
  go_wp2_with fail
  refine (afound1_any v l B 0 _ HX.out HI.out hl (by omega)).mono ?_
  rintro e w1 ⟨⟨u1, rfl, hu1⟩, rfl⟩
  have HU1 := Lib.hid hu1
  clear hu1
  go_wp2_with fail
  refine (afound1_any v l B 1 _ HX.out HI.out hl (by omega)).mono ?_
  rintro e w1' ⟨⟨u2, rfl, hu2⟩, rfl⟩
  have HU2 := Lib.hid hu2
  clear hu2
  go_wp2_with fail
  refine (suChoose_any u1 u2 _ _ _ HU1.out HU2.out (by have := rd_len l 0; omega) (by have := rd_len l 1; omega) (rd_ok HO.out 0) (rd_ok HO.out 1)).mono ?_
  rintro e w2 ⟨hb2, he⟩
  rw [HC.out] at he
  simp only [supV] at he
  subst he
  have HB2 := Lib.hid hb2
  clear hb2 HU1 HU2
  go_wp2_with fail
  generalize hN : w2.heap.size = N
  have hB0 := Bl.refl w2
  have hB1 := hB0.alloc (.cells #[.int .i64 g, .int .i64 f, .int .i64 d, .int .i64 0] 71)
  have hs0 : N + 1 = (w2.alloc (.cells #[.int .i64 g, .int .i64 f, .int .i64 d, .int .i64 0] 71)).heap.size := by rw [alloc_size', hN]
  generalize w2.alloc (.cells #[.int .i64 g, .int .i64 f, .int .i64 d, .int .i64 0] 71) = x1 at *
  have hX1 := Blk.new x1 (foundC g f d c (N + 1 + 1 + 1 + 1)) 76
  have hB2 := hB1.alloc (.cells (foundC g f d c (N + 1 + 1 + 1 + 1)) 76)
  have hs1 : N + 1 + 1 = (x1.alloc (.cells (foundC g f d c (N + 1 + 1 + 1 + 1)) 76)).heap.size := by rw [alloc_size', ← hs0]
  rw [← hs0] at hX1
  unfold foundC at hX1 hB2 hs1
  generalize x1.alloc (.cells #[.int .i64 g, .int .i64 f, .int .i64 d, .int .i64 0, .int .i64 c, .pointer none, .slice none 0 0, .slice none 0 0, .slice none 0 0, .map (some (N + 1 + 1 + 1 + 1))] 76) = x2 at *
  have hs2 : N + 1 + 1 + 1 = (x2.alloc (.map #[] 0)).heap.size := by rw [alloc_size', ← hs1]
  have hB3 := (Bl.refl (x2.alloc (.map #[] 0))).alloc (.map #[] 0)
  have hB3' := (hB2.alloc (.map #[] 0)).alloc (.map #[] 0)
  have hX3 := hX1.bl (((Bl.refl x2).alloc (.map #[] 0)).alloc (.map #[] 0))
  have hm1 := made_at (o := .map #[] 0) hs1 hB3
  have hs3 : N + 1 + 1 + 1 + 1 = ((x2.alloc (.map #[] 0)).alloc (.map #[] 0)).heap.size := by rw [alloc_size', ← hs2]
  generalize (x2.alloc (.map #[] 0)).alloc (.map #[] 0) = x3 at *
  have hs4 : N + 1 + 1 + 1 + 1 + 1 = (x3.alloc (.map #[] 0)).heap.size := by rw [alloc_size', ← hs3]
  have hBT := ((Bl.refl (x3.alloc (.map #[] 0)))).alloc (.cells (walkerC (rdF B) (.int .i64 (2 + c)) (.int .i64 n) (N + 1 + 1) (N + 1 + 1 + 1) (N + 1 + 1 + 1 + 1)) 169)
  have hBX := ((Bl.refl x3).alloc (.map #[] 0)).trans hBT
  have hWk := Blk.new (x3.alloc (.map #[] 0)) (walkerC (rdF B) (.int .i64 (2 + c)) (.int .i64 n) (N + 1 + 1) (N + 1 + 1 + 1) (N + 1 + 1 + 1 + 1)) 169
  rw [← hs4] at hWk
  have hm3 := made_at (o := .map #[] 0) hs3 hBT
  have hm1' := (hBX.block _ (Array.getElem?_eq_some_iff.1 hm1).1).trans hm1
  have HBT := Lib.hid (hB3'.trans hBX)
  have HXT := Lib.hid (hX3.bl hBX)
  have HN := Lib.hid (show w1'.heap.size ≤ N + 1 by rw [← hN]; have := HB2.out.size; omega)
  clear hBT hBX hs4 hs3 hs2 hs1 hs0 hB0 hB1 hB2 hB3 hB3' hX1 hX3 hm1
  refine (wreach_none _ _ _ _ _ _ _ _ hWk hm1' hm3).mono ?_
  rintro e w5 ⟨rfl, hb5⟩
  have HX5 := Lib.hid (HXT.out.bl hb5)
  have HB5 := Lib.hid (HBT.out.trans hb5)
  have f8 := HX5.out.frozen 8
  have c8 := HX5.out.cell 8
  simp at c8
  clear hWk hm1' hm3 hb5 HBT HXT
  go_wp2
  go_ret2
  refine ⟨N + 1, N + 1 + 1 + 1 + 1, rfl, HB2.out.trans (HB5.out.grown (setCell_grown _ _ _ _) (fun k hk => by injection hk with hk; omega)), HX5.out.set 8 (.slice none 0 0), HN.out⟩
end Go.Proofs.YtoocebghlchcoaaGreat.ExtW

/- Contracts of audit.found. -/
namespace Go.Proofs.YtoocebghlchcoaaGreat.ExtW
open Go.RowKit Go.Ov Go.Proofs.YtoocebghlchcoaaGreat.Need
theorem afound_arg (v : Value) (l : List Int) (w : World) (h : byteE.Is w v l) (hl : l.length ≤ 1000000) (hs : sectorsM l = 0) :
    Calls Tryz.prog 30 #[v] w fun e w' => e = .returned (.tuple #[.pointer none, .int .i64 1]) ∧ Bl w w' := by
  obtain ⟨A, ca, rfl⟩ : ∃ A c, v = .slice A l.length c := by obtain ⟨A, c, e, _⟩ := h; exact ⟨A, c, e⟩
  have hal := (Bl.refl w).alloc (.cells #[.slice A l.length ca] 25)
  have HBx := Lib.hid (Blk.new w #[.slice A l.length ca] 25)
  have HAL := Lib.hid hal
  have HI := Lib.hid (h.bl HAL.out)
  have c0 := HBx.out.cell 0
  simp at c0
  clear h hal
  go_enter Tryz.func30, Tryz.ntmps30
  go_wp2_with fail
  generalize w.alloc (.cells #[.slice A l.length ca] 25) = w0 at *
  refine (asectors_any _ l _ HI.out (by omega)).mono ?_
  rintro e w1 ⟨rfl, rfl⟩
  rw [hs]
  go_wp2
  go_ret2
  exact ⟨rfl, HAL.out⟩
set_option maxHeartbeats 1000000 in
theorem afound_bad (v : Value) (l : List Int) (w : World) (n : Nat) (g f d r c now : Int) (ok : Bool) (h : byteE.Is w v l) (hl : l.length ≤ 1000000) (ho : okB l) (hs : sectorsM l = n) (h0 : n ≠ 0) (hn : n ≤ 4096)
    (hc : chooseM (rdM l 0) (rdM l 1) = (⟨g, f, d, r⟩, c, now, ok)) (hc1 : 0 ≤ c ∧ c ≤ 1000000) (hno : ok = false ∨ (n : Int) < c + 12) :
    Calls Tryz.prog 30 #[v] w fun e w' => e = .returned (.tuple #[.pointer none, .int .i64 2]) ∧ Bl w w' := by
  obtain ⟨A, ca, rfl⟩ : ∃ A c, v = .slice A l.length c := by obtain ⟨A, c, e, _⟩ := h; exact ⟨A, c, e⟩
  have hal := (Bl.refl w).alloc (.cells #[.slice A l.length ca] 25)
  have HBx := Lib.hid (Blk.new w #[.slice A l.length ca] 25)
  have HAL := Lib.hid hal
  have HI := Lib.hid (h.bl HAL.out)
  have c0 := HBx.out.cell 0
  simp at c0
  clear h hal
  go_enter Tryz.func30, Tryz.ntmps30
  go_wp2_with fail
  generalize w.alloc (.cells #[.slice A l.length ca] 25) = w0 at *
  refine (asectors_any _ l _ HI.out (by omega)).mono ?_
  rintro e w1 ⟨rfl, rfl⟩
  rw [hs]
  have hn0 : ¬ (n : Int) = 0 := by omega
  go_wp2_with fail
  refine (wFrom_no _ l _ n g f d r c now ok _ HBx.out HI.out hl ho hn hc hc1 hno).mono ?_
  rintro e w2 ⟨rfl, hb2⟩
  go_wp2
  go_ret2
  exact ⟨rfl, HAL.out.trans hb2⟩
set_option maxHeartbeats 1000000 in
theorem afound_zero (v : Value) (l : List Int) (w : World) (n : Nat) (g f d c now : Int) (h : byteE.Is w v l) (hl : l.length ≤ 1000000) (ho : okB l) (hs : sectorsM l = n) (h0 : n ≠ 0) (hn : n ≤ 4096)
    (hc : chooseM (rdM l 0) (rdM l 1) = (⟨g, f, d, 0⟩, c, now, true)) (hc1 : 0 ≤ c ∧ c ≤ 1000000) (hno : c + 12 ≤ n) :
    Calls Tryz.prog 30 #[v] w fun e w' => ∃ F M, e = .returned (.tuple #[.pointer (some ⟨F, 0, none⟩), .int .i64 0]) ∧ Bl w w' ∧ Blk w' F (foundC g f d c M) 76 := by
  obtain ⟨A, ca, rfl⟩ : ∃ A c, v = .slice A l.length c := by obtain ⟨A, c, e, _⟩ := h; exact ⟨A, c, e⟩
  have hal := (Bl.refl w).alloc (.cells #[.slice A l.length ca] 25)
  have HBx := Lib.hid (Blk.new w #[.slice A l.length ca] 25)
  have HAL := Lib.hid hal
  have HI := Lib.hid (h.bl HAL.out)
  have c0 := HBx.out.cell 0
  simp at c0
  clear h hal
  go_enter Tryz.func30, Tryz.ntmps30
  go_wp2_with fail
  generalize w.alloc (.cells #[.slice A l.length ca] 25) = w0 at *
  refine (asectors_any _ l _ HI.out (by omega)).mono ?_
  rintro e w1 ⟨rfl, rfl⟩
  rw [hs]
  have hn0 : ¬ (n : Int) = 0 := by omega
  go_wp2_with fail
  refine (wFrom_zero _ l _ n g f d c now _ HBx.out HI.out hl ho hn hc hc1 hno).mono ?_
  rintro e w2 ⟨F, M, rfl, hb2, hF, _⟩
  go_wp2
  go_ret2
  exact ⟨F, M, rfl, HAL.out.trans hb2, hF⟩
end Go.Proofs.YtoocebghlchcoaaGreat.ExtW

/- Contracts of package piece and extent's functions, and of overdublaw16.Row. -/
namespace Go.Proofs.YtoocebghlchcoaaGreat.ExtW
open Go.RowKit Go.Ov Go.Proofs.YtoocebghlchcoaaGreat.Need

theorem infoExt : (Tryz.prog.info? 34).map (fun i => (i.zero, i.size, i.bytes)) = some (some (.agg #[.int .i64 0, .int .i64 0, .int .i64 0, .int .i64 0, .int .i64 0]), 5, 40) := by kernel_rfl

set_option maxRecDepth 100000 in
set_option maxHeartbeats 1000000 in
theorem end_any (v : Value) (l : List Ext) (w : World) (h : extE.Is w v l) :
    Calls Tryz.prog 154 #[v] w fun e w' => e = .returned (.int .i64 (wrap64 (endM l))) ∧ Bl w w' := by
  obtain ⟨A, c, rfl, h1, h2, h3, h4⟩ := h
  have HA := Lib.hid h4
  have hl : l.length ≤ 9223372036854775807 := by unfold maxLen at h2; omega
  have hu := Tryz.underlying34
  clear h1 h2 h3 h4
  go_enter Tryz.func154, Tryz.ntmps154
  go_wp2
  go_loopg [3, 8] l.length (fun g s i wr => ∃ k : Nat, k ≤ l.length ∧ g = l.length - k ∧ i = .int .i64 k ∧ s = .int .i64 (wrap64 (psum Ext.take l k)) ∧ Bl w wr)
  case atStart => exact ⟨0, by omega, rfl, rfl, by rw [psum_zero]; exact congrArg (Value.int .i64) (wrap_id (by decide) (by decide)).symm, Bl.refl _⟩
  case round =>
    obtain ⟨k, hk, rfl, rfl, rfl, hbl⟩ := hrel
    have HB := Lib.hid hbl
    clear hbl
    by_cases hlt : k < l.length
    · obtain ⟨ad, rfl, c0, c1, c2, c3, c4⟩ := ext_at (HA.out.bl HB.out) k hlt
      have hst := Lib.hid (psum_succ Ext.take l k hlt)
      generalize l[k] = x at *
      obtain ⟨x0, x1, x2, x3, x4⟩ := x
      dsimp only at c0 c1 c2 c3 c4
      go_wp2
      go_roundg (l.length - (k + 1))
      case measure => omega
      case rel => exact ⟨k + 1, by omega, rfl, by go_num, by rw [hst.out, wrap_wrap_add], HB.out.alloc _⟩
    · go_wp2
      go_ret
      exact ⟨ret_int (by rw [psum_all _ _ _ (by omega)]; rfl), HB.out⟩

set_option maxRecDepth 100000 in
set_option maxHeartbeats 1000000 in
theorem one_any (x : Ext) (w : World) : Calls Tryz.prog 66 #[x.v] w fun e w' => e = .returned (.bool (oneB x)) ∧ w.alloc (.cells #[.int .i64 x.at_, .int .i64 x.sector, .int .i64 x.count, .int .i64 x.skip, .int .i64 x.take] 34) = w' := by
  obtain ⟨x0, x1, x2, x3, x4⟩ := x
  have hu := Tryz.underlying34
  show Calls Tryz.prog 66 #[.agg #[.int .i64 x0, .int .i64 x1, .int .i64 x2, .int .i64 x3, .int .i64 x4]] w _
  go_enter Tryz.func66, Tryz.ntmps66
  go_wp2
  all_goals (go_ret; refine ⟨ret_bool ?_, rfl⟩; rw [Bool.eq_iff_iff]; simp [oneB]; omega)

set_option maxRecDepth 100000 in
set_option maxHeartbeats 1000000 in
theorem pvalid_any (v : Value) (l : List Ext) (w : World) (h : extE.Is w v l) : Calls Tryz.prog 41 #[v] w fun e w' => e = .returned (.bool (validFrom 0 l)) ∧ Bl w w' := by
  obtain ⟨A, c, rfl, h1, h2, h3, h4⟩ := h
  have HA := Lib.hid h4
  have hl : l.length ≤ 9223372036854775807 := by unfold maxLen at h2; omega
  have hu := Tryz.underlying34
  clear h1 h2 h3 h4
  go_enter Tryz.func41, Tryz.ntmps41
  go_wp2
  go_loopg [3, 8] l.length (fun g s i wr => ∃ (k : Nat) (a : Int), k ≤ l.length ∧ g = l.length - k ∧ i = .int .i64 k ∧ s = .int .i64 a ∧ Hid (validFrom 0 l = validFrom a (l.drop k)) ∧ 0 ≤ a ∧ a ≤ 1000 ∧ Bl w wr)
  case atStart => exact ⟨0, 0, by omega, rfl, rfl, rfl, Lib.hid rfl, by omega, by omega, Bl.refl _⟩
  case round =>
    obtain ⟨k, a, hk, rfl, rfl, rfl, hv, ha0, ha1, hbl⟩ := hrel
    have HB := Lib.hid hbl
    clear hbl
    by_cases hlt : k < l.length
    · obtain ⟨ad, rfl, c0, c1, c2, c3, c4⟩ := ext_at (HA.out.bl HB.out) k hlt
      have hd := Lib.hid (List.drop_eq_getElem_cons hlt)
      generalize hx : l[k] = x at *
      have HX := Lib.hid hx
      clear hx
      by_cases t1 : oneB x = true
      · have ht := Lib.hid t1
        have hcase : validFrom a (x :: l.drop (k + 1)) = ((x.at_ == a) && decide (x.take ≤ 1000 - a) && validFrom (a + x.take) (l.drop (k + 1))) := by simp [validFrom, t1]
        have HC := Lib.hid hcase
        have htk : 1 ≤ x.take := by simp [oneB] at t1; omega
        obtain ⟨x0, x1, x2, x3, x4⟩ := x
        dsimp only at c0 c1 c2 c3 c4 htk
        clear hcase
        go_wp2_with (go_at_call 66; refine (one_any ⟨x0, x1, x2, x3, x4⟩ _).mono ?_; rintro e w' ⟨rfl, rfl⟩)
        · go_ret
          refine ⟨ret_bool ?_, (HB.out.alloc _).alloc _⟩
          rw [hv.out, hd.out, HC.out, Bool.eq_iff_iff]; simp; intros; exfalso; omega
        · go_roundg (l.length - (k + 1))
          case measure => omega
          case rel =>
            refine ⟨k + 1, a + x4, by omega, rfl, by go_num, rfl, Lib.hid ?_, by omega, by omega, (HB.out.alloc _).alloc _⟩
            rw [hv.out, hd.out, HC.out]; simp; omega
        · go_ret
          refine ⟨ret_bool ?_, (HB.out.alloc _).alloc _⟩
          rw [hv.out, hd.out, HC.out, Bool.eq_iff_iff]; simp; intros; exfalso; omega
      · have t1' : oneB x = false := by simpa using t1
        have hcase : validFrom a (x :: l.drop (k + 1)) = false := by simp [validFrom, t1']
        have HC := Lib.hid hcase
        clear t1 hcase
        obtain ⟨x0, x1, x2, x3, x4⟩ := x
        dsimp only at c0 c1 c2 c3 c4
        go_wp2_with (go_at_call 66; refine (one_any ⟨x0, x1, x2, x3, x4⟩ _).mono ?_; rintro e w' ⟨rfl, rfl⟩)
        go_ret
        exact ⟨ret_bool (by rw [hv.out, hd.out, HC.out]), (HB.out.alloc _).alloc _⟩
    · go_wp2
      go_ret
      refine ⟨ret_bool ?_, HB.out⟩
      rw [hv.out, List.drop_of_length_le (by omega)]; rfl

set_option maxRecDepth 100000 in
set_option maxHeartbeats 1000000 in
theorem valid_any (v : Value) (l : List Ext) (w : World) (h : extE.Is w v l) : Calls Tryz.prog 22 #[v] w fun e w' => e = .returned (.bool (validFrom 0 l)) ∧ Bl w w' := by
  have HH := Lib.hid h
  clear h
  go_enter Tryz.func22, Tryz.ntmps22
  go_wp2_with (go_at_call 41; refine (pvalid_any _ _ _ HH.out).mono ?_; rintro e w' ⟨rfl, hb⟩)
  go_ret
  exact ⟨rfl, hb⟩

def pflat {α β : Type} (f : α → List β) (l : List α) (k : Nat) : List β := (l.take k).flatMap f
theorem pflat_zero {α β : Type} (f : α → List β) (l : List α) : pflat f l 0 = [] := rfl
theorem pflat_succ {α β : Type} (f : α → List β) (l : List α) (k : Nat) (h : k < l.length) : pflat f l (k + 1) = pflat f l k ++ f l[k] := by
  unfold pflat; rw [List.take_succ_eq_append_getElem h, List.flatMap_append]; simp
theorem pflat_all {α β : Type} (f : α → List β) (l : List α) (k : Nat) (h : l.length ≤ k) : pflat f l k = l.flatMap f := by
  unfold pflat; rw [List.take_of_length_le h]
theorem pflat_len {α β : Type} (f : α → List β) (hf : ∀ x, (f x).length ≤ 1) (l : List α) : ∀ k, (pflat f l k).length ≤ k
  | 0 => by rw [pflat_zero]; simp
  | k + 1 => by
    have ih := pflat_len f hf l k
    by_cases h : k < l.length
    · rw [pflat_succ _ _ _ h, List.length_append]; have := hf l[k]; omega
    · rw [pflat_all _ _ _ (by omega)]; rw [pflat_all _ _ _ (by omega)] at ih; omega

theorem ret2 {u : Value} {a b : Int} (h : a = b) : Ending.returned (.tuple #[u, .int .i64 a]) = .returned (.tuple #[u, .int .i64 b]) := by rw [h]

end Go.Proofs.YtoocebghlchcoaaGreat.ExtW
