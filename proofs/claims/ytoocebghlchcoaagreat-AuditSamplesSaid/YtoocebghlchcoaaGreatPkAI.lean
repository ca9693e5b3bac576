/- Several texts joined (see each one's head). -/
import Derived.Test.YtoocebghlchcoaaGreatPkAH
import Derived.Test.YtoocebghlchcoaaGreatPkAF
import Derived.Test.YtoocebghlchcoaaGreatPkAG
import Derived.Laws.Rows
/- Contracts of bits.Reader. -/
namespace Go.Proofs.YtoocebghlchcoaaGreat.ExtW
open Go.RowKit Go.Ov Go.Proofs.YtoocebghlchcoaaGreat.Need
/-- a reader in block B: its bytes, where it stands -/
structure RdSt (w : World) (B : Nat) (v : Value) (l : List Int) (p : Nat) : Prop where
  blk : Blk w B #[v, .int .i64 p] 223
  is : byteE.Is (only w (nbs [some B])) v l
  len : l.length ≤ 1000000
  ok : okB l
  at_ : p ≤ 8 * l.length
theorem RdSt.bl {w w' : World} {B : Nat} {v : Value} {l : List Int} {p : Nat} (h : RdSt w B v l p) (hb : Bl w w') : RdSt w' B v l p := ⟨h.blk.bl hb, (Sub.bl (hb.only _)).is h.is, h.len, h.ok, h.at_⟩
/-- what is left to read -/
def leftB (l : List Int) (p : Nat) : List Bool := (unpackB l).drop p
theorem leftB_len (l : List Int) (p : Nat) : (leftB l p).length = 8 * l.length - p := by unfold leftB; rw [List.length_drop, unpackB_len]
theorem and_one (y : Int) (h0 : 0 ≤ y) (h1 : y < 4611686018427387904) : bits .and .i64 y 1 = y % 2 := by
  have := bits_mask .i64 62 (by decide) (fun n h0 h1 => IntWalk.i64_in _ (by omega)) 1 (by decide) y h0 (by omega)
  simpa using this
theorem rNew_any (v : Value) (l : List Int) (w : World) (h : byteE.Is w v l) (hl : l.length ≤ 1000000) (ho : okB l) :
    Calls Tryz.prog 102 #[v] w fun e w' => ∃ B u, e = .returned (.pointer (some ⟨B, 0, none⟩)) ∧ Bl w w' ∧ w.heap.size ≤ B ∧ RdSt w' B u l 0 := by
  have HI := Lib.hid h
  clear h
  go_enter Tryz.func102, Tryz.ntmps102
  go_wp2_with (at_builtin; refine Enc.Own.append (E := byteE) rfl _ _ 25 rfl w.heap.size 5 (.int .u8 0) 1 1 Tryz.underlying25 infoByte rfl rfl (by decide) (by decide) (.slice none 0 0) [] rfl (Enc.Own.nil _ _ _) v l rfl HI.out (by simp; omega) (Nat.le_refl _) ?_; intro u w1 ho1 hg; obtain ⟨A, c, rfl⟩ := ho1.slice)
  go_ret
  have hb : Bl w w1 := (Bl.refl w).grown hg (by simp [Value.ownBlock])
  refine ⟨w1.heap.size, .slice A l.length c, rfl, hb.alloc _, hb.size, Blk.new _ _ _, ?_, hl, ho, by omega⟩
  have h1 : byteE.Own 5 w1 w.heap.size (.slice A l.length c) l := by simpa using ho1
  refine (sub_old ((Bl.refl w1).alloc _) fun k hk => nbs_iff.2 fun hm => ?_).is h1.is
  have := List.mem_singleton.1 hm
  injection this with this
  omega
theorem rLeft_any (B : Nat) (v : Value) (l : List Int) (p : Nat) (w : World) (h : RdSt w B v l p) :
    Calls Tryz.prog 125 #[.pointer (some ⟨B, 0, none⟩)] w fun e w' => e = .returned (.int .i64 (8 * l.length - p : Nat)) ∧ Bl w w' := by
  have c0 := h.blk.cell 0
  have c1 := h.blk.cell 1
  simp at c0 c1
  have hl := h.len
  have hp := h.at_
  obtain ⟨A, c, rfl⟩ : ∃ A c, v = .slice A l.length c := by obtain ⟨A, c, e, _⟩ := h.is; exact ⟨A, c, e⟩
  have hw1 : IntKind.i64.wrap (8 * (l.length : Int)) = 8 * (l.length : Int) := IntWalk.i64_in _ (by omega)
  have hw2 : IntKind.i64.wrap (8 * (l.length : Int) - p) = ((8 * l.length - p : Nat) : Int) := by rw [IntWalk.i64_in _ (by omega)]; omega
  obtain ⟨r, hr⟩ : ∃ r, r = 8 * l.length - p := ⟨_, rfl⟩
  rw [← hr] at hw2 ⊢
  clear h hr
  go_enter Tryz.func125, Tryz.ntmps125
  go_wp2_with fail
  refine wp_region_ways (S := (fun w' => w'.cell? ⟨B, 0, none⟩ = some (.slice A l.length c) ∧ w'.cell? ⟨B, 1, none⟩ = some (.int .i64 p))) [0, 1, 2, 3, 4, 5, 6, 7, 8, 9, 10, 11] (y := .take 0 (.take 1 (.take 2 (.take 3 (.take 4 (.take 5 (.take 6 (.take 7 (.take 8 (.take 9 (.take 10 (.take 11 (.done))))))))))))) (by kernel_rfl) (by kernel_rfl) (by kernel_rfl) ?_ (fun hHeld => ?_)
  · exact ⟨c0, c1⟩
  clear hHeld
  repeat (first | (refine wpWay_take rfl (by rfl) (by intro w hSw; (try dsimp only at hSw); first | (go_simp; done) | (go_simp; with_reducible rfl)) ?_; try simp only [Act.put, List.setIfInBounds_toArray, List.set_cons_zero, List.set_cons_succ]) | (refine wpWay_skip rfl (by rfl) ?_; try simp only [Act.put, List.setIfInBounds_toArray, List.set_cons_zero, List.set_cons_succ]))
  refine wpWay_done ?_
  go_wp2_with fail
  go_ret
  exact ⟨rfl, (Bl.refl _).drew⟩
theorem rdigit_any (B : Nat) (v : Value) (l : List Int) (p on : Nat) (w : World) (h : RdSt w B v l p) (hon : p + on < 8 * l.length) :
    Calls Tryz.prog 126 #[.pointer (some ⟨B, 0, none⟩), .int .i64 on] w fun e w' => e = .returned (.int .i64 (bv (digitAt l (p + on)))) ∧ w' = w := by
  have c0 := h.blk.cell 0
  have c1 := h.blk.cell 1
  simp at c0 c1
  have hl := h.len
  have hlt : (p + on) / 8 < l.length := by omega
  obtain ⟨A, c, rfl⟩ : ∃ A c, v = .slice A l.length c := by obtain ⟨A, c, e, _⟩ := h.is; exact ⟨A, c, e⟩
  obtain ⟨ad, rfl, hcell0⟩ := byte_is_cells h.is ((p + on) / 8) hlt
  have hcell := (only_cell hcell0).2
  clear hcell0
  obtain ⟨x, hx⟩ : ∃ x, x = l[(p + on) / 8] := ⟨_, rfl⟩
  rw [← hx] at hcell
  have hxb : 0 ≤ x ∧ x < 256 := by rw [hx]; exact h.ok _ (List.getElem_mem hlt)
  obtain ⟨q, hq⟩ : ∃ q, q = p + on := ⟨_, rfl⟩
  rw [← hq] at hcell hlt
  have hq1 : (p : Int) + on = q := by omega
  have hw1 : IntKind.i64.wrap ((p : Int) + on) = (q : Int) := by rw [IntWalk.i64_in _ (by omega)]; omega
  have e1 : (q : Int).tdiv 8 = ((q / 8 : Nat) : Int) := by rw [Int.tdiv_eq_ediv_of_nonneg (by omega)]; omega
  have e2 : (q : Int).tmod 8 = ((q % 8 : Nat) : Int) := by rw [Int.tmod_eq_emod_of_nonneg (by omega)]; omega
  obtain ⟨k, hk⟩ : ∃ k, k = q / 8 := ⟨_, rfl⟩
  obtain ⟨r, hr⟩ : ∃ r, r = q % 8 := ⟨_, rfl⟩
  rw [← hk] at e1 hcell hlt
  rw [← hr] at e2
  have hr8 : r < 8 := by omega
  have hwk : IntKind.i64.wrap (k : Int) = k := IntWalk.i64_in _ (by omega)
  have hwr : IntKind.i64.wrap (7 - (r : Int)) = ((7 - r : Nat) : Int) := by rw [IntWalk.i64_in _ (by omega)]; omega
  have hg : digitAt l (p + on) = decide (x / 2 ^ (7 - r) % 2 = 1) := by
    unfold digitAt
    rw [← hq, ← hk, ← hr]
    have : l.getD k 0 = x := by rw [hx, List.getD_eq_getElem?_getD, List.getElem?_eq_getElem (by rw [hk, hq] at *; omega)]; simp [hk, hq]
    rw [this]
  rw [hg]
  clear hg hx hq hk hr
  obtain ⟨m, hm⟩ : ∃ m, m = 7 - r := ⟨_, rfl⟩
  rw [← hm] at hwr ⊢
  clear h
  go_enter Tryz.func126, Tryz.ntmps126
  go_wp2
  go_ret
  have hy : 0 ≤ x / 2 ^ (7 - r) := Int.ediv_nonneg hxb.1 (Int.pow_nonneg (by decide))
  have hy2 : x / 2 ^ (7 - r) ≤ x := Int.ediv_le_self _ hxb.1
  refine ⟨?_, rfl⟩
  show Ending.returned (.int .i64 (bits .and .i64 (x / 2 ^ (7 - r)) 1)) = _
  rw [and_one _ hy (by omega), hm]
  rcases (show x / 2 ^ (7 - r) % 2 = 0 ∨ x / 2 ^ (7 - r) % 2 = 1 by omega) with e | e <;> rw [e] <;> rfl
theorem leftB_take (l : List Int) (p j : Nat) (h : p + j < 8 * l.length) : (leftB l p).take (j + 1) = (leftB l p).take j ++ [digitAt l (p + j)] := by
  have hj : j < (leftB l p).length := by rw [leftB_len]; omega
  rw [List.take_succ_eq_append_getElem hj]
  have : (leftB l p)[j] = digitAt l (p + j) := by simp [leftB, unpackB]
  rw [this]
theorem valB_snoc (bs : List Bool) (b : Bool) : valB (bs ++ [b]) = valB bs * 2 + bv b := by
  unfold valB
  rw [List.foldl_append]
  simp only [List.foldl_cons, List.foldl_nil]
  omega
theorem or_digit (n b : Int) (hn : 0 ≤ n) (hn2 : n < 2305843009213693952) (hb : 0 ≤ b ∧ b < 2) : bits .or .i64 (n * 2) b = n * 2 + b := by
  have := bits_join .i64 62 (by decide) (fun n h0 h1 => IntWalk.i64_in _ (by omega)) 1 (n * 2) b (by omega) (by show n * 2 % 2 = 0; omega) (by omega) hb.1 (by show b < 2; exact hb.2) (by omega)
  exact this
def GetP (w w' : World) (B : Nat) (v : Value) (l : List Int) (p n : Nat) (e : Ending) : Prop := Kp (nbs [some B]) w w' ∧
  ((n ≤ 8 * l.length - p ∧ e = .returned (.tuple #[.int .i64 (valB ((leftB l p).take n)), .bool true]) ∧ RdSt w' B v l (p + n)) ∨
   (8 * l.length - p < n ∧ e = .returned (.tuple #[.int .i64 0, .bool false]) ∧ RdSt w' B v l p))
theorem RdSt.at' {w : World} {B : Nat} {v : Value} {l : List Int} {p q : Nat} (h : RdSt w B v l p) (hq : q ≤ 8 * l.length) : RdSt (w.setCell ⟨B, 1, none⟩ (.int .i64 q)) B v l q ∧ Kp (nbs [some B]) w (w.setCell ⟨B, 1, none⟩ (.int .i64 q)) := by
  have hk : Kp (nbs [some B]) w (w.setCell ⟨B, 1, none⟩ (.int .i64 q)) := Kp.of_gb (setCell_grown w B 1 (.int .i64 q)) fun k hk => nbs_not (by rw [← hk]; simp)
  exact ⟨⟨h.blk.set 1 (.int .i64 q), hk.sub.is h.is, h.len, h.ok, hq⟩, hk⟩
set_option maxHeartbeats 1000000 in
theorem rGet_any (B : Nat) (v : Value) (l : List Int) (p n : Nat) (w : World) (h : RdSt w B v l p) (hn : n ≤ 62) :
    Calls Tryz.prog 120 #[.pointer (some ⟨B, 0, none⟩), .int .i64 n] w fun e w' => GetP w w' B v l p n e := by
  have HR := Lib.hid h
  have hl := h.len
  have hp := h.at_
  have g1 : ¬ (n : Int) < 0 := by omega
  have g2 : ¬ (62 : Int) < n := by omega
  clear h
  go_enter Tryz.func120, Tryz.ntmps120
  go_wp2_with fail
  refine (rLeft_any B v l p _ HR.out).mono ?_
  rintro e w1 ⟨rfl, hb1⟩
  have HB1 := Lib.hid hb1
  replace HR := Lib.hid (HR.out.bl hb1)
  clear hb1
  obtain ⟨Lf, hLf⟩ : ∃ Lf : Int, Lf = ((8 * l.length - p : Nat) : Int) := ⟨_, rfl⟩
  rw [← hLf]
  have HLf := Lib.hid hLf
  by_cases hlt : n ≤ 8 * l.length - p
  · have g3 : ¬ (Lf < n) := by omega
    clear hLf
    go_wp2_with fail
    go_loopg [6, 21] n (fun gk x i wr => ∃ (j : Nat), j ≤ n ∧ gk = n - j ∧ x = .int .i64 (valB ((leftB l p).take j)) ∧ i = .int .i64 j ∧ wr = w1)
    case atStart => exact ⟨0, by omega, rfl, rfl, rfl, rfl⟩
    case round =>
      obtain ⟨j, hj, hgj, rfl, rfl, rfl⟩ := hrel
      by_cases hjn : j < n
      · have hji : (j : Int) < n := by omega
        have hv := valB_lt ((leftB l p).take j)
        have hv2 : valB ((leftB l p).take j) < 2305843009213693952 := by
          have : 2 ^ ((leftB l p).take j).length ≤ 2 ^ 61 := Nat.pow_le_pow_right (by decide) (by rw [List.length_take]; omega)
          omega
        have HVS := Lib.hid (show valB ((leftB l p).take (j + 1)) = valB ((leftB l p).take j) * 2 + bv (digitAt l (p + j)) by rw [leftB_take l p j (by omega), valB_snoc])
        generalize valB ((leftB l p).take j) = y at *
        have hw2 : IntKind.i64.wrap ((y : Int) * 2) = (y : Int) * 2 := IntWalk.i64_in _ (by omega)
        go_wp2_with fail
        refine (rdigit_any B v l p j _ HR.out (by omega)).mono ?_
        rintro e w2 ⟨rfl, rfl⟩
        have hb2 : 0 ≤ ((bv (digitAt l (p + j)) : Nat) : Int) ∧ ((bv (digitAt l (p + j)) : Nat) : Int) < 2 := by cases digitAt l (p + j) <;> decide
        have hor := or_digit y (bv (digitAt l (p + j))) (by omega) (by omega) hb2
        generalize bv (digitAt l (p + j)) = d at *
        go_wp2
        go_roundg (n - (j + 1))
        case measure => omega
        case rel => exact ⟨j + 1, by omega, rfl, by rw [HVS.out]; congr 1, by go_num, rfl⟩
      · obtain rfl : j = n := by omega
        have f1 := HR.out.blk.frozen 1
        have c1 := HR.out.blk.cell 1
        simp at c1
        have hw3 : IntKind.i64.wrap ((p : Int) + j) = ((p + j : Nat) : Int) := by rw [IntWalk.i64_in _ (by omega)]; omega
        go_wp2
        go_ret2
        have hq := HR.out.at' (q := p + j) (by omega)
        exact ⟨(Kp.of_bl HB1.out).trans hq.2, .inl ⟨hlt, rfl, hq.1⟩⟩
  · have g3 : Lf < n := by omega
    clear hLf
    go_wp2
    go_ret2
    exact ⟨Kp.of_bl HB1.out, .inr ⟨by omega, rfl, HR.out⟩⟩
theorem leftB_cons (l : List Int) (p : Nat) (h : p < 8 * l.length) : leftB l p = digitAt l p :: leftB l (p + 1) := by
  have hp : p < (unpackB l).length := by rw [unpackB_len]; exact h
  unfold leftB
  rw [List.drop_eq_getElem_cons hp]
  congr 1
  simp [unpackB]
theorem leftB_nil (l : List Int) (p : Nat) (h : 8 * l.length ≤ p) : leftB l p = [] := by unfold leftB; exact List.drop_of_length_le (by rw [unpackB_len]; exact h)
def OnesP (w w' : World) (B : Nat) (v : Value) (l : List Int) (p n : Nat) (e : Ending) : Prop := Kp (nbs [some B]) w w' ∧
  match onesM (leftB l p) n with
  | some q => e = .returned (.tuple #[.int .i64 q.1, .bool true]) ∧ q.1 ≤ n ∧ ∃ p', RdSt w' B v l p' ∧ leftB l p' = q.2
  | none => e = .returned (.tuple #[.int .i64 0, .bool false]) ∧ RdSt w' B v l p
set_option maxHeartbeats 1000000 in
theorem rOnes_any (B : Nat) (v : Value) (l : List Int) (p n : Nat) (w : World) (h : RdSt w B v l p) (hn : n ≤ 1024) :
    Calls Tryz.prog 171 #[.pointer (some ⟨B, 0, none⟩), .int .i64 n] w fun e w' => OnesP w w' B v l p n e := by
  have HR := Lib.hid h
  have hl := h.len
  have hp := h.at_
  have g1 : ¬ (n : Int) < 0 := by omega
  have g2 : ¬ (1024 : Int) < n := by omega
  clear h
  go_enter Tryz.func171, Tryz.ntmps171
  go_wp2_with fail
  refine (rLeft_any B v l p _ HR.out).mono ?_
  rintro e w1 ⟨rfl, hb1⟩
  have HB1 := Lib.hid hb1
  replace HR := Lib.hid (HR.out.bl hb1)
  clear hb1
  obtain ⟨Lf, hLf⟩ : ∃ Lf : Int, Lf = ((8 * l.length - p : Nat) : Int) := ⟨_, rfl⟩
  rw [← hLf]
  have HLf := Lib.hid hLf
  clear hLf
  go_wp2_with fail
  go_loopg [17] n (fun gk i wr => ∃ (j : Nat), j ≤ n ∧ gk = n - j ∧ i = .int .i64 j ∧ wr = w1 ∧ p + j ≤ 8 * l.length ∧ Hid (onesM (leftB l p) n = (onesM (leftB l (p + j)) (n - j)).map fun q => (q.1 + j, q.2)))
  case atStart => exact ⟨0, by omega, rfl, rfl, rfl, by omega, Lib.hid (by simp)⟩
  case round =>
    obtain ⟨j, hj, hgj, rfl, rfl, hpj, HE⟩ := hrel
    have hLf := HLf.out
    by_cases hjn : j < n
    · have hji : (j : Int) < n := by omega
      by_cases hjl : p + j < 8 * l.length
      · have g3 : ¬ (Lf ≤ (j : Int)) := by omega
        clear hLf
        go_wp2_with fail
        refine (rdigit_any B v l p j _ HR.out hjl).mono ?_
        rintro e w2 ⟨rfl, rfl⟩
        have HC := Lib.hid (leftB_cons l (p + j) hjl)
        cases hd : digitAt l (p + j)
        · have f1 := HR.out.blk.frozen 1
          have c1 := HR.out.blk.cell 1
          simp at c1
          have hw3 : IntKind.i64.wrap ((p : Int) + j) = (p : Int) + j := IntWalk.i64_in _ (by omega)
          have hw4 : IntKind.i64.wrap ((p : Int) + j + 1) = ((p + j + 1 : Nat) : Int) := by rw [IntWalk.i64_in _ (by omega)]; omega
          go_wp2
          go_ret2
          have hq := HR.out.at' (q := p + j + 1) (by omega)
          have e : onesM (leftB l p) n = some (j, leftB l (p + j + 1)) := by
            rw [HE.out, HC.out, hd, show n - j = (n - j - 1) + 1 by omega]
            simp [onesM]
          refine ⟨(Kp.of_bl HB1.out).trans hq.2, ?_⟩
          rw [e]
          exact ⟨rfl, by omega, _, hq.1, rfl⟩
        · go_wp2
          go_roundg (n - (j + 1))
          case measure => omega
          case rel =>
            refine ⟨j + 1, by omega, rfl, by go_num, rfl, by omega, Lib.hid ?_⟩
            rw [HE.out, HC.out, hd, show n - j = (n - (j + 1)) + 1 by omega]
            simp only [onesM, if_true, Option.map_map, Nat.add_assoc]
            congr 1
            funext q
            simp only [Function.comp]
            congr 1
            omega
      · have g3 : Lf ≤ (j : Int) := by omega
        clear hLf
        go_wp2
        go_ret2
        have e : onesM (leftB l p) n = none := by
          rw [HE.out, leftB_nil l (p + j) (by omega), show n - j = (n - j - 1) + 1 by omega]
          rfl
        refine ⟨Kp.of_bl HB1.out, ?_⟩
        rw [e]
        exact ⟨rfl, HR.out⟩
    · obtain rfl : j = n := by omega
      have f1 := HR.out.blk.frozen 1
      have c1 := HR.out.blk.cell 1
      simp at c1
      have hw3 : IntKind.i64.wrap ((p : Int) + j) = ((p + j : Nat) : Int) := by rw [IntWalk.i64_in _ (by omega)]; omega
      clear hLf
      go_wp2
      go_ret2
      have hq := HR.out.at' (q := p + j) (by omega)
      have e : onesM (leftB l p) j = some (j, leftB l (p + j)) := by
        rw [HE.out, Nat.sub_self]
        cases leftB l (p + j) <;> simp [onesM]
      refine ⟨(Kp.of_bl HB1.out).trans hq.2, ?_⟩
      rw [e]
      exact ⟨rfl, Nat.le_refl _, _, hq.1, rfl⟩
theorem rRest_any (B : Nat) (v : Value) (l : List Int) (p : Nat) (w : World) (h : RdSt w B v l p) :
    Calls Tryz.prog 105 #[.pointer (some ⟨B, 0, none⟩)] w fun e w' => e = .returned (.bool (restO (leftB l p))) ∧ Bl w w' := by
  have HR := Lib.hid h
  have hl := h.len
  have hp := h.at_
  clear h
  obtain ⟨r, hr⟩ : ∃ r, r = restO (leftB l p) := ⟨_, rfl⟩
  rw [← hr]
  have HRs := Lib.hid hr
  clear hr
  go_enter Tryz.func105, Tryz.ntmps105
  go_wp2_with fail
  refine (rLeft_any B v l p _ HR.out).mono ?_
  rintro e w1 ⟨rfl, hb1⟩
  have HB1 := Lib.hid hb1
  replace HR := Lib.hid (HR.out.bl hb1)
  clear hb1
  obtain ⟨n, hn⟩ : ∃ n, n = 8 * l.length - p := ⟨_, rfl⟩
  rw [← hn]
  have HN := Lib.hid hn
  clear hn
  go_wp2_with fail
  go_loopg [6] n (fun gk i wr => ∃ (j : Nat), j ≤ n ∧ gk = n - j ∧ i = .int .i64 j ∧ wr = w1 ∧ Hid (r = restO (leftB l (p + j))))
  case atStart => exact ⟨0, by omega, rfl, rfl, rfl, Lib.hid HRs.out⟩
  case round =>
    obtain ⟨j, hj, hgj, rfl, rfl, HE⟩ := hrel
    have hn := HN.out
    by_cases hjn : j < n
    · have hji : (j : Int) < n := by omega
      have hjl : p + j < 8 * l.length := by omega
      clear hn
      go_wp2_with fail
      refine (rdigit_any B v l p j _ HR.out hjl).mono ?_
      rintro e w2 ⟨rfl, rfl⟩
      have HC := Lib.hid (leftB_cons l (p + j) hjl)
      cases hd : digitAt l (p + j)
      · go_wp2
        go_roundg (n - (j + 1))
        case measure => omega
        case rel => exact ⟨j + 1, by omega, rfl, by go_num, rfl, Lib.hid (by rw [HE.out, HC.out, hd]; rfl)⟩
      · go_wp2
        go_ret
        exact ⟨by rw [HE.out, HC.out, hd]; rfl, HB1.out⟩
    · obtain rfl : j = n := by omega
      have hnil := leftB_nil l (p + j) (by omega)
      clear hn
      go_wp2
      go_ret
      exact ⟨by rw [HE.out, hnil]; rfl, HB1.out⟩
end Go.Proofs.YtoocebghlchcoaaGreat.ExtW

/- A row of bytes made of a constant string; regions walked state by state. No program in sight. -/
namespace Go.Ov
open Go.RowKit

theorem way_start {P : Program} {ops : Array Oper} {Q : Exit → Act → World → Prop} {S : World → Prop} {y : Plan} {a : Act} {w : World} (h : ∀ W, W = wpWay P ops Q S → W y a w) : wpWay P ops Q S y a w := h _ rfl
theorem freeze_cell (w : World) (a ad : Addr) (n : Nat) : (w.freeze a n).cell? ad = w.cell? ad := by
  by_cases hn : n = 0
  · subst hn; rfl
  · have hh : (w.freeze a n).heap[ad.block]? = (if a.block = ad.block then (w.heap[ad.block]?).map (fun x => match x with
      | .cells c elem (lo, hi) => .cells c elem (if lo == hi then (a.off, a.off + n) else (min lo a.off, max hi (a.off + n)))
      | o => o) else w.heap[ad.block]?) := by
      unfold World.freeze
      rw [if_neg hn]
      simp only [Array.getElem?_modify]
      rfl
    unfold World.cell?
    rw [hh]
    by_cases e : a.block = ad.block
    · rw [if_pos e]
      cases w.heap[ad.block]? with
      | none => rfl
      | some o => cases o <;> rfl
    · rw [if_neg e]
theorem freeze_grown (w : World) (a : Addr) (n : Nat) : w.grownBy (w.freeze a n) (some a.block) := by
  unfold World.freeze
  split
  · exact World.grownBy.refl _ _
  · refine ⟨rfl, rfl, rfl, by simp, fun k _ hk => ?_⟩
    simp only [Array.getElem?_modify]
    rw [if_neg (fun e => hk (by rw [e]))]
theorem freeze_row {w : World} {N : Nat} {C : Array Value} {e : TypeId} {fr : Nat × Nat} (h : w.heap[N]? = some (.cells C e fr)) (k n : Nat) : ∃ fr', (w.freeze ⟨N, k, none⟩ n).heap[N]? = some (.cells C e fr') := by
  unfold World.freeze
  split
  · exact ⟨fr, h⟩
  · simp only [Array.getElem?_modify, if_true, h]
    exact ⟨_, rfl⟩
theorem run_markRow {P : Program} {w : World} {N : Nat} {C : Array Value} {e : TypeId} {fr : Nat × Nat} (t el : TypeId) (ht : P.underlying t = some (.slice el)) (he : P.underlying el = some (.int .u8)) (h : w.heap[N]? = some (.cells C e fr)) (n c : Nat) :
    (convert t t (.slice (some ⟨N, 0, none⟩) n c)).run P w = .ok (.slice (some ⟨N, 0, none⟩) n c) (w.freeze ⟨N, C.size, none⟩ 1) := by
  have hsh : w.shape? N = some (e, C.size) := by unfold World.shape?; rw [h]
  simp [convert, run_underlying ht, run_underlying he, markStringish, hsh]

/-- all blocks, or all but one -/
def mkN (a N : Nat) : Nat → Bool := fun b => decide (a = 0) || decide (b ≠ N)
def wordC : Array Value := #[.int .u8 111, .int .u8 118, .int .u8 101, .int .u8 114, .int .u8 100, .int .u8 117, .int .u8 98, .int .u8 49]
/-- what stands while a superblock's fields are made, in whatever order -/
structure SI (T : TypeId) (a b : Nat) (w0 w : World) (N : Nat) (v : Nat → Int) (x5 x6 : Value) (y : Nat → Value) : Prop where
  bl : Bl w0 w
  lit : 1 ≤ a → x5 = .slice (some ⟨N, 0, none⟩) 8 8 ∧ w0.heap.size ≤ N ∧ N < w.heap.size ∧ ∃ fr, w.heap[N]? = some (.cells wordC T fr)
  cv : 2 ≤ a → x6 = x5
  h : ∀ i, i < b → ∃ A c, y i = .slice A (putF (v i) 4).length c ∧ byteE.Is (only w (mkN a N)) (y i) (putF (v i) 4)
theorem SI.stepA0 {T : TypeId} {b : Nat} {w0 w : World} {N : Nat} {v : Nat → Int} {x5 x6 : Value} {y : Nat → Value} (h : SI T 0 b w0 w N v x5 x6 y) :
    SI T 1 b w0 (w.alloc (.cells wordC T)) w.heap.size v (.slice (some ⟨w.heap.size, 0, none⟩) 8 8) x6 y :=
  ⟨h.bl.alloc _, fun _ => ⟨rfl, h.bl.size, by simp, ⟨_, heap_alloc_new w _⟩⟩, fun q => by omega, fun i hi => by
    obtain ⟨A, c, e, hI⟩ := h.h i hi
    refine ⟨A, c, e, Sub.is (fun ad u q => ?_) hI⟩
    obtain ⟨_, h2⟩ := only_cell q
    have := World.block_lt_of_cell? w ad h2
    exact cell_only (by simp [mkN]; omega) (((Bl.refl w).alloc _).cell h2)⟩
theorem SI.stepA1 {T : TypeId} {b : Nat} {w0 w : World} {N : Nat} {v : Nat → Int} {x5 x6 : Value} {y : Nat → Value} (h : SI T 1 b w0 w N v x5 x6 y) :
    SI T 2 b w0 (w.freeze ⟨N, wordC.size, none⟩ 1) N v x5 x5 y := by
  obtain ⟨h1, h2, h3, fr, h4⟩ := h.lit (Nat.le_refl _)
  refine ⟨h.bl.grown (freeze_grown _ _ _) (fun k hk => by injection hk with hk; subst hk; exact h2), fun _ => ⟨h1, h2, Nat.lt_of_lt_of_le h3 (freeze_grown _ _ _).size, freeze_row h4 _ _⟩, fun _ => rfl, fun i hi => ?_⟩
  obtain ⟨A, c, e, hI⟩ := h.h i hi
  refine ⟨A, c, e, Sub.is (fun ad u q => ?_) hI⟩
  obtain ⟨q1, q2⟩ := only_cell q
  refine cell_only ?_ (by rw [freeze_cell]; exact q2)
  simp [mkN] at q1 ⊢
  exact q1
theorem SI.stepB {T : TypeId} {a b : Nat} {w0 w w' : World} {N : Nat} {v : Nat → Int} {x5 x6 u : Value} {y : Nat → Value} {Tb : TypeId} (h : SI T a b w0 w N v x5 x6 y) (hb : Bl w w') (ho : byteE.Own Tb w' w.heap.size u (putF (v b) 4)) :
    SI T a (b + 1) w0 w' N v x5 x6 (fun i => if i = b then u else y i) := by
  refine ⟨h.bl.bl hb, fun q => ?_, h.cv, fun i hi => ?_⟩
  · obtain ⟨h1, h2, h3, fr, h4⟩ := h.lit q
    exact ⟨h1, h2, Nat.lt_of_lt_of_le h3 hb.size, fr, (hb.block _ h3).trans h4⟩
  · by_cases e : i = b
    · subst e
      obtain ⟨A, c, e⟩ := ho.slice
      refine ⟨A, c, by rw [if_pos rfl]; exact e, ?_⟩
      rw [if_pos rfl]
      exact ho.isM fun k hk => by
        by_cases q : a = 0
        · simp [mkN, q]
        · have := (h.lit (by omega)).2.2.1
          simp [mkN]; omega
    · rw [if_neg e]
      obtain ⟨A, c, e, hI⟩ := h.h i (by omega)
      exact ⟨A, c, e, (Sub.bl (hb.only _)).is hI⟩
theorem results_cell3 {P : Program} {fn : Func} {p q r : Tmp} {ty : TypeId} (h : fn.results = #[.cell p ty, .tmp q, .tmp r]) (tmps : Array Value) {w : World} {g : Nat} {t : TypeId} {cs : Array Value} {d : TypeDesc}
    (hp : tmps.getD p undef = .pointer (some ⟨g, 0, none⟩)) (hg : Blk w g cs t)
    (hu : P.underlying ty = some d) (hd : (match d with | .struct _ | .array _ _ => true | _ => false) = true) (hi : (P.info? ty).map (·.size) = some cs.size) :
    (results fn tmps).run P w = .ok (.tuple #[.agg cs, tmps.getD q undef, tmps.getD r undef]) w := by
  have hp' : tmps[p]?.getD undef = .pointer (some ⟨g, 0, none⟩) := by simpa using hp
  simp [results, h, hp', asAddr, run_loadVar_row w g t ty cs (0, 0) d hg hu hd hi]
theorem results_cell4 {P : Program} {fn : Func} {p q r s : Tmp} {ty : TypeId} (h : fn.results = #[.cell p ty, .tmp q, .tmp r, .tmp s]) (tmps : Array Value) {w : World} {g : Nat} {t : TypeId} {cs : Array Value} {d : TypeDesc}
    (hp : tmps.getD p undef = .pointer (some ⟨g, 0, none⟩)) (hg : Blk w g cs t)
    (hu : P.underlying ty = some d) (hd : (match d with | .struct _ | .array _ _ => true | _ => false) = true) (hi : (P.info? ty).map (·.size) = some cs.size) :
    (results fn tmps).run P w = .ok (.tuple #[.agg cs, tmps.getD q undef, tmps.getD r undef, tmps.getD s undef]) w := by
  have hp' : tmps[p]?.getD undef = .pointer (some ⟨g, 0, none⟩) := by simpa using hp
  simp [results, h, hp', asAddr, run_loadVar_row w g t ty cs (0, 0) d hg hu hd hi]
theorem yields_build {P : Program} {ops : Array Oper} {S : World → Prop} {op : Oper} {a : Act} (hw : Region.wanted op (yielded ops a.tmps) = true) (t : TypeId) (parts : Array (Nat × Operand)) (ho : op.op = .build t parts)
    (cells : Array Value) (hf : P.built t (parts.map fun (i, x) => (i, a.eval x)).toList = some cells) : YieldsIf P ops S op (.agg cells) a :=
  .inl ⟨hw, fun w _ => by
    unfold execOp
    simp only [ho, Sem.run_bind, run_build w t _ cells hf, Result.andThen_ok]
    rfl⟩
end Go.Ov

/- Contracts of bits.Reader: Back, To. -/
namespace Go.Proofs.YtoocebghlchcoaaGreat.ExtW
open Go.RowKit Go.Ov Go.Proofs.YtoocebghlchcoaaGreat.Need
set_option maxHeartbeats 1000000 in
theorem rBack_any (B : Nat) (v : Value) (l : List Int) (p : Nat) (w : World) (h : RdSt w B v l p) :
    Calls Tryz.prog 170 #[.pointer (some ⟨B, 0, none⟩)] w fun e w' => ∃ B2, e = .returned (.pointer (some ⟨B2, 0, none⟩)) ∧ Bl w w' ∧ w.heap.size ≤ B2 ∧ RdSt w' B2 v l p := by
  have HR := Lib.hid h
  have c0 := h.blk.cell 0
  have c1 := h.blk.cell 1
  simp at c0 c1
  obtain ⟨A, c, rfl⟩ : ∃ A c, v = .slice A l.length c := by obtain ⟨A, c, e, _⟩ := h.is; exact ⟨A, c, e⟩
  clear h
  go_enter Tryz.func170, Tryz.ntmps170
  go_wp2_with fail
  refine wp_region_ways (S := (fun w' => w'.cell? ⟨B, 0, none⟩ = some (.slice A l.length c) ∧ w'.cell? ⟨B, 1, none⟩ = some (.int .i64 p))) [0, 1, 2, 3, 4, 5, 6, 7, 8, 10] (y := .take 0 (.take 1 (.take 2 (.take 3 (.take 4 (.take 5 (.take 6 (.take 7 (.take 8 (.ev 9 (.take 10 (.done)) (.stop))))))))))) (by kernel_rfl) (by kernel_rfl) (by kernel_rfl) ?_ (fun hHeld => ?_)
  · exact ⟨c0, c1⟩
  clear hHeld
  repeat (first | (refine wpWay_take rfl (by rfl) (by intro w hSw; (try dsimp only at hSw); first | (go_simp; done) | (go_simp; with_reducible rfl)) ?_; try simp only [Act.put, List.setIfInBounds_toArray, List.set_cons_zero, List.set_cons_succ]) | (refine wpWay_skip rfl (by rfl) ?_; try simp only [Act.put, List.setIfInBounds_toArray, List.set_cons_zero, List.set_cons_succ]))
  replace HR := Lib.hid (HR.out.bl (Bl.refl _).drew)
  have HB := Lib.hid (Bl.refl w).drew
  generalize w.drew = wd at *
  refine wpWay_ev rfl (fun K hK => ?_) wpWay_stop
  go_wp2_with fail
  have hb := (Bl.refl wd).alloc (.cells #[.slice A l.length c, .int .i64 p] 223)
  refine ⟨⟨(HR.out.bl hb).blk.cell 0, (HR.out.bl hb).blk.cell 1⟩, ?_⟩
  repeat (first | (refine wpWay_take rfl (by rfl) (by intro w hSw; (try dsimp only at hSw); first | (go_simp; done) | (go_simp; with_reducible rfl)) ?_; try simp only [Act.put, List.setIfInBounds_toArray, List.set_cons_zero, List.set_cons_succ]) | (refine wpWay_skip rfl (by rfl) ?_; try simp only [Act.put, List.setIfInBounds_toArray, List.set_cons_zero, List.set_cons_succ]))
  refine wpWay_done ?_
  go_wp2_with fail
  go_ret
  refine ⟨_, rfl, HB.out.trans hb, HB.out.size, Blk.new _ _ _, ?_, HR.out.len, HR.out.ok, HR.out.at_⟩
  refine (Sub.trans (Sub.un wd _) (sub_old hb fun k hk => nbs_iff.2 fun hm => ?_)).is HR.out.is
  have := List.mem_singleton.1 hm
  injection this with this
  omega
set_option maxHeartbeats 1000000 in
theorem rTo_any (B B2 : Nat) (v : Value) (l : List Int) (p p2 : Nat) (w : World) (h : RdSt w B v l p) (h2 : RdSt w B2 v l p2) (hne : B ≠ B2) :
    Calls Tryz.prog 172 #[.pointer (some ⟨B, 0, none⟩), .pointer (some ⟨B2, 0, none⟩)] w fun e w' => e = .returned (.tuple #[]) ∧ Kp (nbs [some B]) w w' ∧ RdSt w' B v l p2 := by
  have HR := Lib.hid h
  have H2 := Lib.hid h2
  have H0 := Lib.hid h
  have c0 := h2.blk.cell 0
  have c1 := h2.blk.cell 1
  have f0 := h.blk.frozen 0
  have f1 := h.blk.frozen 1
  have d0 := h.blk.cell 0
  have d1 := h.blk.cell 1
  simp at c0 c1 d0 d1
  obtain ⟨A, c, rfl⟩ : ∃ A c, v = .slice A l.length c := by obtain ⟨A, c, e, _⟩ := h2.is; exact ⟨A, c, e⟩
  clear h h2
  go_enter Tryz.func172, Tryz.ntmps172
  go_wp2_with fail
  refine wp_region_ways (S := (fun w' => w'.cell? ⟨B2, 0, none⟩ = some (.slice A l.length c) ∧ w'.cell? ⟨B2, 1, none⟩ = some (.int .i64 p2))) [0, 1, 2, 3, 4, 5, 6, 7, 8, 9, 10, 11, 13, 14] (y := .take 0 (.take 1 (.take 2 (.take 3 (.take 4 (.take 5 (.take 6 (.take 7 (.take 8 (.take 9 (.take 10 (.take 11 (.ev 12 (.take 13 (.take 14 (.ev 15 (.done) (.stop)))) (.stop)))))))))))))) (by kernel_rfl) (by kernel_rfl) (by kernel_rfl) ?_ (fun hHeld => ?_)
  · exact ⟨c0, c1⟩
  clear hHeld
  repeat (first | (refine wpWay_take rfl (by rfl) (by intro w hSw; (try dsimp only at hSw); first | (go_simp; done) | (go_simp; with_reducible rfl)) ?_; try simp only [Act.put, List.setIfInBounds_toArray, List.set_cons_zero, List.set_cons_succ]) | (refine wpWay_skip rfl (by rfl) ?_; try simp only [Act.put, List.setIfInBounds_toArray, List.set_cons_zero, List.set_cons_succ]))
  replace HR := Lib.hid (HR.out.bl (Bl.refl _).drew)
  replace H2 := Lib.hid (H2.out.bl (Bl.refl _).drew)
  have HK := Lib.hid (Kp.of_bl (G := nbs [some B]) (Bl.refl w).drew)
  clear f0 f1 c0 c1 d0 d1
  generalize w.drew = wd at *
  have f0 := HR.out.blk.frozen 0
  have d0 := HR.out.blk.cell 0
  simp at d0
  refine wpWay_ev rfl (fun K hK => ?_) wpWay_stop
  go_wp2_with fail
  have HB1 := Lib.hid (HR.out.blk.set 0 (.slice A l.length c))
  have HC1 := Lib.hid (H2.out.blk.set_else B 0 (.slice A l.length c) hne)
  have HK1 := Lib.hid (HK.out.trans (Kp.of_gb (setCell_grown wd B 0 (.slice A l.length c)) fun k hk => nbs_not (by rw [← hk]; simp)))
  clear f0 d0
  generalize wd.setCell ⟨B, 0, none⟩ (.slice A l.length c) = we at *
  refine ⟨⟨HC1.out.cell 0, HC1.out.cell 1⟩, ?_⟩
  have f1 := HB1.out.frozen 1
  have d1 := HB1.out.cell 1
  simp at d1
  repeat (first | (refine wpWay_take rfl (by rfl) (by intro w hSw; (try dsimp only at hSw); first | (go_simp; done) | (go_simp; with_reducible rfl)) ?_; try simp only [Act.put, List.setIfInBounds_toArray, List.set_cons_zero, List.set_cons_succ]) | (refine wpWay_skip rfl (by rfl) ?_; try simp only [Act.put, List.setIfInBounds_toArray, List.set_cons_zero, List.set_cons_succ]))
  refine wpWay_ev rfl (fun K hK => ?_) wpWay_stop
  go_wp2_with fail
  have HB2 := Lib.hid (HB1.out.set 1 (.int .i64 p2))
  have HC2 := Lib.hid (HC1.out.set_else B 1 (.int .i64 p2) hne)
  have HK2 := Lib.hid (HK1.out.trans (Kp.of_gb (setCell_grown we B 1 (.int .i64 p2)) fun k hk => nbs_not (by rw [← hk]; simp)))
  refine ⟨⟨HC2.out.cell 0, HC2.out.cell 1⟩, ?_⟩
  refine wpWay_done ?_
  go_wp2_with fail
  first | go_end0 | (simp only [Exit.inBlock, Exit.then]; refine bodyPost_ret (results_none rfl _ _ _) rfl ?_) | refine bodyPost_ret (results_none rfl _ _ _) rfl ?_
  exact ⟨rfl, HK2.out, HB2.out, HK2.out.sub.is H0.out.is, H0.out.len, H0.out.ok, H2.out.at_⟩
end Go.Proofs.YtoocebghlchcoaaGreat.ExtW
