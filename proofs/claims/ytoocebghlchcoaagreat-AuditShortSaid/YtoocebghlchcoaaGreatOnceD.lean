/- Contracts of sync.Once.Do at a checksum's table; crc.Add, Sum. One goroutine. -/
import Derived.Test.YtoocebghlchcoaaGreatOnceW
namespace Go.Proofs.YtoocebghlchcoaaGreat.ExtW
open Go.RowKit Go.Ov Go.Proofs.YtoocebghlchcoaaGreat.Need

set_option maxRecDepth 100000 in
set_option maxHeartbeats 1600000 in
theorem oslow_any (B : Nat) (w : World) (h : Blk w B (tabC 0 0 false fun _ => 0) 201) :
    Calls Tryz.prog 189 #[.pointer (some ⟨B, 0, none⟩), .func (.func 167) #[.pointer (some ⟨B, 0, none⟩)] #[]] w fun e w' => e = .returned (.tuple #[]) ∧ Blk w' B (tabC 1 0 true tabF) 201 ∧ w.grownBy w' (some B) := by
  have HB := Lib.hid h
  have h0 : w.cell? ⟨B, 0, none⟩ = some (.int .u32 0) := h.cell 0
  have h1 : w.cell? ⟨B, 1, none⟩ = some (.int .i32 0) := h.cell 1
  have f0 := h.frozen 0
  have f1 := h.frozen 1
  have HK1 := Lib.hid (show Blk (w.setCell ⟨B, 1, none⟩ (.int .i32 1)) B (tabC 0 1 false fun _ => 0) 201 by have := h.set 1 (.int .i32 1); rwa [tab_s] at this)
  have hl := run_call_load (P := Tryz.prog) Tryz.func195 (by kernel_rfl) (by kernel_rfl) (by kernel_rfl) .u32 (by kernel_rfl) (w := w.setCell ⟨B, 1, none⟩ (.int .i32 1)) (a := ⟨B, 0, none⟩) (x := 0) (HK1.out.cell 0)
  have hnot : ∀ (x : Bool) (w : World), (Op.unary .not (.bool x)).run Tryz.prog w = .ok (.bool (!x)) w := fun _ _ => rfl
  clear h
  go_enter_defers Tryz.func189, Tryz.ntmps189
  go_wp2_with fail
  refine (olock ⟨B, 1, none⟩ _ h1 f1).mono ?_
  rintro e w' ⟨rfl, rfl⟩
  go_wp2_with (first | (go_at_call 167; refine (cfill_any B 0 1 _ HK1.out).mono ?_; rintro e w2 ⟨rfl, hk2, hg2⟩) | (go_at_call 188; go_in))
  have g0 : w2.cell? ⟨B, 0, none⟩ = some (.int .u32 0) := hk2.cell 0
  have k0 := hk2.frozen 0
  refine leaves_cons (f := 198) (args := #[.pointer (some ⟨B, 0, none⟩), .bool true]) (by simp) (by simp [go_sem]) ?_
  refine (ostore_def ⟨B, 0, none⟩ _ .returning _ g0 k0).mono ?_
  rintro e u' w3 ⟨rfl, rfl, rfl⟩
  have hk3 : Blk (w2.drew.setCell ⟨B, 0, none⟩ (.int .u32 1)) B (tabC 1 1 true tabF) 201 := by
    have := (hk2.bl (Bl.refl _).drew).set 0 (.int .u32 1); rwa [tab_d] at this
  have g1 : (w2.drew.setCell ⟨B, 0, none⟩ (.int .u32 1)).cell? ⟨B, 1, none⟩ = some (.int .i32 1) := hk3.cell 1
  have k1 := hk3.frozen 1
  refine leaves_cons (f := 197) (args := #[.pointer (some ⟨B, 1, none⟩)]) (by simp [settle]) (by simp [go_sem]) ?_
  refine (ounlock_def ⟨B, 1, none⟩ _ _ g1 k1).mono ?_
  rintro e u' w4 ⟨rfl, rfl, rfl⟩
  have hk4 := hk3.set 1 (.int .i32 0)
  rw [tab_s] at hk4
  have hg4 : w.grownBy ((w2.drew.setCell ⟨B, 0, none⟩ (.int .u32 1)).setCell ⟨B, 1, none⟩ (.int .i32 0)) (some B) :=
    ((gb_drew ((setCell_grown w B 1 (.int .i32 1)).trans hg2)).trans (setCell_grown _ _ _ _)).trans (setCell_grown _ _ _ _)
  simp only [Leaves, settle, results, Tryz.results189]
  simpa using ⟨hk4, hg4⟩

/-- a table, made or not -/
def TabSt (w : World) (B : Nat) : Prop := Blk w B (tabC 0 0 false fun _ => 0) 201 ∨ Blk w B (tabC 1 0 true tabF) 201
set_option maxRecDepth 100000 in
set_option maxHeartbeats 1600000 in
theorem once_any (B : Nat) (w : World) (h : TabSt w B) :
    Calls Tryz.prog 166 #[.pointer (some ⟨B, 0, none⟩), .func (.func 167) #[.pointer (some ⟨B, 0, none⟩)] #[]] w fun e w' => e = .returned (.tuple #[]) ∧ Blk w' B (tabC 1 0 true tabF) 201 ∧ w.grownBy w' (some B) := by
  have hnot : ∀ (x : Bool) (w : World), (Op.unary .not (.bool x)).run Tryz.prog w = .ok (.bool (!x)) w := fun _ _ => rfl
  rcases h with h | h
  · have hl := run_call_load (P := Tryz.prog) Tryz.func195 (by kernel_rfl) (by kernel_rfl) (by kernel_rfl) .u32 (by kernel_rfl) (w := w) (a := ⟨B, 0, none⟩) (x := 0) (h.cell 0)
    have HB := Lib.hid h
    clear h
    go_enter Tryz.func166, Tryz.ntmps166
    go_wp2_with (first | (go_at_call 189; refine (oslow_any B _ HB.out).mono ?_; rintro e w2 ⟨rfl, hk2, hg2⟩) | (go_at_call 188; go_in))
    go_end0
    exact ⟨rfl, hk2, hg2⟩
  · have hl := run_call_load (P := Tryz.prog) Tryz.func195 (by kernel_rfl) (by kernel_rfl) (by kernel_rfl) .u32 (by kernel_rfl) (w := w) (a := ⟨B, 0, none⟩) (x := 1) (h.cell 0)
    have HB := Lib.hid h
    clear h
    go_enter Tryz.func166, Tryz.ntmps166
    go_wp2
    go_end0
    exact ⟨rfl, HB.out, World.grownBy.refl _ _⟩

/-- all but one block -/
def nb1 (B : Nat) : Nat → Bool := fun b => decide (b ≠ B)

theorem xor_u8 (a b : Nat) (ha : a < 256) (hb : b < 256) : bits .xor .u8 (a : Int) (b : Int) = ((a ^^^ b : Nat) : Int) := by
  have hx : a ^^^ b < 2 ^ 8 := Nat.xor_lt_two_pow (by omega) (by omega)
  have h1 : (BitVec.ofInt 8 (a : Int)).toNat = a := by
    rw [BitVec.ofInt_natCast, BitVec.toNat_ofNat]; exact Nat.mod_eq_of_lt (by omega)
  have h2 : (BitVec.ofInt 8 (b : Int)).toNat = b := by
    rw [BitVec.ofInt_natCast, BitVec.toNat_ofNat]; exact Nat.mod_eq_of_lt (by omega)
  show IntKind.u8.wrap ((BitVec.ofInt 8 (a : Int) ^^^ BitVec.ofInt 8 (b : Int)).toNat : Int) = _
  rw [BitVec.toNat_xor, h1, h2]
  have : IntKind.u8.wrap ((a ^^^ b : Nat) : Int) = ((a ^^^ b : Nat) : Int) % 256 := by simp [IntKind.wrap, IntKind.bits, IntKind.signed]
  rw [this]; omega
theorem crcAdd_step (s : BitVec 32) (l : List Int) (k : Nat) (hk : k < l.length) : crcAdd s (l.take (k + 1)) = stepC 8 (crcAdd s (l.take k) ^^^ (BitVec.ofNat 32 l[k].toNat <<< 24)) := by
  unfold crcAdd; rw [List.take_succ_eq_append_getElem hk, List.foldl_append]; rfl
theorem crc_idx (t : BitVec 32) (c : Nat) (hc : c < 256) : ((t <<< 8) ^^^ BitVec.ofNat 32 (tabF ((t.toNat / 16777216) ^^^ c)).toNat) = stepC 8 (t ^^^ (BitVec.ofNat 32 c <<< 24)) := by
  rw [← crc_table]
  unfold tabF
  rw [Int.toNat_natCast, BitVec.ofNat_toNat, BitVec.setWidth_eq]
  congr 3
  apply BitVec.eq_of_toNat_eq
  have ht := t.isLt
  have hx : (t.toNat / 16777216) ^^^ c < 2 ^ 8 := Nat.xor_lt_two_pow (by omega) (by omega)
  rw [BitVec.toNat_ofNat, BitVec.toNat_xor, BitVec.toNat_ushiftRight, BitVec.toNat_ofNat, Nat.shiftRight_eq_div_pow, Nat.mod_eq_of_lt (by omega), Nat.mod_eq_of_lt (show c < 2 ^ 32 by omega)]
set_option maxRecDepth 100000 in
set_option maxHeartbeats 1600000 in
theorem cadd_any (B : Nat) (s : BitVec 32) (vb : Value) (l : List Int) (w : World) (h : TabSt w B) (hb : byteE.Is (only w (nb1 B)) vb l) (hl : l.length ≤ 1000000) (ho : okB l) :
    Calls Tryz.prog 137 #[.pointer (some ⟨B, 0, none⟩), .int .u32 s.toNat, vb] w fun e w' => e = .returned (.int .u32 (crcAdd s l).toNat) ∧ TabSt w' B ∧ w.grownBy w' (some B) := by
  have HB := Lib.hid h
  have HX := Lib.hid hb
  have HO := Lib.hid ho
  obtain ⟨A, c, rfl, h1, h2, h3, h4⟩ := hb
  have hmf : ∀ (fn : Fn) (first cap : Array Value) (w : World), (Instr.makeFunc fn first cap).run Tryz.prog w = .ok (.func fn first cap) w := fun _ _ _ _ => rfl
  clear h h1 h2 h3 h4 ho
  go_enter Tryz.func137, Tryz.ntmps137
  rcases (show l.length = 0 ∨ 0 < l.length by omega) with h0 | h0
  · have hnil : l = [] := List.eq_nil_of_length_eq_zero h0
    subst hnil
    go_wp2_with fail
    go_loopg [1, 20] 1 (fun gk v i wr => gk = 1 ∧ i = .int .i64 0 ∧ v = .int .u32 s.toNat ∧ wr = w)
    case atStart => exact ⟨rfl, rfl, rfl, rfl⟩
    case round =>
      obtain ⟨hgk, rfl, rfl, hw⟩ := hrel
      obtain rfl : w = wr := hw.symm
      go_wp2
      go_ret
      exact ⟨rfl, HB.out, World.grownBy.refl _ _⟩
  have h0i : (0 : Int) < l.length := by omega
  have hne : ¬ l = [] := fun e => by rw [e] at h0; simp at h0
  go_wp2_with fail
  refine (once_any B _ HB.out).mono ?_
  rintro e w1 ⟨rfl, hk1, hg1⟩
  have HK1 := Lib.hid hk1
  have HG1 := Lib.hid hg1
  have HX1 := Lib.hid ((Sub.grown hg1 (G := nb1 B) (fun k hk => by injection hk with hk; simp [nb1, hk])).is HX.out)
  clear hk1 hg1
  go_wp2_with fail
  go_loopg [1, 20] l.length (fun gk v i wr => ∃ (k : Nat), k ≤ l.length ∧ gk = l.length - k ∧ i = .int .i64 k ∧ v = .int .u32 (crcAdd s (l.take k)).toNat ∧ wr = w1)
  case atStart => exact ⟨0, by omega, rfl, rfl, rfl, rfl⟩
  case round =>
    obtain ⟨k, hk, hgk, rfl, rfl, hw⟩ := hrel
    obtain rfl : w1 = wr := hw.symm
    by_cases hlt : k < l.length
    · have hlti : (k : Int) < l.length := by omega
      obtain ⟨_, _, e1, _, _, _, hat⟩ := HX1.out
      simp only [Value.slice.injEq] at e1
      obtain ⟨rfl, -, -⟩ := e1
      obtain ⟨ad, rfl, c0⟩ := byte_at hat k hlt
      have c0 := (only_cell c0).2
      have HS := Lib.hid (crcAdd_step s l k hlt)
      have hc := HO.out _ (List.getElem_mem hlt)
      clear hat
      generalize l[k] = y at *
      obtain ⟨yn, rfl⟩ := Int.eq_ofNat_of_zero_le hc.1
      have hy : yn < 256 := by omega
      rw [Int.toNat_natCast] at HS
      generalize crcAdd s (l.take k) = t at *
      have HI := Lib.hid (crc_idx t yn hy)
      have ht := t.isLt
      have hq : t.toNat / 16777216 < 256 := by omega
      have hxl : (t.toNat / 16777216) ^^^ yn < 256 := Nat.xor_lt_two_pow (n := 8) (by omega) (by omega)
      have hx8 : bits .xor .u8 ((t.toNat : Int) / 16777216) (yn : Int) = (((t.toNat / 16777216) ^^^ yn : Nat) : Int) := by
        rw [← xor_u8 _ _ hq hy]; congr 1
      have ct := HK1.out.cell (4 + ((t.toNat / 16777216) ^^^ yn))
      rw [tab_at _ _ _ _ _ hxl] at ct
      generalize hxx : (t.toNat / 16777216) ^^^ yn = xx at *
      have hxi : (xx : Int) < 256 := by omega
      go_wp2_with fail
      go_roundg (l.length - (k + 1))
      case measure => omega
      case rel => exact ⟨k + 1, by omega, rfl, by go_num, by
        rw [HS.out, ← HI.out, ← xor_u32]
        have e1 : (t.toNat : Int) * (256 : Int) % (4294967296 : Int) = ((t <<< 8).toNat : Int) := by rw [BitVec.toNat_shiftLeft, Nat.shiftLeft_eq]; omega
        have e2 : tabF xx = ((BitVec.ofNat 32 (tabF xx).toNat).toNat : Int) := by
          unfold tabF
          rw [Int.toNat_natCast, BitVec.ofNat_toNat, BitVec.setWidth_eq]
        rw [← e1, ← e2], rfl⟩
    · obtain rfl : k = l.length := by omega
      go_wp2
      go_ret
      exact ⟨rfl, .inr HK1.out, HG1.out⟩
theorem csum_any (B : Nat) (vb : Value) (l : List Int) (w : World) (h : TabSt w B) (hb : byteE.Is (only w (nb1 B)) vb l) (hl : l.length ≤ 1000000) (ho : okB l) :
    Calls Tryz.prog 115 #[.pointer (some ⟨B, 0, none⟩), vb] w fun e w' => e = .returned (.int .u32 (crcSum l).toNat) ∧ TabSt w' B ∧ w.grownBy w' (some B) := by
  have HB := Lib.hid h
  have HX := Lib.hid hb
  have HO := Lib.hid ho
  clear h hb ho
  have HE := Lib.hid (cadd_any B 0xFFFFFFFF vb l w HB.out HX.out hl HO.out)
  go_enter Tryz.func115, Tryz.ntmps115
  go_wp2_with fail
  refine HE.out.mono ?_
  rintro e w1 ⟨rfl, hk1, hg1⟩
  go_wp2
  go_ret
  exact ⟨rfl, hk1, hg1⟩
end Go.Proofs.YtoocebghlchcoaaGreat.ExtW
