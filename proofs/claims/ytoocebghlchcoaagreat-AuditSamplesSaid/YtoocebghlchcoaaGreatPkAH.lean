/- Several texts joined (see each one's head). -/
import Derived.Deep.RegionHeld3
import Derived.Test.YtoocebghlchcoaaGreatPkAG
import Derived.Test.YtoocebghlchcoaaGreatPkAD
import Derived.Deep.OwnRows
/- Drawn regions, walked in the few orders that stand for all: operations whose value is the same in every world that meets S go first. -/
namespace Go.Ov
open Go

/-- The orders that stand for all. -/
inductive Plan where
  | done
  | stop
  | take (i : Nat) (t : Plan)
  | ev (i : Nat) (t more : Plan)
  deriving Inhabited

section
variable {P : Program} {ops : Array Oper} {Q : Exit → Act → World → Prop} {md : Region.Mode} {S : World → Prop}

/-- The operation with a number, by the list. -/
def nth : List Oper → Nat → Option Oper
  | [], _ => none
  | o :: _, 0 => some o
  | _ :: l, n + 1 => nth l n
theorem nth_eq : ∀ (l : List Oper) (n : Nat), nth l n = l[n]?
  | [], n => by simp [nth]
  | o :: l, 0 => by simp [nth]
  | o :: l, n + 1 => by simp [nth, nth_eq l n]
theorem nth_ops {ops : Array Oper} {i : Nat} {o : Oper} (h : nth ops.toList i = some o) : ops[i]? = some o := by
  rw [nth_eq] at h; simpa using h

/-- 'tk': the operations to be taken ahead of the others where that is free. -/
def ways (md : Region.Mode) (ops : Array Oper) (tk : List Nat) : Nat → Array Bool → Option Plan
  | 0, listed => if (Region.ready md ops listed).isEmpty then some .done else none
  | fuel + 1, listed =>
    let rs := Region.ready md ops listed
    if rs.isEmpty then some .done else
    match rs.find? (fun i => tk.contains i && Region.free md ops listed i) with
    | some i => (ways md ops tk fuel (listed.setIfInBounds i true)).map (.take i)
    | none => rs.foldr (fun i acc => match ways md ops tk fuel (listed.setIfInBounds i true), acc with
        | some t, some m => some (.ev i t m)
        | _, _ => none) (some .stop)

/-- The walk along these orders. -/
def wpWay (P : Program) (ops : Array Oper) (Q : Exit → Act → World → Prop) (S : World → Prop) : Plan → Act → World → Prop
  | .done, a, w => Q .normal a w
  | .stop, _, _ => True
  | .take i t, a, w => ∃ o v, ops[i]? = some o ∧ YieldsIf P ops S o v a ∧ wpWay P ops Q S t (a.put o.dst v) w
  | .ev i t m, a, w => wpOp P ops Q i (fun a' w' => S w' ∧ wpWay P ops Q S t a' w') a w ∧ wpWay P ops Q S m a w

theorem ways_sound (hs : Region.noSelect ops = true) (hQ : ∀ c a w, ¬ Q (.panic c) a w) (tk : List Nat) : ∀ (fuel : Nat) (listed : Array Bool) (y : Plan) (a : Act) (w : World),
    ways md ops tk fuel listed = some y → S w → wpWay P ops Q S y a w → wpAnyH P md ops Q S fuel listed a w
  | 0, listed, y, a, w, hy, _, h => by
    unfold ways at hy
    split at hy
    · rename_i he
      cases hy
      exact ⟨by simpa using he, h⟩
    · cases hy
  | fuel + 1, listed, y, a, w, hy, hS, h => by
    unfold ways at hy
    simp only at hy
    split at hy
    · rename_i he
      cases hy
      exact wpAnyH_done (by simpa using he) h _
    · split at hy
      · rename_i i hi
        have hm := List.mem_of_find?_eq_some hi
        have hf := List.find?_some hi
        simp only [Bool.and_eq_true] at hf
        cases ht : ways md ops tk fuel (listed.setIfInBounds i true) with
        | none => rw [ht] at hy; cases hy
        | some t =>
          rw [ht] at hy
          cases hy
          obtain ⟨o, v, ho, hyi, hr⟩ := h
          exact wpAnyH_take ho hs hf.2 (by simpa using hm) (fun c a w hp => (hQ _ _ _ hp).elim) hyi hS (ways_sound hs hQ tk fuel _ _ _ _ ht hS hr)
      · refine wpAnyH_all rfl (by intro h0; simp_all) ?_
        have key : ∀ (rs : List Nat) (y : Plan), rs.foldr (fun i acc => match ways md ops tk fuel (listed.setIfInBounds i true), acc with
            | some t, some m => some (Plan.ev i t m)
            | _, _ => none) (some .stop) = some y → wpWay P ops Q S y a w →
            ∀ i ∈ rs, wpOp P ops Q i (fun a' w' => S w' ∧ wpAnyH P md ops Q S fuel (listed.setIfInBounds i true) a' w') a w := by
          intro rs
          induction rs with
          | nil => intro _ _ _ i hi; cases hi
          | cons r rs ih =>
            intro y hy h i hi
            rw [List.foldr_cons] at hy
            cases ht : ways md ops tk fuel (listed.setIfInBounds r true) with
            | none => rw [ht] at hy; cases hy
            | some t =>
              rw [ht] at hy
              split at hy
              · rename_i t' m htt hm
                cases htt
                cases hy
                rcases List.mem_cons.1 hi with rfl | hi
                · exact wpOp_mono (fun a' w' hw => ⟨hw.1, ways_sound hs hQ tk fuel _ _ _ _ ht hw.1 hw.2⟩) h.1
                · exact ih m hm h.2 i hi
              · cases hy
        exact key _ _ hy h

theorem NoPanic.not (Q : Exit → Act → World → Prop) (c : List PanicEntry) (a : Act) (w : World) : ¬ NoPanic Q (.panic c) a w := fun h => h

theorem wp_region_ways {id : Nat} {a : Act} {w : World} (tk : List Nat) {y : Plan} (hm : P.follows .mixedOrders = true) (hs : Region.noSelect ops = true)
    (hy : ways .any ops tk ops.size (Array.replicate ops.size false) = some y) (hS : S w.drew)
    (h : S w.drew → wpWay P ops (NoPanic Q) S y a w.drew) : (Code.region id ops true).wp P Q a w :=
  wp_region_noPanic (wp_region_held_drew hm hS fun hS => ways_sound hs (NoPanic.not Q) tk _ _ _ _ _ hy hS (h hS))

theorem wpWay_done {a : Act} {w : World} (h : Q .normal a w) : wpWay P ops (NoPanic Q) S .done a w := h
theorem wpWay_take {i : Nat} {t : Plan} {a : Act} {w : World} {o : Oper} {v : Value} (ho : nth ops.toList i = some o) (hw : Region.wanted o (yielded ops a.tmps) = true)
    (hv : ∀ w, S w → (execOp a.eval o).run P w = .ok (.value v) w) (h : wpWay P ops Q S t (a.put o.dst v) w) : wpWay P ops Q S (.take i t) a w :=
  ⟨o, v, nth_ops ho, .inl ⟨hw, hv⟩, h⟩
theorem wpWay_skip {i : Nat} {t : Plan} {a : Act} {w : World} {o : Oper} (ho : nth ops.toList i = some o) (hw : Region.wanted o (yielded ops a.tmps) = false)
    (h : wpWay P ops Q S t (a.put o.dst undef) w) : wpWay P ops Q S (.take i t) a w :=
  ⟨o, undef, nth_ops ho, .inr ⟨hw, rfl⟩, h⟩
theorem wpWay_stop {a : Act} {w : World} : wpWay P ops Q S .stop a w := trivial
theorem wpWay_pass {i : Nat} {t m : Plan} {a : Act} {w : World} {o : Oper} (ho : nth ops.toList i = some o) (hw : Region.wanted o (yielded ops a.tmps) = false)
    (hS : S w) (h : wpWay P ops Q S t (a.put o.dst undef) w) (hm : wpWay P ops Q S m a w) : wpWay P ops Q S (.ev i t m) a w :=
  ⟨by unfold wpOp; simp only [nth_ops ho, hw]; exact ⟨hS, h⟩, hm⟩

theorem Oper.wp_imp {o : Oper} {a : Act} {w : World} {K K' : Act → World → Prop} {Q' : Exit → Act → World → Prop} (h : ∀ a w, K a w → K' a w)
    (hp : ∀ c a w, Q (.panic c) a w → Q' (.panic c) a w) (hl : LetsOut Q → LetsOut Q')
    (hh : o.wp P a w K Q) : o.wp P a w K' Q' := by
  unfold Oper.wp at *
  generalize (execOp a.eval o).run P w = r at *
  cases r with
  | ok n w' =>
    cases n <;> simp only [Oper.upon] at hh ⊢ <;>
      first
        | exact h _ _ hh
        | exact Calls.mono hh (fun e w'' he => by cases e <;> first | exact h _ _ he | exact hp _ _ _ he | exact hl he)
        | exact Rows.mono hh (fun _ _ he => h _ _ he)
  | halt x w' => cases x <;> simp only [Oper.upon] at hh ⊢ <;> exact hp _ _ _ hh

/-- An event is walked as a list of one operation. -/
theorem wpWay_ev {i : Nat} {t m : Plan} {a : Act} {w : World} {o : Oper} (ho : nth ops.toList i = some o)
    (h : ∀ K : Exit → Act → World → Prop, (∀ a' w', S w' ∧ wpWay P ops Q S t a' w' → K .normal a' w') → wpList P ops K [o] a w)
    (hm : wpWay P ops Q S m a w) : wpWay P ops Q S (.ev i t m) a w := by
  refine ⟨?_, hm⟩
  have h1 := h (fun e a' w' => match e with | .normal => S w' ∧ wpWay P ops Q S t a' w' | _ => False) (fun a' w' h => h)
  unfold wpOp
  simp only [nth_ops ho]
  unfold wpList at h1
  split
  · rename_i hw
    simp only [hw, if_true] at h1
    rcases h1 with h1 | ⟨_, a0, w0, h0⟩
    · exact .inl (Oper.wp_imp (fun a w h => h) (fun c a w h => h.elim) (fun ⟨_, _, h⟩ => h.elim) h1)
    · exact h0.elim
  · rename_i hw
    simp only [hw] at h1
    exact h1

end
end Go.Ov

/- Contracts of bits.Writer: NewWriter, put, Put, Ones, Len, Bytes. -/
namespace Go.Proofs.YtoocebghlchcoaaGreat.ExtW
open Go.RowKit Go.Ov Go.Proofs.YtoocebghlchcoaaGreat.Need

theorem infoByte : (Tryz.prog.info? 5).map (fun i => (i.zero, i.size, i.bytes)) = some (some (.int .u8 0), 1, 1) := by kernel_rfl
theorem or_new (x i : Nat) (hx : x % 2 ^ (i + 1) = 0) (hx1 : x < 256) (hi : i < 8) : bits .or .u8 (x : Int) ((2 ^ i : Nat) : Int) = ((x + 2 ^ i : Nat) : Int) := by
  have hp : 2 ^ i < 256 := by
    have : ∀ j : Fin 8, 2 ^ j.1 < 256 := by decide
    exact this ⟨i, hi⟩
  have hlt : 2 ^ i < 2 ^ (i + 1) := Nat.pow_lt_pow_right (by decide) (by omega)
  have hx' : (x : Int) % 2 ^ (i + 1) = 0 := by
    have e : ((2 : Int) ^ (i + 1)) = ((2 ^ (i + 1) : Nat) : Int) := by simp
    rw [e, ← Int.natCast_emod, hx]; rfl
  rw [bits_join .u8 8 (by decide) wraps_u8 (i + 1) x _ (by omega) hx' (by omega) (by omega) (by
    have e : ((2 : Int) ^ (i + 1)) = ((2 ^ (i + 1) : Nat) : Int) := by simp
    rw [e]; omega) (by omega)]
  omega
theorem add_zero_block (g q : Nat) : (⟨g, 0, none⟩ : Addr).add q = ⟨g, q, none⟩ := by unfold Addr.add; split <;> simp_all
theorem lies_ne {w : World} {row row' : Option Nat} {B : Nat} (h : Lies w row row') (hr : row ≠ some B) (hB : B < w.heap.size) : row' ≠ some B := by
  rcases h with e | ⟨g, e, hg⟩
  · rw [e]; exact hr
  · rw [e]; intro h; injection h with h; omega
/-- where a digit goes: the row, the byte -/
def SlotOk (bs : List Bool) (q r : Nat) (P : List Int) : Prop := P.length = q + 1 ∧ (∃ o : Nat, P.getD q 0 = (o : Int) ∧ o < 256 ∧ o % 2 ^ (8 - r) = 0) ∧ ∀ b, packB (bs ++ [b]) = P.set q (P.getD q 0 + ((bv b * 2 ^ (7 - r) : Nat) : Int))
theorem slot_new (bs : List Bool) (q : Nat) (h : bs.length = 8 * q) : SlotOk bs q 0 (packB bs ++ [0]) := by
  have hl := packB_len bs
  have hq : (packB bs).length = q := by omega
  have hg : (packB bs ++ [0]).getD q 0 = 0 := by rw [List.getD_eq_getElem?_getD, List.getElem?_append_right (by omega)]; simp [hq]
  refine ⟨by simp [hq], ⟨0, by rw [hg]; rfl, by decide, by simp⟩, fun b => ?_⟩
  rw [packB_snoc_new bs b (by omega), hg, List.set_append_right _ _ (by omega), hq, Nat.sub_self]
  simp
theorem slot_old (bs : List Bool) (q r : Nat) (hr : r < 7) (h : bs.length = 8 * q + (r + 1)) : SlotOk bs q (r + 1) (packB bs) := by
  have hl := packB_len bs
  have hq : bs.length / 8 = q := by omega
  have hm : bs.length % 8 = r + 1 := by omega
  have hlt : q < (packB bs).length := by omega
  have hg : (packB bs).getD q 0 = (byteAt bs q : Int) := by rw [List.getD_eq_getElem?_getD, List.getElem?_eq_getElem hlt, Option.getD_some, packB_at]
  refine ⟨by omega, ⟨byteAt bs q, hg, byteAt_lt bs q, by have := byteAt_low bs; rw [hq, hm] at this; exact this⟩, fun b => ?_⟩
  have := packB_snoc_old bs b (by omega) (by omega)
  simp only [hq, hm] at this
  rw [this, hg, packB_at]

end Go.Proofs.YtoocebghlchcoaaGreat.ExtW

/- Contracts of field: Put, Get, Take, Join; of bytes.Equal; of copies of bytes. -/
namespace Go.Proofs.YtoocebghlchcoaaGreat.ExtW
open Go.RowKit Go.Ov Go.Proofs.YtoocebghlchcoaaGreat.Need

theorem infoIntF : (Tryz.prog.info? 3).map (fun i => (i.zero, i.size, i.bytes)) = some (some (.int .i64 0), 1, 8) := by kernel_rfl
set_option maxRecDepth 100000 in
theorem bEqual_any (u v : Value) (xs ys : List Int) (w : World) (hx : byteE.Is w u xs) (hy : byteE.Is w v ys) (ox : okB xs) (oy : okB ys) :
    Calls Tryz.prog 56 #[u, v] w fun e w' => e = .returned (.bool (decide (xs = ys))) ∧ w' = w := by
  have c1 := byte_str (P := Tryz.prog) hx 25 9 5 Tryz.underlying25 Tryz.underlying5 Tryz.underlying9
  have c2 := byte_str (P := Tryz.prog) hy 25 9 5 Tryz.underlying25 Tryz.underlying5 Tryz.underlying9
  have HE := Lib.hid (show ((strOfNums xs).toList == (strOfNums ys).toList) = decide (xs = ys) by
    by_cases h : xs = ys
    · subst h; simp
    · rw [decide_eq_false h]
      exact beq_eq_false_iff_ne.2 fun e => h (str_inj ox oy (ByteArray.ext (Array.toList_inj.1 (by rw [← ByteArray.toList_eq, ← ByteArray.toList_eq]; exact e)))))
  generalize strOfNums xs = a at *
  generalize strOfNums ys = b at *
  clear hx hy ox oy
  go_enter Tryz.func56, Tryz.ntmps56
  go_wp2
  go_ret
  exact ⟨by rw [← HE.out]; rfl, rfl⟩
theorem copyByte_any (v : Value) (l : List Int) (w : World) (h : byteE.Is w v l) (hl : l.length ≤ 140737488355328) :
    Calls Tryz.prog 28 #[v] w fun e w' => ∃ u, e = .returned u ∧ byteE.Own 5 w' w.heap.size u l ∧ Bl w w' := by
  have HO := Lib.hid h
  clear h
  go_enter Tryz.func28, Tryz.ntmps28
  go_wp2_with (at_builtin; refine Enc.Own.append (E := byteE) rfl _ _ 25 rfl w.heap.size 5 (.int .u8 0) 1 1 Tryz.underlying25 infoByte rfl rfl (by decide) (by decide) (.slice none 0 0) [] rfl (Enc.Own.nil _ _ _) v _ rfl HO.out (by simp; omega) (Nat.le_refl _) ?_; intro u w1 ho hg)
  go_ret
  exact ⟨u, rfl, by simpa using ho, (Bl.refl w).grown hg (by simp [Value.ownBlock])⟩
theorem fJoin_any (v : Value) (hs : List Head) (ls : List (List Int)) (w : World) (h : headE.Is w v hs) (hr : BRows w hs ls) (hn : ls.flatten.length ≤ 1000000) :
    Calls Tryz.prog 74 #[v] w fun e w' => ∃ u, e = .returned u ∧ byteE.Own 5 w' w.heap.size u ls.flatten ∧ Bl w w' := by
  have HR := Lib.hid hr
  obtain ⟨A, c, rfl, h1, h2, h3, h4⟩ := h
  have HA := Lib.hid h4
  have hsm : hs.length ≤ 9223372036854775807 := by unfold maxLen at h2; omega
  clear h1 h2 h3 h4
  go_enter Tryz.func74, Tryz.ntmps74
  go_wp2_with fail
  go_loopg [3, 8] hs.length (fun gk u i wr => ∃ (k : Nat), k ≤ hs.length ∧ gk = hs.length - k ∧ i = .int .i64 k ∧ Hid (byteE.Own 5 wr w.heap.size u (ls.take k).flatten) ∧ Hid (Bl w wr))
  case atStart => exact ⟨0, by omega, rfl, rfl, Lib.hid (Enc.Own.nil _ _ _), Lib.hid (Bl.refl _)⟩
  case round =>
    obtain ⟨k, hk, hgk, rfl, HO, HB⟩ := hrel
    by_cases hlt : k < hs.length
    · have hlti : (k : Int) < hs.length := by omega
      have hkl : k < ls.length := by rw [← HR.out.1]; exact hlt
      obtain ⟨ad, rfl, c0⟩ := head_at (HA.out.bl HB.out) k hlt
      have HX := Lib.hid ((HR.out.2 k _ _ (List.getElem?_eq_getElem hlt) (List.getElem?_eq_getElem hkl)).bl HB.out)
      have HT := Lib.hid (List.take_succ_eq_append_getElem hkl)
      have hln : ((ls.take k).flatten).length + ls[k].length ≤ 1000000 := by
        have : (ls.take (k + 1)).flatten.length ≤ ls.flatten.length := by
          conv => rhs; rw [← List.take_append_drop (k + 1) ls]
          rw [List.flatten_append, List.length_append]; omega
        rw [List.take_succ_eq_append_getElem hkl, List.flatten_append, List.length_append] at this
        simp only [List.flatten_cons, List.flatten_nil, List.append_nil] at this
        omega
      generalize hs[k] = x at *
      generalize ls[k] = y at *
      generalize x.v = xv at *
      go_wp2_with (at_builtin; refine Enc.Own.append (E := byteE) rfl _ _ 25 rfl w.heap.size 5 (.int .u8 0) 1 1 Tryz.underlying25 infoByte rfl rfl (by decide) (by decide) _ _ rfl HO.out xv y rfl HX.out (by omega) HB.out.size ?_; intro u1 w1 ho hg)
      go_roundg (hs.length - (k + 1))
      case measure => omega
      case rel => exact ⟨k + 1, by omega, rfl, by go_num, Lib.hid (by rw [HT.out, List.flatten_append]; simpa using ho), Lib.hid (HB.out.grown hg (fun g hgk => (HO.out.lt g hgk).1))⟩
    · obtain rfl : k = hs.length := by omega
      have HO2 := Lib.hid (show byteE.Own 5 wr w.heap.size u3 ls.flatten by have := HO.out; rwa [HR.out.1, List.take_length] at this)
      clear HO
      go_wp2
      go_ret
      exact ⟨_, rfl, HO2.out, HB.out⟩
set_option maxHeartbeats 1000000 in
theorem fGet_any (v : Value) (l : List Int) (w : World) (h : byteE.Is w v l) (hl : l.length ≤ 6) (ho : okB l) :
    Calls Tryz.prog 88 #[v] w fun e w' => e = .returned (.tuple #[.int .i64 (getF l), .bool true]) ∧ w' = w := by
  obtain ⟨A, c, rfl, h1, h2, h3, h4⟩ := h
  have HA := Lib.hid h4
  have HO := Lib.hid ho
  have g1 : ¬ (7 : Int) < l.length := by omega
  clear h1 h2 h3 h4 ho
  have HBd := Lib.hid (show ∀ k, 0 < k → 0 ≤ getF (l.drop k) ∧ getF (l.drop k) < 1099511627776 from fun k hk => get_small _ (HO.out.drop k) (by rw [List.length_drop]; omega))
  go_enter Tryz.func88, Tryz.ntmps88
  go_wp2_with fail
  go_loopg [4, 5] l.length (fun gk n i wr => ∃ (k : Nat), k ≤ l.length ∧ gk = k ∧ i = .int .i64 ((k : Int) - 1) ∧ n = .int .i64 (getF (l.drop k)) ∧ wr = w)
  case atStart => exact ⟨l.length, by omega, rfl, by go_num, by rw [List.drop_length]; rfl, rfl⟩
  case round =>
    obtain ⟨k, hk, hgk, rfl, rfl, hw⟩ := hrel
    obtain rfl : w = wr := hw.symm
    cases k with
    | zero =>
      go_wp2
      go_ret2
      exact ⟨rfl, rfl⟩
    | succ k =>
      have hlt : k < l.length := by omega
      have hlti : (k : Int) < l.length := by omega
      have hk1 : ((k + 1 : Nat) : Int) - 1 = k := by omega
      rw [hk1]
      obtain ⟨ad, rfl, c0⟩ := byte_at HA.out k hlt
      have hy := HO.out _ (List.getElem_mem hlt)
      have HG := Lib.hid (getF_cons_drop l k hlt)
      have hbd := HBd.out (k + 1) (by omega)
      generalize l[k] = y at *
      generalize getF (l.drop (k + 1)) = n at *
      have hn : 0 ≤ n ∧ n < 281474976710656 := by omega
      have hor := or_join n y hn.1 hn.2 hy
      have hw1 : IntKind.i64.wrap (n * 256) = n * 256 := IntWalk.i64_in _ (by omega)
      clear hbd
      go_wp2
      go_roundg k
      case measure => omega
      case rel => exact ⟨k, by omega, rfl, by go_num, by rw [HG.out]; congr 1; omega, rfl⟩

theorem put_set (m : Int) (j k : Nat) (h : j < k) : (putF m j ++ List.replicate (k - j) 0).set j (m / 256 ^ j % 256) = putF m (j + 1) ++ List.replicate (k - (j + 1)) 0 := by
  rw [List.set_append_right _ _ (by rw [putF_len]; omega), putF_len, Nat.sub_self, show k - j = (k - (j + 1)) + 1 by omega, List.replicate_succ, List.set_cons_zero, putF_snoc, List.append_assoc, List.singleton_append]
set_option maxRecDepth 100000 in
set_option maxHeartbeats 1000000 in
theorem fPut_any (n : Int) (k : Nat) (w : World) (hk : k ≤ 8) (hn : n ≤ 9223372036854775807) :
    Calls Tryz.prog 75 #[.int .i64 n, .int .i64 k] w fun e w' => ∃ u, e = .returned u ∧ byteE.Own 5 w' w.heap.size u (putF (max 0 n) k) ∧ Bl w w' := by
  obtain ⟨m, hm⟩ : ∃ m, m = max 0 n := ⟨_, rfl⟩
  have hmax : max 0 n = m := hm.symm
  have hmin : min (k : Int) 8 = k := by omega
  have hmx : max 0 (k : Int) = k := by omega
  have hm0 : 0 ≤ m ∧ m ≤ 9223372036854775807 := by omega
  rw [hmax]
  obtain ⟨Z, hZ⟩ : ∃ Z, Z = rowB (List.replicate k 0) := ⟨_, rfl⟩
  have hmk : ∀ w, (Instr.makeSlice 25 (.int .i64 (k : Int)) (.int .i64 (k : Int))).run Tryz.prog w = .ok (.slice (some ⟨w.heap.size, 0, none⟩) k k) (w.alloc (.cells Z 5)) := fun w => by
    have := run_make_row' (P := Tryz.prog) 25 5 (.int .u8 0) 1 Tryz.underlying25 infoByte rfl .i64 .i64 k (by omega) (by omega) w
    rw [hZ, ← row_made]; exact this
  have HZ := Lib.hid (show Blk (w.alloc (.cells Z 5)) w.heap.size (rowB (putF m 0 ++ List.replicate (k - 0) 0)) 5 by
    rw [show putF m 0 ++ List.replicate (k - 0) 0 = List.replicate k 0 from rfl, ← hZ]; exact Blk.new _ _ _)
  clear hm hZ
  go_enter Tryz.func75, Tryz.ntmps75
  go_wp2_with fail
  go_loopg [6, 17] k (fun gk vq i wr => ∃ (j : Nat) (q : Int), j ≤ k ∧ gk = k - j ∧ i = .int .i64 j ∧ vq = .int .u64 q ∧ 0 ≤ q ∧ q ≤ 9223372036854775807 ∧ Hid (q = m / 256 ^ j) ∧ Hid (Blk wr w.heap.size (rowB (putF m j ++ List.replicate (k - j) 0)) 5) ∧ Hid (Bl w wr))
  case atStart => exact ⟨0, m, by omega, rfl, rfl, by go_num, hm0.1, hm0.2, Lib.hid (by simp), HZ, Lib.hid ((Bl.refl _).alloc _)⟩
  case round =>
    obtain ⟨j, q, hj, hgk, rfl, rfl, hq0, hq1, HQ, HB, HL⟩ := hrel
    by_cases hlt : j < k
    · have hlti : (j : Int) < k := by omega
      have c0 := HB.out.cell j
      have hjl : j < (putF m j ++ List.replicate (k - j) 0).length := by rw [List.length_append, putF_len, List.length_replicate]; omega
      rw [rowB_at _ _ hjl] at c0
      have f0 := HB.out.frozen j
      generalize (putF m j ++ List.replicate (k - j) 0)[j] = x0 at *
      go_wp2_with fail
      have HS := Lib.hid (HB.out.set j (.int .u8 (q % 256)))
      go_roundg (k - (j + 1))
      case measure => omega
      case rel => exact ⟨j + 1, q / 256, by omega, rfl, by go_num, rfl, by omega, by omega, Lib.hid (by rw [HQ.out, Int.pow_succ, Int.ediv_ediv_of_nonneg (Int.le_of_lt (Int.pow_pos (by decide)))]), Lib.hid (by
        have := HS.out
        rw [rowB_set] at this
        have e := put_set m j k hlt
        rw [← HQ.out] at e
        rw [e] at this
        exact this), Lib.hid (HL.out.grown (setCell_grown _ _ _ _) (fun g hg => by injection hg with hg; omega))⟩
    · obtain rfl : j = k := by omega
      have HB2 := Lib.hid (show Blk wr w.heap.size (rowB (putF m j)) 5 by have := HB.out; rwa [Nat.sub_self, List.replicate_zero, List.append_nil] at this)
      go_wp2
      go_ret
      exact ⟨_, rfl, own_row HB2.out (Nat.le_refl _) (putF_len m j).symm (by unfold maxLen; omega), HL.out⟩

theorem takeF_ok : ∀ (ws : List Nat) (l : List Int) (r : List Int), takeF l ws = some r → r.length = ws.length
  | [], l, r, h => by simp [takeF] at h; subst h; rfl
  | w :: ws, l, r, h => by
    unfold takeF at h
    split at h
    · cases h
    · cases hq : takeF (l.drop w) ws with
      | none => rw [hq] at h; cases h
      | some q =>
        rw [hq] at h
        simp at h
        subst h
        simp [takeF_ok ws _ q hq]
def TakP (w w' : World) (l : List Int) (ws : List Nat) (e : Ending) : Prop := Bl w w' ∧ match takeF l ws with
  | some r => ∃ u, e = .returned (.tuple #[u, .bool true]) ∧ intE.Own 3 w' w.heap.size u r
  | none => ∃ u, e = .returned (.tuple #[u, .bool false])
set_option maxRecDepth 100000 in
set_option maxHeartbeats 1000000 in
theorem fTake_any (v vw : Value) (l : List Int) (ws : List Nat) (w : World) (h : byteE.Is w v l) (hw : intE.Is w vw (ws.map Int.ofNat)) (ho : okB l) (hl : l.length ≤ 1000000) (hw6 : ∀ x ∈ ws, x ≤ 6) (hwl : ws.length ≤ 1000000) :
    Calls Tryz.prog 54 #[v, vw] w fun e w' => TakP w w' l ws e := by
  have HI := Lib.hid h
  have HO := Lib.hid ho
  have H6 := Lib.hid hw6
  obtain ⟨W, hW⟩ : ∃ W, W = ws.map Int.ofNat := ⟨_, rfl⟩
  rw [← hW] at hw
  have hWl : W.length = ws.length := by rw [hW, List.length_map]
  have HWL := Lib.hid hWl
  have HW := Lib.hid hW
  have hWn : W.length ≤ 1000000 := by omega
  obtain ⟨A2, c2, rfl, h1, h2, h3, h4⟩ := hw
  have HA2 := Lib.hid h4
  clear h1 h2 h3 h4 h ho hw6 hW hWl
  go_enter Tryz.func54, Tryz.ntmps54
  go_wp2_with fail
  go_loopg [0, 4, 5, 6, 13] W.length (fun gk vb v4 v5 vo i wr => ∃ (k : Nat) (m : List Int) (r : List Int), k ≤ W.length ∧ gk = W.length - k ∧ i = .int .i64 k ∧ m.length ≤ 1000000 ∧ r.length ≤ 1000000 - (W.length - k) ∧ Hid (byteE.Is w vb m) ∧ Hid (okB m) ∧ Hid (intE.Own 3 wr w.heap.size vo r) ∧ Hid (takeF l ws = (takeF m (ws.drop k)).map (r ++ ·)) ∧ Hid (Bl w wr))
  case atStart => exact ⟨0, l, [], by omega, rfl, rfl, hl, by simp, HI, HO, Lib.hid (Enc.Own.nil _ _ _), Lib.hid (by simp), Lib.hid (Bl.refl _)⟩
  case round =>
    obtain ⟨k, m, r, hk, hgk, rfl, hml, hrl, HM, HMO, HR, HT, HB⟩ := hrel
    by_cases hlt : k < W.length
    · have hlti : (k : Int) < W.length := by omega
      have hks : k < ws.length := by rw [← HWL.out]; exact hlt
      obtain ⟨ad2, rfl, c0⟩ := int_at (HA2.out.bl HB.out) k hlt
      have HX := Lib.hid (show W[k] = ((ws[k] : Nat) : Int) by simp only [HW.out, List.getElem_map]; rfl)
      have h6 := H6.out _ (List.getElem_mem hks)
      have HD := Lib.hid (List.drop_eq_getElem_cons hks)
      generalize W[k] = x at *
      generalize ws[k] = n at *
      have hx : x = (n : Int) := HX.out
      subst hx
      obtain ⟨A, c, rfl, q1, q2, q3, q4⟩ := id HM.out
      have hn0 : ¬ (n : Int) < 0 := by omega
      have hn7 : ¬ (7 : Int) < n := by omega
      clear HX q2 q3 q4
      rcases (show (m.length : Int) < n ∨ ¬ (m.length : Int) < n by omega) with hsh | hsh
      · have HN := Lib.hid (show takeF l ws = none by
          rw [HT.out, HD.out]
          unfold takeF
          rw [if_pos (by omega)]; rfl)
        go_wp2
        go_ret2
        refine ⟨HB.out, ?_⟩
        rw [HN.out]
        exact ⟨_, rfl⟩
      · obtain ⟨V1, hV1, hI1⟩ := slice_h (E := byteE) (P := Tryz.prog) (t := 25) (by kernel_rfl) (fun w => by kernel_rfl) A c m (n : Int) (by omega) (by omega) q1
        obtain ⟨V2, hV2, hI2⟩ := slice_l (E := byteE) (P := Tryz.prog) (t := 25) (by kernel_rfl) (fun w => by kernel_rfl) A c m (n : Int) (by omega) (by omega)
        have HV1 := Lib.hid (show byteE.Is wr V1 (m.take n) from (hI1 _ HM.out).bl HB.out)
        have HV2 := Lib.hid (show byteE.Is w V2 (m.drop n) from hI2 _ HM.out)
        clear hI1 hI2 q1
        go_wp2_with fail
        refine (fGet_any _ (m.take n) _ HV1.out (by rw [List.length_take]; omega) (HMO.out.take n)).mono ?_
        rintro e w1 ⟨rfl, rfl⟩
        have HT2 := Lib.hid (show takeF l ws = (takeF (m.drop n) (ws.drop (k + 1))).map ((r ++ [getF (m.take n)]) ++ ·) by
          rw [HT.out, HD.out]
          conv => lhs; unfold takeF
          rw [if_neg (by omega)]
          cases takeF (m.drop n) (ws.drop (k + 1)) with
          | none => rfl
          | some q => simp)
        generalize getF (m.take n) = y at *
        go_wp2_with fail
        refine wp_region_ways (S := (fun w' => w.heap.size ≤ w'.heap.size)) [0, 1, 4, 5, 6, 7, 8] (y := .take 0 (.take 1 (.take 4 (.take 5 (.take 6 (.ev 2 (.ev 3 (.take 7 (.take 8 (.done))) (.stop)) (.stop))))))) (by kernel_rfl) (by kernel_rfl) (by kernel_rfl) ?_ (fun hHeld => ?_)
        · exact HB.out.size
        replace HR := Lib.hid (HR.out.bl (Bl.refl _).drew)
        replace HB := Lib.hid (HB.out.drew)
        clear hHeld
        generalize w1.drew = w2 at *
        repeat (first | (refine wpWay_take rfl (by rfl) (by intro w hSw; (try dsimp only at hSw); first | (go_simp; done) | (go_simp; with_reducible rfl)) ?_; try simp only [Act.put, List.setIfInBounds_toArray, List.set_cons_zero, List.set_cons_succ]) | (refine wpWay_skip rfl (by rfl) ?_; try simp only [Act.put, List.setIfInBounds_toArray, List.set_cons_zero, List.set_cons_succ]))
        refine wpWay_ev rfl (fun K hK => ?_) wpWay_stop
        go_wp2_with fail
        refine ⟨(HB.out.alloc _).size, ?_⟩
        repeat (first | (refine wpWay_take rfl (by rfl) (by intro w hSw; (try dsimp only at hSw); first | (go_simp; done) | (go_simp; with_reducible rfl)) ?_; try simp only [Act.put, List.setIfInBounds_toArray, List.set_cons_zero, List.set_cons_succ]) | (refine wpWay_skip rfl (by rfl) ?_; try simp only [Act.put, List.setIfInBounds_toArray, List.set_cons_zero, List.set_cons_succ]))
        refine wpWay_ev rfl (fun K hK => ?_) wpWay_stop
        go_wp2_with (at_builtin; refine Enc.Own.append1 (E := intE) rfl (.tmp 36) (.tmp 38) 24 rfl w.heap.size 3 (.int .i64 0) 1 8 Tryz.underlying24 infoIntF rfl rfl (by decide) (by decide) _ _ rfl HR.out y _ rfl rfl rfl (by omega) HB.out.size ?_; intro u1 w3 ho hg)
        have HB3 := Lib.hid ((HB.out.alloc _).grown hg (fun g hgk => (HR.out.lt g hgk).1))
        refine ⟨HB3.out.size, ?_⟩
        repeat (first | (refine wpWay_take rfl (by rfl) (by intro w hSw; (try dsimp only at hSw); first | (go_simp; done) | (go_simp; with_reducible rfl)) ?_; try simp only [Act.put, List.setIfInBounds_toArray, List.set_cons_zero, List.set_cons_succ]) | (refine wpWay_skip rfl (by rfl) ?_; try simp only [Act.put, List.setIfInBounds_toArray, List.set_cons_zero, List.set_cons_succ]))
        refine wpWay_done ?_
        go_wp2_with fail
        go_roundg (W.length - (k + 1))
        case measure => omega
        case rel => exact ⟨k + 1, m.drop n, r ++ [y], by omega, rfl, by go_num, by rw [List.length_drop]; omega, by simp; omega, HV2, Lib.hid (HMO.out.drop n), Lib.hid ho, HT2, HB3⟩
    · obtain rfl : k = W.length := by omega
      have HF := Lib.hid (show takeF l ws = some r by rw [HT.out, HWL.out, List.drop_length]; simp [takeF])
      go_wp2
      go_ret2
      refine ⟨HB.out, ?_⟩
      rw [HF.out]
      exact ⟨_, rfl, HR.out⟩
end Go.Proofs.YtoocebghlchcoaaGreat.ExtW
