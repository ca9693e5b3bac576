/- Several texts joined (see each one's head). -/
import Derived.Test.YtoocebghlchcoaaGreatPkAC
import Derived.Laws.CopyOwn
import Derived.Lib.Overlaps
import Derived.Lib.SliceRun
import Derived.IntWalk
import Derived.Test.YtoocebghlchcoaaGreatPkAD
/- Blocks written in place: copy, clear, an append of zero values, at elements of several cells. No program in sight. -/
namespace Go.Ov
open Go.RowKit

section
variable {P : Program}

theorem run_copy_rowK (w : World) (dT sT ty elem : TypeId) (k g o dLen dCap : Nat) (a : Addr) (sLen sCap : Nat) (cur : Array Value) (t : TypeId) (cs : List Value)
    (hu : P.underlying dT = some (.slice elem)) (hs : (P.info? elem).map (·.size) = some k)
    (hg : w.heap[g]? = some (.cells cur t (0, 0))) (hn : cs.length = Nat.min sLen dLen * k)
    (hsrc : ∀ j v, cs[j]? = some v → w.cell? (a.add j) = some v) (hfit : o + cs.length ≤ cur.size) (h1 : ∀ v ∈ cs, v.oneCell' = true) :
    (Builtin.copy_ #[dT, sT] ty #[.slice (some ⟨g, o, none⟩) dLen dCap, .slice (some a) sLen sCap]).run P w =
      .ok (goInt (Nat.min sLen dLen)) (w.setRow g (cur.toList.take o ++ cs ++ cur.toList.drop (o + cs.length)).toArray) := by
  have hl := run_loadCells_list (P := P) w a cs hsrc
  have hst := run_storeCells_at P g o t cs 0 cur w hg (by simpa using hfit) h1
  cases hq : P.info? elem with
  | none => simp [hq] at hs
  | some i =>
    have hi : i.size = k := by simpa [hq] using hs
    have hn' : Nat.min sLen dLen * i.size = cs.length := by rw [hi, hn]
    simp [Builtin.copy_, run_underlying hu, Builtin.lenOf, Builtin.firstCells, sizeOf, typeInfo, hq, hn', hl, hst]

theorem run_clearK (w : World) (t e : TypeId) (z : Value) (ht : P.underlying t = some (.slice e)) (hv : ∀ w, (zeroValue e).run P w = .ok z w) (h1 : ∀ v ∈ z.cells.toList, v.oneCell' = true)
    (g o n c : Nat) (cur : Array Value) (T : TypeId) (hg : w.heap[g]? = some (.cells cur T (0, 0))) (hfit : o + n * z.cells.size ≤ cur.size) (hz : 0 < z.cells.size) :
    ∃ cur' : Array Value, (∀ ty, (Builtin.clear_ #[t] ty #[.slice (some ⟨g, o, none⟩) n c]).run P w = .ok (.tuple #[]) (w.setRow g cur')) ∧ cur'.size = cur.size ∧ cur'.toList.take o = cur.toList.take o := by
  cases n with
  | zero =>
    refine ⟨cur, fun ty => ?_, rfl, rfl⟩
    have : w.setRow g cur = w := setRow_self w g cur T (0, 0) hg
    rw [this]
    simp [Builtin.clear_, run_underlying ht]
  | succ m =>
    have hlen : (Builtin.zeroCells z.cells (m + 1)).toList.length = (m + 1) * z.cells.size := by simp [Builtin.zeroCells]
    have hone : ∀ v ∈ (Builtin.zeroCells z.cells (m + 1)).toList, v.oneCell' = true := by
      intro v hv
      simp only [Builtin.zeroCells, Array.toList_map, List.mem_map, Array.toList_range, List.mem_range] at hv
      obtain ⟨i, hi, rfl⟩ := hv
      have hlt : i % z.cells.size < z.cells.size := Nat.mod_lt _ hz
      refine h1 _ ?_
      rw [getElem!_pos z.cells (i % z.cells.size) hlt]
      simp
    have hst := run_storeCells_at P g o T (Builtin.zeroCells z.cells (m + 1)).toList 0 cur w hg (by rw [hlen]; simpa using hfit) hone
    refine ⟨_, fun ty => by simp [Builtin.clear_, run_underlying ht, hv]; rw [hst]; rfl, ?_, ?_⟩
    · simp only [Nat.add_zero, List.size_toArray, List.length_append, List.length_take, List.length_drop, Array.length_toList, hlen]
      omega
    · simp only [Nat.add_zero]
      rw [List.append_assoc, List.take_append_of_le_length (by rw [List.length_take, Array.length_toList]; omega), List.take_take]
      congr 1; omega

theorem run_append_zeros_grow (w : World) (t tn ty e : TypeId) (i : TypeInfo) (z : Value) (ht : P.underlying t = some (.slice e)) (htn : P.underlying tn = some (.int .i64)) (hi : P.info? e = some i) (hz : i.zero = some z)
    (b : Addr) (sLen sCap : Nat) (olds : List Value) (hlo : olds.length = sLen * i.size) (holds : ∀ j v, olds[j]? = some v → w.cell? (b.add j) = some v)
    (n : Nat) (hn0 : 0 < n * i.size) (hg : sCap < sLen + n) (h63 : sLen + n ≤ 1000000) (hby : i.bytes ≤ 1000) (hfit : Builtin.nextslicecap (sLen + n) sCap * i.bytes ≤ 281474976710656) :
    (Builtin.append_ #[t, tn] ty #[.slice (some b) sLen sCap, .int .i64 n]).run P w =
      .ok (.slice (some ⟨w.heap.size, 0, none⟩) (sLen + n) (grownCap w (sLen + n) sCap e))
        (w.drew.alloc (.cells (olds.toArray ++ Builtin.zeroCells z.cells n ++ Builtin.zeroCells z.cells (grownCap w (sLen + n) sCap e - (sLen + n))) e)) := by
  have hn : ¬ (sLen + n ≤ sCap) := by omega
  have hw : IntKind.i64.wrap (n : Int) = n := IntWalk.i64_in _ (by omega)
  have h63' : ¬ (9223372036854775807 < ((sLen : Int) + (n : Int))) := by omega
  have h48' : ¬ (281474976710656 < Builtin.nextslicecap (sLen + n) sCap * i.bytes) := by omega
  have hmul : n * i.bytes ≤ 1000000 * 1000 := Nat.mul_le_mul (by omega) hby
  have hneg : ¬ ((n : Int) < 0) := by omega
  have h48i : ¬ ((281474976710656 : Int) < (n : Int) * (i.bytes : Int)) := by
    have : ((n * i.bytes : Nat) : Int) = (n : Int) * (i.bytes : Int) := by push_cast; rfl
    omega
  have hne : ¬ (n * i.size = 0) := by omega
  have hfo := run_firstCells_some (P := P) w.drew i.size sLen b sLen sCap olds hlo (by simpa using holds)
  simp [Builtin.append_, run_underlying ht, run_underlying htn, sizeOf, typeInfo, zeroValue, hi, hz, hn, hw, hneg, h48i, hne, h63', h48', Question.forced, hfo, newRow, grownCap, asInt, asIntOf]
end

section
variable {α : Type} {E : Enc α} {e : TypeId} {w : World} {base : Nat}
/-- an owned row's block -/
theorem Enc.Own.blk {g n cap : Nat} {xs : List α} (h : E.Own e w base (.slice (some ⟨g, 0, none⟩) n cap) xs) :
    n = xs.length ∧ base ≤ g ∧ n ≤ cap ∧ cap ≤ maxLen ∧ ∃ cur : Array Value, w.heap[g]? = some (.cells cur e (0, 0)) ∧ cur.size = cap * E.sz ∧ cur.toList.take (n * E.sz) = xs.flatMap E.c := by
  obtain ⟨h1, h2⟩ := h
  rcases h2 with ⟨h2, _⟩ | ⟨g', c, cur, h2, h3, h4, h5, h6, h7, h8⟩
  · cases h2
  · simp at h2
    obtain ⟨rfl, rfl, rfl⟩ := h2
    exact ⟨rfl, h3, h5, h6, cur, h4, h7, h8⟩
theorem Enc.Own.ofBlk {g n cap : Nat} {xs : List α} {cur : Array Value} (hn : n = xs.length) (hb : base ≤ g) (hc : n ≤ cap) (hm : cap ≤ maxLen) (hg : w.heap[g]? = some (.cells cur e (0, 0))) (hs : cur.size = cap * E.sz)
    (ht : cur.toList.take (n * E.sz) = xs.flatMap E.c) : E.Own e w base (.slice (some ⟨g, 0, none⟩) n cap) xs := by
  subst hn
  exact ⟨flat_len E xs, .inr ⟨g, cap, cur, rfl, hb, hg, hc, hm, hs, ht⟩⟩
theorem flat_take (E : Enc α) (xs : List α) (i : Nat) (h : i ≤ xs.length) : (xs.flatMap E.c).take (i * E.sz) = (xs.take i).flatMap E.c := by
  have e1 : xs.flatMap E.c = (xs.take i).flatMap E.c ++ (xs.drop i).flatMap E.c := by rw [← List.flatMap_append, List.take_append_drop]
  rw [e1, List.take_append_of_le_length (by rw [flat_len, List.length_take, Nat.min_eq_left h]; exact Nat.le_refl _), List.take_of_length_le (by rw [flat_len, List.length_take, Nat.min_eq_left h]; exact Nat.le_refl _)]
theorem flat_drop (E : Enc α) (xs : List α) (i : Nat) (h : i ≤ xs.length) : (xs.flatMap E.c).drop (i * E.sz) = (xs.drop i).flatMap E.c := by
  have e1 : xs.flatMap E.c = (xs.take i).flatMap E.c ++ (xs.drop i).flatMap E.c := by rw [← List.flatMap_append, List.take_append_drop]
  have e2 : i * E.sz = ((xs.take i).flatMap E.c).length := by rw [flat_len, List.length_take, Nat.min_eq_left h]
  rw [e1, e2, List.drop_left]
theorem Enc.Own.trunc {g n cap : Nat} {xs : List α} (h : E.Own e w base (.slice (some ⟨g, 0, none⟩) n cap) xs) (i : Nat) (hi : i ≤ n) : E.Own e w base (.slice (some ⟨g, 0, none⟩) i cap) (xs.take i) := by
  obtain ⟨h1, h2, h3, h4, cur, h5, h6, h7⟩ := h.blk
  refine Enc.Own.ofBlk (by rw [List.length_take]; omega) h2 (by omega) h4 h5 h6 ?_
  rw [← flat_take E xs i (by omega), ← h7, List.take_take, Nat.min_eq_left (Nat.mul_le_mul_right _ hi)]
theorem setRow_at (w : World) (g : Nat) (cs cur : Array Value) (T : TypeId) (h : w.heap[g]? = some (.cells cur T (0, 0))) : (w.setRow g cs).heap[g]? = some (.cells cs T (0, 0)) := setRow_heap w g cur cs T (0, 0) h
theorem setRow_grown (w : World) (g : Nat) (cs : Array Value) : w.grownBy (w.setRow g cs) (some g) := ⟨rfl, rfl, rfl, by simp [World.setRow], fun k _ hk => setRow_other w g k cs (fun e => hk (by rw [e]))⟩
theorem grown_trans {a b c : World} {row : Option Nat} (h : a.grownBy b row) (k : b.grownBy c row) : a.grownBy c row :=
  ⟨k.os.trans h.os, k.tape.trans h.tape, k.output.trans h.output, Nat.le_trans h.size k.size, fun i hi hr => (k.block i (Nat.lt_of_lt_of_le hi h.size) hr).trans (h.block i hi hr)⟩
theorem grown_bl {a b : World} {row : Option Nat} (h : Bl a b) : a.grownBy b row := ⟨h.os, h.tape, h.output, h.size, fun i hi _ => h.block i hi⟩
theorem Enc.Own.ne_blk {v : Value} {xs : List α} {b : Nat} {cs : Array Value} {T : TypeId} (h : E.Own e w base v xs) (hk : Blk w b cs T) (hT : e ≠ T) : v.ownBlock ≠ some b := fun he => by
  rcases h.parts with ⟨rfl, _⟩ | ⟨g, c, rfl, _⟩
  · cases he
  · have hg : g = b := by injection he
    subst hg
    obtain ⟨_, _, _, _, cur, h5, _⟩ := h.blk
    unfold Blk at hk
    rw [h5] at hk
    simp at hk
    exact hT hk.2
/-- an element of two cells is written -/
theorem Enc.Own.store2 {g n cap : Nat} {xs : List α} (h : E.Own e w base (.slice (some ⟨g, 0, none⟩) n cap) xs) (hE : E.sz = 2) (j : Nat) (y : α) (a b : Value) (hy : E.c y = [a, b]) :
    E.Own e ((w.setCell ⟨g, j * 2, none⟩ a).setCell ⟨g, j * 2 + 1, none⟩ b) base (.slice (some ⟨g, 0, none⟩) n cap) (xs.set j y) := by
  obtain ⟨rfl, h2, h3, h4, cur, h5, h6, h7⟩ := h.blk
  have hf : ∀ (l : List α) (j : Nat), ((l.flatMap E.c).set (j * 2) a).set (j * 2 + 1) b = (l.set j y).flatMap E.c := by
    intro l
    induction l with
    | nil => intro j; rfl
    | cons x l ih =>
      intro j
      have hx : (E.c x).length = 2 := by rw [E.len, hE]
      cases j with
      | zero =>
        rw [List.set_cons_zero, List.flatMap_cons, List.flatMap_cons, hy]
        match hc : E.c x, hx with
        | [p, q], _ => rfl
      | succ j =>
        rw [List.set_cons_succ, List.flatMap_cons, List.flatMap_cons, ← ih j, Nat.succ_mul, List.set_append_right _ _ (by omega), List.set_append_right _ _ (by omega), hx]
        congr 2 <;> omega
  have c1 := setCell_at w g (j * 2) a cur e _ h5
  have c2 := setCell_at _ g (j * 2 + 1) b _ e _ c1
  refine Enc.Own.ofBlk (by rw [List.length_set]) h2 h3 h4 c2 (by simpa using h6) ?_
  rw [Array.toList_setIfInBounds, Array.toList_setIfInBounds, List.take_set, List.take_set, h7, hf]
theorem Enc.Own.at2 {g n cap : Nat} {xs : List α} (h : E.Own e w base (.slice (some ⟨g, 0, none⟩) n cap) xs) (hE : E.sz = 2) (j : Nat) (hj : j < xs.length) (a b : Value) (hy : E.c xs[j] = [a, b]) :
    w.cell? ⟨g, j * 2, none⟩ = some a ∧ w.cell? ⟨g, j * 2 + 1, none⟩ = some b ∧ w.frozen? ⟨g, j * 2, none⟩ = false ∧ w.frozen? ⟨g, j * 2 + 1, none⟩ = false := by
  obtain ⟨rfl, h2, h3, h4, cur, h5, h6, h7⟩ := h.blk
  have f1 := flat_get E xs j _ (List.getElem?_eq_getElem hj) 0 a (by rw [hy]; rfl)
  have f2 := flat_get E xs j _ (List.getElem?_eq_getElem hj) 1 b (by rw [hy]; rfl)
  rw [hE] at f1 f2 h7
  rw [← h7, List.getElem?_take, if_pos (by omega), Nat.add_zero, Array.getElem?_toList] at f1
  rw [← h7, List.getElem?_take, if_pos (by omega), Array.getElem?_toList] at f2
  exact ⟨by rw [cell_of_row w g _ cur e (0, 0) h5]; exact f1, by rw [cell_of_row w g _ cur e (0, 0) h5]; exact f2, frozen_of_row w g _ cur e h5, frozen_of_row w g _ cur e h5⟩
end
end Go.Ov

/- What an insertion leaves in a block, in plain words; the runs of copy and overlaps that it takes. No program in sight. -/
namespace Go.Ov
open Go.RowKit

theorem addr_add (g o j : Nat) : (⟨g, o, none⟩ : Addr).add j = ⟨g, o + j, none⟩ := by unfold Addr.add; split <;> simp_all
theorem addr_add0 (g j : Nat) : (⟨g, 0, none⟩ : Addr).add j = ⟨g, j, none⟩ := by rw [addr_add, Nat.zero_add]
/-- cells laid over a list from a place on -/
def lay {α : Type} (L : List α) (o : Nat) (cs : List α) : List α := L.take o ++ cs ++ L.drop (o + cs.length)
theorem lay_len {α : Type} (L : List α) (o : Nat) (cs : List α) (h : o + cs.length ≤ L.length) : (lay L o cs).length = L.length := by simp [lay]; omega
theorem lay_take {α : Type} (L : List α) (o : Nat) (cs : List α) (h : o ≤ L.length) : (lay L o cs).take o = L.take o := by
  unfold lay
  rw [List.append_assoc, List.take_append_of_le_length (by rw [List.length_take]; omega), List.take_take, Nat.min_self]
theorem lay_upto {α : Type} (L : List α) (o : Nat) (cs : List α) (h : o ≤ L.length) : (lay L o cs).take (o + cs.length) = L.take o ++ cs := by
  unfold lay
  rw [List.take_append_of_le_length (by simp; omega), List.take_of_length_le (by simp; omega)]
theorem lay_drop {α : Type} (L : List α) (o : Nat) (cs : List α) (h : o ≤ L.length) : (lay L o cs).drop (o + cs.length) = L.drop (o + cs.length) := by
  unfold lay
  rw [List.drop_append_of_le_length (by simp; omega), List.drop_of_length_le (by simp; omega), List.nil_append]
/-- first X at a, then D behind it -/
theorem lay_two {α : Type} (L X D : List α) (a : Nat) (h : a + X.length + D.length ≤ L.length) :
    (lay (lay L a X) (a + X.length) D).take (a + X.length + D.length) = L.take a ++ X ++ D := by
  rw [lay_upto _ _ _ (by rw [lay_len _ _ _ (by omega)]; omega), lay_upto _ _ _ (by omega)]
/-- first D behind a gap, then X into the gap -/
theorem lay_gap {α : Type} (L X D : List α) (a : Nat) (h : a + X.length + D.length ≤ L.length) :
    (lay (lay L (a + X.length) D) a X).take (a + X.length + D.length) = L.take a ++ X ++ D := by
  have h1 : (lay L (a + X.length) D).length = L.length := lay_len _ _ _ h
  have h2 : (lay L (a + X.length) D).take a = L.take a := by
    have := congrArg (List.take a) (lay_take L (a + X.length) D (by omega))
    rwa [List.take_take, List.take_take, Nat.min_eq_left (by omega)] at this
  rw [List.take_add, lay_upto _ _ _ (by omega), lay_drop _ _ _ (by omega), h2]
  congr 1
  have h3 := lay_upto L (a + X.length) D (by omega)
  have h4 := congrArg (List.drop (a + X.length)) h3
  rw [List.drop_take] at h4
  rw [show a + X.length + D.length - (a + X.length) = D.length by omega] at h4
  rw [h4, List.drop_append_of_le_length (by rw [List.length_take]; omega), List.drop_of_length_le (by rw [List.length_take]; omega), List.nil_append]

section
variable {P : Program}
theorem run_copyK (w : World) (dT sT ty elem : TypeId) (k g o dLen dCap : Nat) (a : Addr) (sLen sCap : Nat) (cur : List Value) (t : TypeId) (cs : List Value)
    (hu : P.underlying dT = some (.slice elem)) (hs : (P.info? elem).map (·.size) = some k)
    (hg : w.heap[g]? = some (.cells cur.toArray t (0, 0))) (hn : cs.length = Nat.min sLen dLen * k)
    (hsrc : ∀ j v, cs[j]? = some v → w.cell? (a.add j) = some v) (hfit : o + cs.length ≤ cur.length) (h1 : ∀ v ∈ cs, v.oneCell' = true) :
    (Builtin.copy_ #[dT, sT] ty #[.slice (some ⟨g, o, none⟩) dLen dCap, .slice (some a) sLen sCap]).run P w =
      .ok (goInt (Nat.min sLen dLen)) (w.setRow g (lay cur o cs).toArray) := by
  have := run_copy_rowK (P := P) w dT sT ty elem k g o dLen dCap a sLen sCap cur.toArray t cs hu hs hg hn hsrc (by simpa using hfit) h1
  simpa [lay] using this

theorem wpList_append_run {w w' : World} {ops : Array Oper} {rest : List Oper} {o : Oper} {a : Act} {Q : Exit → Act → World → Prop} (hgd : o.guard = none) (s x : Operand) (t tn : TypeId)
    (ho : o.op = .call { callee := .builtin .append, args := #[s, x], argTypes := #[t, tn] }) (vs vx r : Value) (hs : a.eval s = vs) (hx : a.eval x = vx)
    (hr : (Builtin.append_ #[t, tn] o.type #[vs, vx]).run P w = .ok r w') (h : wpList P ops Q rest (a.put o.dst r) w') : wpList P ops Q (o :: rest) a w := by
  refine wpList_plain hgd fun K hK => ?_
  unfold Oper.wp execOp
  simp only [ho, resolve, invoke, builtin, Sem.run_bind, Sem.run_pure, Result.andThen_ok, List.map_toArray, List.map_cons, List.map_nil, hs, hx, hr]
  exact hK _ _ h
end
end Go.Ov

/- What is kept but for some blocks; rows of bytes in a block of their own; copy. No program in sight. -/
namespace Go.Ov
open Go.RowKit

/-- these blocks are as they were; nothing else is said -/
structure Kp (G : Nat → Bool) (w w' : World) : Prop where
  os : w'.os = w.os
  tape : w'.tape = w.tape
  output : w'.output = w.output
  size : w.heap.size ≤ w'.heap.size
  block : ∀ k, k < w.heap.size → G k = true → w'.heap[k]? = w.heap[k]?
theorem Kp.refl (G : Nat → Bool) (w : World) : Kp G w w := ⟨rfl, rfl, rfl, Nat.le_refl _, fun _ _ _ => rfl⟩
theorem Kp.trans {G : Nat → Bool} {a b c : World} (h : Kp G a b) (k : Kp G b c) : Kp G a c :=
  ⟨k.os.trans h.os, k.tape.trans h.tape, k.output.trans h.output, Nat.le_trans h.size k.size, fun i hi hg => (k.block i (Nat.lt_of_lt_of_le hi h.size) hg).trans (h.block i hi hg)⟩
theorem Kp.of_bl {G : Nat → Bool} {a b : World} (h : Bl a b) : Kp G a b := ⟨h.os, h.tape, h.output, h.size, fun k hk _ => h.block k hk⟩
theorem Kp.of_gb {G : Nat → Bool} {a b : World} {row : Option Nat} (h : a.grownBy b row) (hr : ∀ k, row = some k → G k = false) : Kp G a b :=
  ⟨h.os, h.tape, h.output, h.size, fun k hk hg => h.block k hk (fun e => by rw [hr _ e.symm] at hg; cases hg)⟩
theorem Kp.bl {G : Nat → Bool} {a b c : World} (h : Bl a b) (k : Kp G b c) (hg : ∀ i, i < a.heap.size → G i = true) : Bl a c :=
  ⟨k.os.trans h.os, k.tape.trans h.tape, k.output.trans h.output, Nat.le_trans h.size k.size, fun i hi => (k.block i (Nat.lt_of_lt_of_le hi h.size) (hg i hi)).trans (h.block i hi)⟩
theorem Kp.mono {G G' : Nat → Bool} {a b : World} (h : Kp G a b) (hg : ∀ i, G' i = true → G i = true) : Kp G' a b := ⟨h.os, h.tape, h.output, h.size, fun k hk q => h.block k hk (hg k q)⟩
theorem Kp.drew {G : Nat → Bool} {a b : World} (h : Kp G a b) : Kp G a b.drew := ⟨h.os, h.tape, h.output, h.size, h.block⟩
theorem Kp.grown {G : Nat → Bool} {a b c : World} {row : Option Nat} (h : Kp G a b) (hg : b.grownBy c row) (hr : ∀ k, row = some k → a.heap.size ≤ k) : Kp G a c :=
  ⟨hg.os.trans h.os, hg.tape.trans h.tape, hg.output.trans h.output, Nat.le_trans h.size hg.size, fun i hi q => (hg.block i (Nat.lt_of_lt_of_le hi h.size) (fun e => by have := hr i e.symm; omega)).trans (h.block i hi q)⟩
theorem Kp.sub {G : Nat → Bool} {a b : World} (h : Kp G a b) : Sub (only a G) (only b G) := fun ad v q => by
  obtain ⟨h1, h2⟩ := only_cell q
  refine cell_only h1 ?_
  have hlt := World.block_lt_of_cell? a ad h2
  unfold World.cell? at h2 ⊢
  rw [h.block ad.block hlt h1]; exact h2
theorem Kp.blk {G : Nat → Bool} {a b : World} (h : Kp G a b) {B : Nat} {cs : Array Value} {T : TypeId} (hb : Blk a B cs T) (hg : G B = true) : Blk b B cs T := by
  have hl := hb.lt
  unfold Blk at *
  rw [h.block B hl hg]; exact hb
theorem Kp.own {G : Nat → Bool} {a b : World} (h : Kp G a b) {α : Type} {E : Enc α} {e : TypeId} {base : Nat} {v : Value} {xs : List α} (ho : E.Own e a base v xs) (hg : ∀ k, v.ownBlock = some k → G k = true) : E.Own e b base v xs := by
  refine ⟨ho.1, ?_⟩
  rcases ho.2 with h2 | ⟨g, cap, cur, h1, h2, h3, h4⟩
  · exact .inl h2
  · exact .inr ⟨g, cap, cur, h1, h2, (by rw [h.block g (by by_cases hb : g < a.heap.size; exact hb; rw [Array.getElem?_eq_none (by omega)] at h3; cases h3) (hg g (by rw [h1]; rfl))]; exact h3), h4⟩
theorem sub_old {w w1 : World} (hb : Bl w w1) {G : Nat → Bool} (hG : ∀ k, k < w.heap.size → G k = true) : Sub w (only w1 G) := fun ad _ q => cell_only (hG _ (World.block_lt_of_cell? w ad q)) (hb.cell q)
/-- all but some blocks -/
def nbs (l : List (Option Nat)) : Nat → Bool := fun b => l.all fun o => decide (o ≠ some b)
theorem nbs_iff {l : List (Option Nat)} {b : Nat} : nbs l b = true ↔ some b ∉ l := by
  simp only [nbs, List.all_eq_true, decide_eq_true_eq]
  exact ⟨fun h q => h _ q rfl, fun h o ho e => h (e ▸ ho)⟩
theorem nbs_not {l : List (Option Nat)} {b : Nat} (h : some b ∈ l) : nbs l b = false := by
  cases hq : nbs l b
  · rfl
  · exact absurd h (nbs_iff.1 hq)
def nb2 (B C : Nat) : Nat → Bool := nbs [some B, some C]
theorem nb2_iff {B C b : Nat} : nb2 B C b = true ↔ b ≠ B ∧ b ≠ C := by
  unfold nb2; rw [nbs_iff]; simp
theorem nb2_l (B C : Nat) : nb2 B C B = false := nbs_not (by simp)
theorem nb2_r (B C : Nat) : nb2 B C C = false := nbs_not (by simp)
/-- what lies in new blocks that are none of these -/
def frn (w : World) (l : List (Option Nat)) : Nat → Bool := fun b => fr w b && nbs l b
/-- rows that were written, or are others now: what lay beside them lies there still -/
theorem Kp.step {l l' : List (Option Nat)} {w w' : World} (h : Kp (nbs l) w w') (hl : ∀ o, o ∈ l' → o ∈ l ∨ ∀ g, o = some g → w.heap.size ≤ g) : Sub (only w (nbs l)) (only w' (nbs l')) := fun ad v q => by
  obtain ⟨h1, h2⟩ := only_cell q
  have hlt := World.block_lt_of_cell? w ad h2
  refine cell_only (nbs_iff.2 fun hm => ?_) ?_
  · rcases hl _ hm with h3 | h3
    · exact nbs_iff.1 h1 h3
    · have := h3 _ rfl; omega
  · unfold World.cell? at h2 ⊢
    rw [h.block ad.block hlt h1]; exact h2
theorem Kp.stepF {l l' : List (Option Nat)} {w0 w w' : World} (h : Kp (nbs l) w w') (hl : ∀ o, o ∈ l' → o ∈ l ∨ ∀ g, o = some g → w.heap.size ≤ g) : Sub (only w (frn w0 l)) (only w' (frn w0 l')) := fun ad v q => by
  obtain ⟨h1, h2⟩ := only_cell q
  unfold frn at h1
  simp only [Bool.and_eq_true] at h1
  have h3 := h.step hl ad v (cell_only h1.2 h2)
  obtain ⟨h4, h5⟩ := only_cell h3
  exact cell_only (by unfold frn; simp only [Bool.and_eq_true]; exact ⟨h1.1, h4⟩) h5
theorem Lies.step {w : World} {row row' : Option Nat} (h : Lies w row row') : ∀ l : List (Option Nat), row ∈ l → (row' ∈ l ∨ ∀ g, row' = some g → w.heap.size ≤ g) := fun l hr => by
  rcases h with rfl | ⟨g, rfl, h⟩
  · exact .inl hr
  · exact .inr fun g' e => by injection e with e; omega

/-- bytes as cells -/
def rowB (xs : List Int) : Array Value := (xs.map (Value.int .u8)).toArray
theorem rowB_list (xs : List Int) : (rowB xs).toList = xs.map (Value.int .u8) := rfl
theorem rowB_size (xs : List Int) : (rowB xs).size = xs.length := by simp [rowB]
theorem rowB_at (xs : List Int) (i : Nat) (h : i < xs.length) : (rowB xs)[i]? = some (.int .u8 xs[i]) := by simp [rowB, h]
theorem own_row {T : TypeId} {w : World} {g base : Nat} {xs : List Int} (h : Blk w g (rowB xs) T) (hb : base ≤ g) {n : Nat} (hn : n = xs.length) (hm : n ≤ maxLen) : byteE.Own T w base (.slice (some ⟨g, 0, none⟩) n n) xs := by
  subst hn
  refine ⟨by rw [byte_flat]; simp [byteE], .inr ⟨g, xs.length, rowB xs, rfl, hb, h, Nat.le_refl _, hm, by rw [rowB_size]; exact (Nat.mul_one _).symm, ?_⟩⟩
  rw [byte_flat, rowB_list, List.take_of_length_le (by simp [byteE])]
theorem row_made (n : Nat) : madeCells #[.int .u8 0] n = rowB (List.replicate n 0) := by
  apply Array.toList_inj.1
  rw [toList_madeCells_one, rowB_list, List.map_replicate]
/-- a row of one's own, whole, when its room is just full -/
theorem byte_is_cells {w : World} {A : Option Addr} {c : Nat} {l : List Int} (h : byteE.Is w (.slice A l.length c) l) (k : Nat) (hk : k < l.length) : ∃ ad, A = some ad ∧ w.cell? (ad.add k) = some (.int .u8 l[k]) := by
  obtain ⟨A', c', e, _, _, _, hat⟩ := h
  simp only [Value.slice.injEq] at e
  obtain ⟨rfl, -, -⟩ := e
  exact byte_at hat k hk
theorem byte_copy {P : Program} (w : World) (dT sT ty T : TypeId) (g o n cap : Nat) (A : Option Addr) (c : Nat) (xs l : List Int) (t : TypeId)
    (hu : P.underlying dT = some (.slice T)) (hs : (P.info? T).map (·.size) = some 1) (hg : Blk w g (rowB xs) t) (hl : byteE.Is w (.slice A l.length c) l) (hne : l ≠ []) (hfit : o + min l.length n ≤ xs.length) :
    (Builtin.copy_ #[dT, sT] ty #[.slice (some ⟨g, o, none⟩) n cap, .slice A l.length c]).run P w = .ok (goInt (min l.length n : Nat)) (w.setRow g (rowB (lay xs o (l.take (min l.length n))))) := by
  have h0 : 0 < l.length := List.length_pos_iff.2 hne
  obtain ⟨ad, rfl, _⟩ := byte_is_cells hl 0 h0
  have hlen : (l.take (min l.length n)).length = min l.length n := by rw [List.length_take]; omega
  have h1 := run_copyK (P := P) w dT sT ty T 1 g o n cap ad l.length c (xs.map (.int .u8)) t ((l.take (min l.length n)).map (.int .u8)) hu hs hg (by rw [List.length_map, hlen, Nat.mul_one])
    (fun j v hv => by
      have hj : j < ((l.take (min l.length n)).map (Value.int .u8)).length := (List.getElem?_eq_some_iff.1 hv).1
      rw [List.length_map, hlen] at hj
      obtain ⟨ad', e, hc⟩ := byte_is_cells hl j (by omega)
      injection e with e
      subst e
      rw [hc, ← hv]
      simp only [List.getElem?_map]
      rw [List.getElem?_take, if_pos hj, List.getElem?_eq_getElem (by omega)]; rfl) (by rw [List.length_map, hlen, List.length_map]; exact hfit)
    (fun v hv => by obtain ⟨x, -, rfl⟩ := List.mem_map.1 hv; rfl)
  refine h1.trans ?_
  have e : (lay (xs.map (Value.int .u8)) o ((l.take (min l.length n)).map (Value.int .u8))).toArray = rowB (lay xs o (l.take (min l.length n))) := by
    unfold rowB lay
    simp only [List.map_append, List.map_take, List.map_drop, List.length_take, List.length_map]
  rw [e]
theorem blk_setRow {w : World} {g : Nat} {cs cs' : Array Value} {T : TypeId} (h : Blk w g cs T) : Blk (w.setRow g cs') g cs' T := setRow_at w g cs' cs T h
/-- rows of bytes -/
def BRows (w : World) (hs : List Head) (ls : List (List Int)) : Prop := hs.length = ls.length ∧ ∀ (i : Nat) h l, hs[i]? = some h → ls[i]? = some l → byteE.Is w h.v l
theorem BRows.sub {w w' : World} {hs : List Head} {ls : List (List Int)} (h : BRows w hs ls) (hb : Sub w w') : BRows w' hs ls := ⟨h.1, fun i x l hx hl => hb.is (h.2 i x l hx hl)⟩
theorem BRows.nil (w : World) : BRows w [] [] := ⟨rfl, fun i h l hh => by simp at hh⟩
theorem BRows.cons {w : World} {hs : List Head} {ls : List (List Int)} {x : Head} {l : List Int} (hx : byteE.Is w x.v l) (h : BRows w hs ls) : BRows w (x :: hs) (l :: ls) := by
  refine ⟨by simp [h.1], fun i y m hy hm => ?_⟩
  cases i with
  | zero => simp at hy hm; subst hy; subst hm; exact hx
  | succ i => simp at hy hm; exact h.2 i y m hy hm
theorem BRows.snoc {w : World} {hs : List Head} {ls : List (List Int)} {x : Head} {l : List Int} (h : BRows w hs ls) (hx : byteE.Is w x.v l) : BRows w (hs ++ [x]) (ls ++ [l]) := by
  refine ⟨by simp [h.1], fun i y m hy hm => ?_⟩
  by_cases hi : i < hs.length
  · rw [List.getElem?_append_left hi] at hy
    rw [List.getElem?_append_left (by rw [← h.1]; exact hi)] at hm
    exact h.2 i y m hy hm
  · rw [List.getElem?_append_right (by omega)] at hy
    rw [List.getElem?_append_right (by rw [← h.1]; omega), ← h.1] at hm
    cases hk : i - hs.length with
    | zero => rw [hk] at hy hm; simp at hy hm; subst hy; subst hm; exact hx
    | succ k => rw [hk] at hy; simp at hy
section
variable {α : Type} {E : Enc α}
theorem Enc.Own.appendL {P : Program} {w : World} {ops : Array Oper} {rest : List Oper} {o : Oper} {a : Act} {Q : Exit → Act → World → Prop} (hgd : o.guard = none) (s x : Operand) (t : TypeId)
    (ho : o.op = .call { callee := .builtin .append, args := #[s, x], argTypes := #[t, t] })
    (base : Nat) (e : TypeId) (z : Value) (size bytes : Nat) (ht : P.underlying t = some (.slice e)) (hinfo : (P.info? e).map (fun i => (i.zero, i.size, i.bytes)) = some (some z, size, bytes))
    (hE : E.sz = size) (hzs : z.cells.size = size) (hsz : 0 < size) (hby : 0 < bytes)
    (v : Value) (xs : List α) (hs : a.eval s = v) (hown : E.Own e w base v xs)
    (u : Value) (ys : List α) (hx : a.eval x = u) (his : E.Is w u ys) (hne : ys ≠ [])
    (hlen : (xs.length + ys.length) * bytes ≤ 140737488355328) (hbase : base ≤ w.heap.size)
    (h : ∀ v' w', E.Own e w' base v' (xs ++ ys) → w.grownBy w' v.ownBlock → Lies w v.ownBlock v'.ownBlock → wpList P ops Q rest (a.put o.dst v') w') : wpList P ops Q (o :: rest) a w :=
  wpList_plain hgd fun _ hK => Enc.Own.wpAppendL s x t ho base e z size bytes ht hinfo hE hzs hsz hby v xs hs hown u ys hx his hne hlen hbase fun v' w' h1 h2 h3 => hK _ _ (h v' w' h1 h2 h3)
theorem Enc.Is.lit1 {e : TypeId} (w : World) (y : α) (cs : Array Value) (hcs : cs.toList = E.c y) {N : Nat} (hN : N = w.heap.size) : E.Is (w.alloc (.cells cs e)) (.slice (some ⟨N, 0, none⟩) 1 1) [y] :=
  (Enc.Own.lit (E := E) w 0 [y] cs (by simpa using hcs) 1 rfl (Nat.zero_le _) (by decide) hN).is
end
end Go.Ov
