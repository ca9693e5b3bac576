/- Blocks written in place: copy, clear, an append of zero values, at elements of several cells. No program in sight. -/
import Derived.Test.YtoocebghlchcoaaGreatLib4
import Derived.Laws.CopyOwn
import Derived.Lib.Overlaps
import Derived.Lib.SliceRun
import Derived.IntWalk
namespace Go.Ov
open Go.RowKit

section
variable {P : Program}

theorem run_copy_rowK (w : World) (dT sT ty elem : TypeId) (k g o dLen dCap : Nat) (a : Addr) (sLen sCap : Nat) (cur : Array Value) (t : TypeId) (cs : List Value)
    (hu : P.underlying dT = some (.slice elem)) (hs : (P.info? elem).map (·.size) = some k)
    (hg : w.heap[g]? = some (.cells cur t (0, 0))) (hn : cs.length = Nat.min sLen dLen * k)
    (hsrc : ∀ j v, cs[j]? = some v → w.cell? (a.add j) = some v) (hfit : o + cs.length ≤ cur.size) (h1 : ∀ v ∈ cs, v.oneCell' = true) :
    (Builtin.copy_ #[dT, sT] ty #[.slice (some ⟨g, o, none⟩) dLen dCap, .slice (some a) sLen sCap]).run P w =
      .ok (goInt (Nat.min sLen dLen)) (w.setRow g (cur.toList.take o ++ cs ++ cur.toList.drop (o + cs.length)).toArray) := by
  have hl := run_loadCells_list (P := P) w a cs hsrc
  have hst := run_storeCells_at P g o t cs 0 cur w hg (by simpa using hfit) h1
  cases hq : P.info? elem with
  | none => simp [hq] at hs
  | some i =>
    have hi : i.size = k := by simpa [hq] using hs
    have hn' : Nat.min sLen dLen * i.size = cs.length := by rw [hi, hn]
    simp [Builtin.copy_, run_underlying hu, Builtin.lenOf, Builtin.firstCells, sizeOf, typeInfo, hq, hn', hl, hst]

theorem run_clearK (w : World) (t e : TypeId) (z : Value) (ht : P.underlying t = some (.slice e)) (hv : ∀ w, (zeroValue e).run P w = .ok z w) (h1 : ∀ v ∈ z.cells.toList, v.oneCell' = true)
    (g o n c : Nat) (cur : Array Value) (T : TypeId) (hg : w.heap[g]? = some (.cells cur T (0, 0))) (hfit : o + n * z.cells.size ≤ cur.size) (hz : 0 < z.cells.size) :
    ∃ cur' : Array Value, (∀ ty, (Builtin.clear_ #[t] ty #[.slice (some ⟨g, o, none⟩) n c]).run P w = .ok (.tuple #[]) (w.setRow g cur')) ∧ cur'.size = cur.size ∧ cur'.toList.take o = cur.toList.take o := by
  cases n with
  | zero =>
    refine ⟨cur, fun ty => ?_, rfl, rfl⟩
    have : w.setRow g cur = w := setRow_self w g cur T (0, 0) hg
    rw [this]
    simp [Builtin.clear_, run_underlying ht]
  | succ m =>
    have hlen : (Builtin.zeroCells z.cells (m + 1)).toList.length = (m + 1) * z.cells.size := by simp [Builtin.zeroCells]
    have hone : ∀ v ∈ (Builtin.zeroCells z.cells (m + 1)).toList, v.oneCell' = true := by
      intro v hv
      simp only [Builtin.zeroCells, Array.toList_map, List.mem_map, Array.toList_range, List.mem_range] at hv
      obtain ⟨i, hi, rfl⟩ := hv
      have hlt : i % z.cells.size < z.cells.size := Nat.mod_lt _ hz
      refine h1 _ ?_
      rw [getElem!_pos z.cells (i % z.cells.size) hlt]
      simp
    have hst := run_storeCells_at P g o T (Builtin.zeroCells z.cells (m + 1)).toList 0 cur w hg (by rw [hlen]; simpa using hfit) hone
    refine ⟨_, fun ty => by simp [Builtin.clear_, run_underlying ht, hv]; rw [hst]; rfl, ?_, ?_⟩
    · simp only [Nat.add_zero, List.size_toArray, List.length_append, List.length_take, List.length_drop, Array.length_toList, hlen]
      omega
    · simp only [Nat.add_zero]
      rw [List.append_assoc, List.take_append_of_le_length (by rw [List.length_take, Array.length_toList]; omega), List.take_take]
      congr 1; omega

theorem run_append_zeros_grow (w : World) (t tn ty e : TypeId) (i : TypeInfo) (z : Value) (ht : P.underlying t = some (.slice e)) (htn : P.underlying tn = some (.int .i64)) (hi : P.info? e = some i) (hz : i.zero = some z)
    (b : Addr) (sLen sCap : Nat) (olds : List Value) (hlo : olds.length = sLen * i.size) (holds : ∀ j v, olds[j]? = some v → w.cell? (b.add j) = some v)
    (n : Nat) (hn0 : 0 < n * i.size) (hg : sCap < sLen + n) (h63 : sLen + n ≤ 1000000) (hby : i.bytes ≤ 1000) (hfit : Builtin.nextslicecap (sLen + n) sCap * i.bytes ≤ 281474976710656) :
    (Builtin.append_ #[t, tn] ty #[.slice (some b) sLen sCap, .int .i64 n]).run P w =
      .ok (.slice (some ⟨w.heap.size, 0, none⟩) (sLen + n) (grownCap w (sLen + n) sCap e))
        (w.drew.alloc (.cells (olds.toArray ++ Builtin.zeroCells z.cells n ++ Builtin.zeroCells z.cells (grownCap w (sLen + n) sCap e - (sLen + n))) e)) := by
  have hn : ¬ (sLen + n ≤ sCap) := by omega
  have hw : IntKind.i64.wrap (n : Int) = n := IntWalk.i64_in _ (by omega)
  have h63' : ¬ (9223372036854775807 < ((sLen : Int) + (n : Int))) := by omega
  have h48' : ¬ (281474976710656 < Builtin.nextslicecap (sLen + n) sCap * i.bytes) := by omega
  have hmul : n * i.bytes ≤ 1000000 * 1000 := Nat.mul_le_mul (by omega) hby
  have hneg : ¬ ((n : Int) < 0) := by omega
  have h48i : ¬ ((281474976710656 : Int) < (n : Int) * (i.bytes : Int)) := by
    have : ((n * i.bytes : Nat) : Int) = (n : Int) * (i.bytes : Int) := by push_cast; rfl
    omega
  have hne : ¬ (n * i.size = 0) := by omega
  have hfo := run_firstCells_some (P := P) w.drew i.size sLen b sLen sCap olds hlo (by simpa using holds)
  simp [Builtin.append_, run_underlying ht, run_underlying htn, sizeOf, typeInfo, zeroValue, hi, hz, hn, hw, hneg, h48i, hne, h63', h48', Question.forced, hfo, newRow, grownCap, asInt, asIntOf]
end

section
variable {α : Type} {E : Enc α} {e : TypeId} {w : World} {base : Nat}
/-- an owned row's block -/
theorem Enc.Own.blk {g n cap : Nat} {xs : List α} (h : E.Own e w base (.slice (some ⟨g, 0, none⟩) n cap) xs) :
    n = xs.length ∧ base ≤ g ∧ n ≤ cap ∧ cap ≤ maxLen ∧ ∃ cur : Array Value, w.heap[g]? = some (.cells cur e (0, 0)) ∧ cur.size = cap * E.sz ∧ cur.toList.take (n * E.sz) = xs.flatMap E.c := by
  obtain ⟨h1, h2⟩ := h
  rcases h2 with ⟨h2, _⟩ | ⟨g', c, cur, h2, h3, h4, h5, h6, h7, h8⟩
  · cases h2
  · simp at h2
    obtain ⟨rfl, rfl, rfl⟩ := h2
    exact ⟨rfl, h3, h5, h6, cur, h4, h7, h8⟩
theorem Enc.Own.ofBlk {g n cap : Nat} {xs : List α} {cur : Array Value} (hn : n = xs.length) (hb : base ≤ g) (hc : n ≤ cap) (hm : cap ≤ maxLen) (hg : w.heap[g]? = some (.cells cur e (0, 0))) (hs : cur.size = cap * E.sz)
    (ht : cur.toList.take (n * E.sz) = xs.flatMap E.c) : E.Own e w base (.slice (some ⟨g, 0, none⟩) n cap) xs := by
  subst hn
  exact ⟨flat_len E xs, .inr ⟨g, cap, cur, rfl, hb, hg, hc, hm, hs, ht⟩⟩
theorem flat_take (E : Enc α) (xs : List α) (i : Nat) (h : i ≤ xs.length) : (xs.flatMap E.c).take (i * E.sz) = (xs.take i).flatMap E.c := by
  have e1 : xs.flatMap E.c = (xs.take i).flatMap E.c ++ (xs.drop i).flatMap E.c := by rw [← List.flatMap_append, List.take_append_drop]
  rw [e1, List.take_append_of_le_length (by rw [flat_len, List.length_take, Nat.min_eq_left h]; exact Nat.le_refl _), List.take_of_length_le (by rw [flat_len, List.length_take, Nat.min_eq_left h]; exact Nat.le_refl _)]
theorem flat_drop (E : Enc α) (xs : List α) (i : Nat) (h : i ≤ xs.length) : (xs.flatMap E.c).drop (i * E.sz) = (xs.drop i).flatMap E.c := by
  have e1 : xs.flatMap E.c = (xs.take i).flatMap E.c ++ (xs.drop i).flatMap E.c := by rw [← List.flatMap_append, List.take_append_drop]
  have e2 : i * E.sz = ((xs.take i).flatMap E.c).length := by rw [flat_len, List.length_take, Nat.min_eq_left h]
  rw [e1, e2, List.drop_left]
theorem Enc.Own.trunc {g n cap : Nat} {xs : List α} (h : E.Own e w base (.slice (some ⟨g, 0, none⟩) n cap) xs) (i : Nat) (hi : i ≤ n) : E.Own e w base (.slice (some ⟨g, 0, none⟩) i cap) (xs.take i) := by
  obtain ⟨h1, h2, h3, h4, cur, h5, h6, h7⟩ := h.blk
  refine Enc.Own.ofBlk (by rw [List.length_take]; omega) h2 (by omega) h4 h5 h6 ?_
  rw [← flat_take E xs i (by omega), ← h7, List.take_take, Nat.min_eq_left (Nat.mul_le_mul_right _ hi)]
theorem setRow_at (w : World) (g : Nat) (cs cur : Array Value) (T : TypeId) (h : w.heap[g]? = some (.cells cur T (0, 0))) : (w.setRow g cs).heap[g]? = some (.cells cs T (0, 0)) := setRow_heap w g cur cs T (0, 0) h
theorem setRow_grown (w : World) (g : Nat) (cs : Array Value) : w.grownBy (w.setRow g cs) (some g) := ⟨rfl, rfl, rfl, by simp [World.setRow], fun k _ hk => setRow_other w g k cs (fun e => hk (by rw [e]))⟩
theorem setCell_grown (w : World) (g j : Nat) (u : Value) : w.grownBy (w.setCell ⟨g, j, none⟩ u) (some g) := ⟨rfl, rfl, rfl, by simp [World.setCell], fun k _ hk => setCell_else _ _ _ _ _ (fun e => hk (by rw [e]))⟩
theorem grown_trans {a b c : World} {row : Option Nat} (h : a.grownBy b row) (k : b.grownBy c row) : a.grownBy c row :=
  ⟨k.os.trans h.os, k.tape.trans h.tape, k.output.trans h.output, Nat.le_trans h.size k.size, fun i hi hr => (k.block i (Nat.lt_of_lt_of_le hi h.size) hr).trans (h.block i hi hr)⟩
theorem grown_bl {a b : World} {row : Option Nat} (h : Bl a b) : a.grownBy b row := ⟨h.os, h.tape, h.output, h.size, fun i hi _ => h.block i hi⟩
theorem Enc.Own.ne_blk {v : Value} {xs : List α} {b : Nat} {cs : Array Value} {T : TypeId} (h : E.Own e w base v xs) (hk : Blk w b cs T) (hT : e ≠ T) : v.ownBlock ≠ some b := fun he => by
  rcases h.parts with ⟨rfl, _⟩ | ⟨g, c, rfl, _⟩
  · cases he
  · have hg : g = b := by injection he
    subst hg
    obtain ⟨_, _, _, _, cur, h5, _⟩ := h.blk
    unfold Blk at hk
    rw [h5] at hk
    simp at hk
    exact hT hk.2
/-- an element of two cells is written -/
theorem Enc.Own.store2 {g n cap : Nat} {xs : List α} (h : E.Own e w base (.slice (some ⟨g, 0, none⟩) n cap) xs) (hE : E.sz = 2) (j : Nat) (y : α) (a b : Value) (hy : E.c y = [a, b]) :
    E.Own e ((w.setCell ⟨g, j * 2, none⟩ a).setCell ⟨g, j * 2 + 1, none⟩ b) base (.slice (some ⟨g, 0, none⟩) n cap) (xs.set j y) := by
  obtain ⟨rfl, h2, h3, h4, cur, h5, h6, h7⟩ := h.blk
  have hf : ∀ (l : List α) (j : Nat), ((l.flatMap E.c).set (j * 2) a).set (j * 2 + 1) b = (l.set j y).flatMap E.c := by
    intro l
    induction l with
    | nil => intro j; rfl
    | cons x l ih =>
      intro j
      have hx : (E.c x).length = 2 := by rw [E.len, hE]
      cases j with
      | zero =>
        rw [List.set_cons_zero, List.flatMap_cons, List.flatMap_cons, hy]
        match hc : E.c x, hx with
        | [p, q], _ => rfl
      | succ j =>
        rw [List.set_cons_succ, List.flatMap_cons, List.flatMap_cons, ← ih j, Nat.succ_mul, List.set_append_right _ _ (by omega), List.set_append_right _ _ (by omega), hx]
        congr 2 <;> omega
  have c1 := setCell_at w g (j * 2) a cur e _ h5
  have c2 := setCell_at _ g (j * 2 + 1) b _ e _ c1
  refine Enc.Own.ofBlk (by rw [List.length_set]) h2 h3 h4 c2 (by simpa using h6) ?_
  rw [Array.toList_setIfInBounds, Array.toList_setIfInBounds, List.take_set, List.take_set, h7, hf]
theorem Enc.Own.at2 {g n cap : Nat} {xs : List α} (h : E.Own e w base (.slice (some ⟨g, 0, none⟩) n cap) xs) (hE : E.sz = 2) (j : Nat) (hj : j < xs.length) (a b : Value) (hy : E.c xs[j] = [a, b]) :
    w.cell? ⟨g, j * 2, none⟩ = some a ∧ w.cell? ⟨g, j * 2 + 1, none⟩ = some b ∧ w.frozen? ⟨g, j * 2, none⟩ = false ∧ w.frozen? ⟨g, j * 2 + 1, none⟩ = false := by
  obtain ⟨rfl, h2, h3, h4, cur, h5, h6, h7⟩ := h.blk
  have f1 := flat_get E xs j _ (List.getElem?_eq_getElem hj) 0 a (by rw [hy]; rfl)
  have f2 := flat_get E xs j _ (List.getElem?_eq_getElem hj) 1 b (by rw [hy]; rfl)
  rw [hE] at f1 f2 h7
  rw [← h7, List.getElem?_take, if_pos (by omega), Nat.add_zero, Array.getElem?_toList] at f1
  rw [← h7, List.getElem?_take, if_pos (by omega), Array.getElem?_toList] at f2
  exact ⟨by rw [cell_of_row w g _ cur e (0, 0) h5]; exact f1, by rw [cell_of_row w g _ cur e (0, 0) h5]; exact f2, frozen_of_row w g _ cur e h5, frozen_of_row w g _ cur e h5⟩
end
end Go.Ov
