/- Several texts joined (see each one's head). -/
import Derived.Test.YtddcjekkimajpaaGreatPkA
import Derived.Test.YtddcjekkimajpaaGreatPkB
import Derived.Laws.CopyOwn
import Derived.Lib.Overlaps
import Derived.Lib.SliceRun
import Derived.IntWalk
/- Contracts of package state: find, without. -/
namespace Go.Proofs.YtddcjekkimajpaaGreat.ExtW
open Go.RowKit Go.Ov Go.Proofs.YtddcjekkimajpaaGreat.Need

/-- a function value that asks for a track's name -/
def PredOf (K : Nat) : Prop := ∀ (w : World) (i id : Int) (t : Nat) (p : Nat), w.cell? ⟨p, 0, none⟩ = some (.int .i64 id) →
  Calls Tryz.prog K #[.agg #[.int .i64 i, .pointer (some ⟨t, 0, none⟩)], .pointer (some ⟨p, 0, none⟩)] w fun e w' => e = .returned (.bool (i == id)) ∧ Bl w w'
set_option maxHeartbeats 1000000 in
theorem sfind1_pred : PredOf 91 := by
  intro w i id t p hp
  have hpl : p < w.heap.size := World.block_lt_of_cell? _ _ hp
  have hu := Tryz.underlying66
  go_enter Tryz.func91, Tryz.ntmps91
  go_wp2_with fail
  go_ret
  exact ⟨rfl, (Bl.refl _).alloc _⟩
set_option maxHeartbeats 1000000 in
theorem swithout1_pred : PredOf 102 := by
  intro w i id t p hp
  have hpl : p < w.heap.size := World.block_lt_of_cell? _ _ hp
  have hu := Tryz.underlying66
  go_enter Tryz.func102, Tryz.ntmps102
  go_wp2_with fail
  go_ret
  exact ⟨rfl, (Bl.refl _).alloc _⟩

set_option maxRecDepth 100000 in
set_option maxHeartbeats 1000000 in
theorem idx_sfind1 (v : Value) (hs : List TH) (id : Int) (p : Nat) (w : World) (h : trackE.Is w v hs) (hp : w.cell? ⟨p, 0, none⟩ = some (.int .i64 id)) :
    Calls Tryz.prog 90 #[v, .func (.func 91) #[] #[.pointer (some ⟨p, 0, none⟩)]] w fun e w' => e = .returned (.int .i64 (idxFrom id 0 (hs.map TH.id))) ∧ Bl w w' := by
  obtain ⟨A, c, rfl, h1, h2, h3, h4⟩ := h
  have HA := Lib.hid h4
  have HP := Lib.hid hp
  have hl : hs.length ≤ 9223372036854775807 := by unfold maxLen at h2; omega
  have hu := Tryz.underlying66
  clear h1 h2 h3 h4 hp
  go_enter Tryz.func90, Tryz.ntmps90
  go_wp2_with fail
  go_loopg [8] hs.length (fun g i wr => ∃ k : Nat, k ≤ hs.length ∧ g = hs.length - k ∧ i = .int .i64 k ∧ Hid (idxFrom id 0 (hs.map TH.id) = idxFrom id k ((hs.drop k).map TH.id)) ∧ Hid (Bl w wr))
  case atStart => exact ⟨0, by omega, rfl, rfl, Lib.hid rfl, Lib.hid (Bl.refl _)⟩
  case round =>
    obtain ⟨k, hk, rfl, rfl, HV, HB⟩ := hrel
    by_cases hlt : k < hs.length
    · obtain ⟨ad, rfl, c0, c1⟩ := track_at (HA.out.bl HB.out) k hlt
      have hd := Lib.hid (List.drop_eq_getElem_cons hlt)
      have hki : (k : Int) < hs.length := by omega
      generalize hs[k] = x at *
      obtain ⟨xi, xb⟩ := x
      dsimp only at c0 c1
      go_wp2_with fail
      refine (sfind1_pred _ xi id xb p (HB.out.cell HP.out)).mono ?_
      rintro e w1 ⟨rfl, hb⟩
      have HB1 := Lib.hid (HB.out.bl hb)
      clear hb
      by_cases he : xi = id
      · have he1 : (xi == id) = true := by simpa using he
        have HE := Lib.hid he
        clear he
        go_wp2_with fail
        go_ret
        refine ⟨ret_int ?_, HB1.out⟩
        rw [HV.out, hd.out, List.map_cons, idxFrom, if_pos HE.out]
      · have he1 : (xi == id) = false := by simpa using he
        have HE := Lib.hid he
        clear he
        go_wp2_with fail
        go_roundg (hs.length - (k + 1))
        case measure => omega
        case rel => exact ⟨k + 1, by omega, rfl, by go_num, Lib.hid (by rw [HV.out, hd.out, List.map_cons, idxFrom, if_neg HE.out]), HB1⟩
    · go_wp2_with fail
      go_ret
      refine ⟨ret_int ?_, HB.out⟩
      rw [HV.out, List.drop_of_length_le (by omega)]; rfl
set_option maxRecDepth 100000 in
set_option maxHeartbeats 1000000 in
theorem idx_swithout1 (v : Value) (hs : List TH) (id : Int) (p : Nat) (w : World) (h : trackE.Is w v hs) (hp : w.cell? ⟨p, 0, none⟩ = some (.int .i64 id)) :
    Calls Tryz.prog 90 #[v, .func (.func 102) #[] #[.pointer (some ⟨p, 0, none⟩)]] w fun e w' => e = .returned (.int .i64 (idxFrom id 0 (hs.map TH.id))) ∧ Bl w w' := by
  obtain ⟨A, c, rfl, h1, h2, h3, h4⟩ := h
  have HA := Lib.hid h4
  have HP := Lib.hid hp
  have hl : hs.length ≤ 9223372036854775807 := by unfold maxLen at h2; omega
  have hu := Tryz.underlying66
  clear h1 h2 h3 h4 hp
  go_enter Tryz.func90, Tryz.ntmps90
  go_wp2_with fail
  go_loopg [8] hs.length (fun g i wr => ∃ k : Nat, k ≤ hs.length ∧ g = hs.length - k ∧ i = .int .i64 k ∧ Hid (idxFrom id 0 (hs.map TH.id) = idxFrom id k ((hs.drop k).map TH.id)) ∧ Hid (Bl w wr))
  case atStart => exact ⟨0, by omega, rfl, rfl, Lib.hid rfl, Lib.hid (Bl.refl _)⟩
  case round =>
    obtain ⟨k, hk, rfl, rfl, HV, HB⟩ := hrel
    by_cases hlt : k < hs.length
    · obtain ⟨ad, rfl, c0, c1⟩ := track_at (HA.out.bl HB.out) k hlt
      have hd := Lib.hid (List.drop_eq_getElem_cons hlt)
      have hki : (k : Int) < hs.length := by omega
      generalize hs[k] = x at *
      obtain ⟨xi, xb⟩ := x
      dsimp only at c0 c1
      go_wp2_with fail
      refine (swithout1_pred _ xi id xb p (HB.out.cell HP.out)).mono ?_
      rintro e w1 ⟨rfl, hb⟩
      have HB1 := Lib.hid (HB.out.bl hb)
      clear hb
      by_cases he : xi = id
      · have he1 : (xi == id) = true := by simpa using he
        have HE := Lib.hid he
        clear he
        go_wp2_with fail
        go_ret
        refine ⟨ret_int ?_, HB1.out⟩
        rw [HV.out, hd.out, List.map_cons, idxFrom, if_pos HE.out]
      · have he1 : (xi == id) = false := by simpa using he
        have HE := Lib.hid he
        clear he
        go_wp2_with fail
        go_roundg (hs.length - (k + 1))
        case measure => omega
        case rel => exact ⟨k + 1, by omega, rfl, by go_num, Lib.hid (by rw [HV.out, hd.out, List.map_cons, idxFrom, if_neg HE.out]), HB1⟩
    · go_wp2_with fail
      go_ret
      refine ⟨ret_int ?_, HB.out⟩
      rw [HV.out, List.drop_of_length_le (by omega)]; rfl

set_option maxRecDepth 100000 in
set_option maxHeartbeats 1000000 in
theorem sfind_any (v : Value) (s : StM) (id : Int) (w : World) (h : StateIs w v s) :
    Calls Tryz.prog 62 #[v, .int .i64 id] w fun e w' => e = .returned (.int .i64 (findS s id)) ∧ Bl w w' := by
  obtain ⟨b, u, hs, rfl, c0, h1, h2⟩ := h
  simp only [Head.v] at c0
  have hbl : b < w.heap.size := World.block_lt_of_cell? _ _ c0
  have hu := Tryz.underlying63
  go_enter Tryz.func62, Tryz.ntmps62
  have HI := Lib.hid h1
  have HE := Lib.hid (show hs.map TH.id = s.map (·.1) from TRows.ids h2)
  clear h1 h2
  go_wp2_with fail
  refine (idx_sfind1 _ hs id w.heap.size _ (HI.out.bl ((Bl.refl _).alloc _)) (by go_simp)).mono ?_
  rintro e w1 ⟨rfl, hb⟩
  go_wp2_with fail
  go_ret
  exact ⟨ret_int (by rw [HE.out]; rfl), ((Bl.refl _).alloc _).bl hb⟩
end Go.Proofs.YtddcjekkimajpaaGreat.ExtW

/- Blocks written in place: copy, clear, an append of zero values, at elements of several cells. No program in sight. -/
namespace Go.Ov
open Go.RowKit

section
variable {P : Program}

theorem run_copy_rowK (w : World) (dT sT ty elem : TypeId) (k g o dLen dCap : Nat) (a : Addr) (sLen sCap : Nat) (cur : Array Value) (t : TypeId) (cs : List Value)
    (hu : P.underlying dT = some (.slice elem)) (hs : (P.info? elem).map (·.size) = some k)
    (hg : w.heap[g]? = some (.cells cur t (0, 0))) (hn : cs.length = Nat.min sLen dLen * k)
    (hsrc : ∀ j v, cs[j]? = some v → w.cell? (a.add j) = some v) (hfit : o + cs.length ≤ cur.size) (h1 : ∀ v ∈ cs, v.oneCell' = true) :
    (Builtin.copy_ #[dT, sT] ty #[.slice (some ⟨g, o, none⟩) dLen dCap, .slice (some a) sLen sCap]).run P w =
      .ok (goInt (Nat.min sLen dLen)) (w.setRow g (cur.toList.take o ++ cs ++ cur.toList.drop (o + cs.length)).toArray) := by
  have hl := run_loadCells_list (P := P) w a cs hsrc
  have hst := run_storeCells_at P g o t cs 0 cur w hg (by simpa using hfit) h1
  cases hq : P.info? elem with
  | none => simp [hq] at hs
  | some i =>
    have hi : i.size = k := by simpa [hq] using hs
    have hn' : Nat.min sLen dLen * i.size = cs.length := by rw [hi, hn]
    simp [Builtin.copy_, run_underlying hu, Builtin.lenOf, Builtin.firstCells, sizeOf, typeInfo, hq, hn', hl, hst]

theorem run_clearK (w : World) (t e : TypeId) (z : Value) (ht : P.underlying t = some (.slice e)) (hv : ∀ w, (zeroValue e).run P w = .ok z w) (h1 : ∀ v ∈ z.cells.toList, v.oneCell' = true)
    (g o n c : Nat) (cur : Array Value) (T : TypeId) (hg : w.heap[g]? = some (.cells cur T (0, 0))) (hfit : o + n * z.cells.size ≤ cur.size) (hz : 0 < z.cells.size) :
    ∃ cur' : Array Value, (∀ ty, (Builtin.clear_ #[t] ty #[.slice (some ⟨g, o, none⟩) n c]).run P w = .ok (.tuple #[]) (w.setRow g cur')) ∧ cur'.size = cur.size ∧ cur'.toList.take o = cur.toList.take o := by
  cases n with
  | zero =>
    refine ⟨cur, fun ty => ?_, rfl, rfl⟩
    have : w.setRow g cur = w := setRow_self w g cur T (0, 0) hg
    rw [this]
    simp [Builtin.clear_, run_underlying ht]
  | succ m =>
    have hlen : (Builtin.zeroCells z.cells (m + 1)).toList.length = (m + 1) * z.cells.size := by simp [Builtin.zeroCells]
    have hone : ∀ v ∈ (Builtin.zeroCells z.cells (m + 1)).toList, v.oneCell' = true := by
      intro v hv
      simp only [Builtin.zeroCells, Array.toList_map, List.mem_map, Array.toList_range, List.mem_range] at hv
      obtain ⟨i, hi, rfl⟩ := hv
      have hlt : i % z.cells.size < z.cells.size := Nat.mod_lt _ hz
      refine h1 _ ?_
      rw [getElem!_pos z.cells (i % z.cells.size) hlt]
      simp
    have hst := run_storeCells_at P g o T (Builtin.zeroCells z.cells (m + 1)).toList 0 cur w hg (by rw [hlen]; simpa using hfit) hone
    refine ⟨_, fun ty => by simp [Builtin.clear_, run_underlying ht, hv]; rw [hst]; rfl, ?_, ?_⟩
    · simp only [Nat.add_zero, List.size_toArray, List.length_append, List.length_take, List.length_drop, Array.length_toList, hlen]
      omega
    · simp only [Nat.add_zero]
      rw [List.append_assoc, List.take_append_of_le_length (by rw [List.length_take, Array.length_toList]; omega), List.take_take]
      congr 1; omega

theorem run_append_zeros_grow (w : World) (t tn ty e : TypeId) (i : TypeInfo) (z : Value) (ht : P.underlying t = some (.slice e)) (htn : P.underlying tn = some (.int .i64)) (hi : P.info? e = some i) (hz : i.zero = some z)
    (b : Addr) (sLen sCap : Nat) (olds : List Value) (hlo : olds.length = sLen * i.size) (holds : ∀ j v, olds[j]? = some v → w.cell? (b.add j) = some v)
    (n : Nat) (hn0 : 0 < n * i.size) (hg : sCap < sLen + n) (h63 : sLen + n ≤ 1000000) (hby : i.bytes ≤ 1000) (hfit : Builtin.nextslicecap (sLen + n) sCap * i.bytes ≤ 281474976710656) :
    (Builtin.append_ #[t, tn] ty #[.slice (some b) sLen sCap, .int .i64 n]).run P w =
      .ok (.slice (some ⟨w.heap.size, 0, none⟩) (sLen + n) (grownCap w (sLen + n) sCap e))
        (w.drew.alloc (.cells (olds.toArray ++ Builtin.zeroCells z.cells n ++ Builtin.zeroCells z.cells (grownCap w (sLen + n) sCap e - (sLen + n))) e)) := by
  have hn : ¬ (sLen + n ≤ sCap) := by omega
  have hw : IntKind.i64.wrap (n : Int) = n := IntWalk.i64_in _ (by omega)
  have h63' : ¬ (9223372036854775807 < ((sLen : Int) + (n : Int))) := by omega
  have h48' : ¬ (281474976710656 < Builtin.nextslicecap (sLen + n) sCap * i.bytes) := by omega
  have hmul : n * i.bytes ≤ 1000000 * 1000 := Nat.mul_le_mul (by omega) hby
  have hneg : ¬ ((n : Int) < 0) := by omega
  have h48i : ¬ ((281474976710656 : Int) < (n : Int) * (i.bytes : Int)) := by
    have : ((n * i.bytes : Nat) : Int) = (n : Int) * (i.bytes : Int) := by push_cast; rfl
    omega
  have hne : ¬ (n * i.size = 0) := by omega
  have hfo := run_firstCells_some (P := P) w.drew i.size sLen b sLen sCap olds hlo (by simpa using holds)
  simp [Builtin.append_, run_underlying ht, run_underlying htn, sizeOf, typeInfo, zeroValue, hi, hz, hn, hw, hneg, h48i, hne, h63', h48', Question.forced, hfo, newRow, grownCap, asInt, asIntOf]
end

section
variable {α : Type} {E : Enc α} {e : TypeId} {w : World} {base : Nat}
/-- an owned row's block -/
theorem Enc.Own.blk {g n cap : Nat} {xs : List α} (h : E.Own e w base (.slice (some ⟨g, 0, none⟩) n cap) xs) :
    n = xs.length ∧ base ≤ g ∧ n ≤ cap ∧ cap ≤ maxLen ∧ ∃ cur : Array Value, w.heap[g]? = some (.cells cur e (0, 0)) ∧ cur.size = cap * E.sz ∧ cur.toList.take (n * E.sz) = xs.flatMap E.c := by
  obtain ⟨h1, h2⟩ := h
  rcases h2 with ⟨h2, _⟩ | ⟨g', c, cur, h2, h3, h4, h5, h6, h7, h8⟩
  · cases h2
  · simp at h2
    obtain ⟨rfl, rfl, rfl⟩ := h2
    exact ⟨rfl, h3, h5, h6, cur, h4, h7, h8⟩
theorem Enc.Own.ofBlk {g n cap : Nat} {xs : List α} {cur : Array Value} (hn : n = xs.length) (hb : base ≤ g) (hc : n ≤ cap) (hm : cap ≤ maxLen) (hg : w.heap[g]? = some (.cells cur e (0, 0))) (hs : cur.size = cap * E.sz)
    (ht : cur.toList.take (n * E.sz) = xs.flatMap E.c) : E.Own e w base (.slice (some ⟨g, 0, none⟩) n cap) xs := by
  subst hn
  exact ⟨flat_len E xs, .inr ⟨g, cap, cur, rfl, hb, hg, hc, hm, hs, ht⟩⟩
theorem flat_take (E : Enc α) (xs : List α) (i : Nat) (h : i ≤ xs.length) : (xs.flatMap E.c).take (i * E.sz) = (xs.take i).flatMap E.c := by
  have e1 : xs.flatMap E.c = (xs.take i).flatMap E.c ++ (xs.drop i).flatMap E.c := by rw [← List.flatMap_append, List.take_append_drop]
  rw [e1, List.take_append_of_le_length (by rw [flat_len, List.length_take, Nat.min_eq_left h]; exact Nat.le_refl _), List.take_of_length_le (by rw [flat_len, List.length_take, Nat.min_eq_left h]; exact Nat.le_refl _)]
theorem flat_drop (E : Enc α) (xs : List α) (i : Nat) (h : i ≤ xs.length) : (xs.flatMap E.c).drop (i * E.sz) = (xs.drop i).flatMap E.c := by
  have e1 : xs.flatMap E.c = (xs.take i).flatMap E.c ++ (xs.drop i).flatMap E.c := by rw [← List.flatMap_append, List.take_append_drop]
  have e2 : i * E.sz = ((xs.take i).flatMap E.c).length := by rw [flat_len, List.length_take, Nat.min_eq_left h]
  rw [e1, e2, List.drop_left]
theorem Enc.Own.trunc {g n cap : Nat} {xs : List α} (h : E.Own e w base (.slice (some ⟨g, 0, none⟩) n cap) xs) (i : Nat) (hi : i ≤ n) : E.Own e w base (.slice (some ⟨g, 0, none⟩) i cap) (xs.take i) := by
  obtain ⟨h1, h2, h3, h4, cur, h5, h6, h7⟩ := h.blk
  refine Enc.Own.ofBlk (by rw [List.length_take]; omega) h2 (by omega) h4 h5 h6 ?_
  rw [← flat_take E xs i (by omega), ← h7, List.take_take, Nat.min_eq_left (Nat.mul_le_mul_right _ hi)]
theorem setRow_at (w : World) (g : Nat) (cs cur : Array Value) (T : TypeId) (h : w.heap[g]? = some (.cells cur T (0, 0))) : (w.setRow g cs).heap[g]? = some (.cells cs T (0, 0)) := setRow_heap w g cur cs T (0, 0) h
theorem setRow_grown (w : World) (g : Nat) (cs : Array Value) : w.grownBy (w.setRow g cs) (some g) := ⟨rfl, rfl, rfl, by simp [World.setRow], fun k _ hk => setRow_other w g k cs (fun e => hk (by rw [e]))⟩
theorem setCell_grown (w : World) (g j : Nat) (u : Value) : w.grownBy (w.setCell ⟨g, j, none⟩ u) (some g) := ⟨rfl, rfl, rfl, by simp [World.setCell], fun k _ hk => setCell_else _ _ _ _ _ (fun e => hk (by rw [e]))⟩
theorem grown_trans {a b c : World} {row : Option Nat} (h : a.grownBy b row) (k : b.grownBy c row) : a.grownBy c row :=
  ⟨k.os.trans h.os, k.tape.trans h.tape, k.output.trans h.output, Nat.le_trans h.size k.size, fun i hi hr => (k.block i (Nat.lt_of_lt_of_le hi h.size) hr).trans (h.block i hi hr)⟩
theorem grown_bl {a b : World} {row : Option Nat} (h : Bl a b) : a.grownBy b row := ⟨h.os, h.tape, h.output, h.size, fun i hi _ => h.block i hi⟩
theorem Enc.Own.ne_blk {v : Value} {xs : List α} {b : Nat} {cs : Array Value} {T : TypeId} (h : E.Own e w base v xs) (hk : Blk w b cs T) (hT : e ≠ T) : v.ownBlock ≠ some b := fun he => by
  rcases h.parts with ⟨rfl, _⟩ | ⟨g, c, rfl, _⟩
  · cases he
  · have hg : g = b := by injection he
    subst hg
    obtain ⟨_, _, _, _, cur, h5, _⟩ := h.blk
    unfold Blk at hk
    rw [h5] at hk
    simp at hk
    exact hT hk.2
/-- an element of two cells is written -/
theorem Enc.Own.store2 {g n cap : Nat} {xs : List α} (h : E.Own e w base (.slice (some ⟨g, 0, none⟩) n cap) xs) (hE : E.sz = 2) (j : Nat) (y : α) (a b : Value) (hy : E.c y = [a, b]) :
    E.Own e ((w.setCell ⟨g, j * 2, none⟩ a).setCell ⟨g, j * 2 + 1, none⟩ b) base (.slice (some ⟨g, 0, none⟩) n cap) (xs.set j y) := by
  obtain ⟨rfl, h2, h3, h4, cur, h5, h6, h7⟩ := h.blk
  have hf : ∀ (l : List α) (j : Nat), ((l.flatMap E.c).set (j * 2) a).set (j * 2 + 1) b = (l.set j y).flatMap E.c := by
    intro l
    induction l with
    | nil => intro j; rfl
    | cons x l ih =>
      intro j
      have hx : (E.c x).length = 2 := by rw [E.len, hE]
      cases j with
      | zero =>
        rw [List.set_cons_zero, List.flatMap_cons, List.flatMap_cons, hy]
        match hc : E.c x, hx with
        | [p, q], _ => rfl
      | succ j =>
        rw [List.set_cons_succ, List.flatMap_cons, List.flatMap_cons, ← ih j, Nat.succ_mul, List.set_append_right _ _ (by omega), List.set_append_right _ _ (by omega), hx]
        congr 2 <;> omega
  have c1 := setCell_at w g (j * 2) a cur e _ h5
  have c2 := setCell_at _ g (j * 2 + 1) b _ e _ c1
  refine Enc.Own.ofBlk (by rw [List.length_set]) h2 h3 h4 c2 (by simpa using h6) ?_
  rw [Array.toList_setIfInBounds, Array.toList_setIfInBounds, List.take_set, List.take_set, h7, hf]
theorem Enc.Own.at2 {g n cap : Nat} {xs : List α} (h : E.Own e w base (.slice (some ⟨g, 0, none⟩) n cap) xs) (hE : E.sz = 2) (j : Nat) (hj : j < xs.length) (a b : Value) (hy : E.c xs[j] = [a, b]) :
    w.cell? ⟨g, j * 2, none⟩ = some a ∧ w.cell? ⟨g, j * 2 + 1, none⟩ = some b ∧ w.frozen? ⟨g, j * 2, none⟩ = false ∧ w.frozen? ⟨g, j * 2 + 1, none⟩ = false := by
  obtain ⟨rfl, h2, h3, h4, cur, h5, h6, h7⟩ := h.blk
  have f1 := flat_get E xs j _ (List.getElem?_eq_getElem hj) 0 a (by rw [hy]; rfl)
  have f2 := flat_get E xs j _ (List.getElem?_eq_getElem hj) 1 b (by rw [hy]; rfl)
  rw [hE] at f1 f2 h7
  rw [← h7, List.getElem?_take, if_pos (by omega), Nat.add_zero, Array.getElem?_toList] at f1
  rw [← h7, List.getElem?_take, if_pos (by omega), Array.getElem?_toList] at f2
  exact ⟨by rw [cell_of_row w g _ cur e (0, 0) h5]; exact f1, by rw [cell_of_row w g _ cur e (0, 0) h5]; exact f2, frozen_of_row w g _ cur e h5, frozen_of_row w g _ cur e h5⟩
end
end Go.Ov

/- Contracts of slices.Clone, DeleteFunc, Insert at tracks. -/
namespace Go.Proofs.YtddcjekkimajpaaGreat.ExtW
open Go.RowKit Go.Ov Go.Proofs.YtddcjekkimajpaaGreat.Need

theorem infoTrack : (Tryz.prog.info? 66).map (fun i => (i.zero, i.size, i.bytes)) = some (some (.agg #[.int .i64 0, .pointer none]), 2, 16) := by kernel_rfl

set_option maxRecDepth 100000 in
set_option maxHeartbeats 1000000 in
theorem cloneTrack_any (v : Value) (hs : List TH) (w : World) (h : trackE.Is w v hs) (hn : hs.length ≤ 1000000) :
    Calls Tryz.prog 101 #[v] w fun e w' => ∃ u, e = .returned u ∧ trackE.Own 66 w' w.heap.size u hs ∧ Bl w w' := by
  have HH := Lib.hid h
  obtain ⟨A, c, rfl, h1, h2, h3, h4⟩ := h
  have hE := fun w => Lib.run_eql_slice_nil (P := Tryz.prog) w 61 66 A hs.length c 0 0 Tryz.underlying61
  cases A with
  | none =>
    have hc : c = 0 := h3 rfl
    have hl : hs = [] := List.eq_nil_of_length_eq_zero (by omega)
    subst hc; subst hl
    clear h4 h3 h2 h1 hE
    have hE := fun w => Lib.run_eql_slice_nil (P := Tryz.prog) w 61 66 none 0 0 0 0 Tryz.underlying61
    go_enter Tryz.func101, Tryz.ntmps101
    go_wp2_with fail
    go_ret
    exact ⟨_, rfl, Enc.Own.nil _ _ _, Bl.refl _⟩
  | some ad =>
    clear h4 h3 h2 h1
    go_enter Tryz.func101, Tryz.ntmps101
    go_wp2_with (at_builtin; refine Enc.Own.append (E := trackE) rfl (.tmp 5) (.tmp 6) 61 rfl w.heap.size 66 (.agg #[.int .i64 0, .pointer none]) 2 16 Tryz.underlying61 infoTrack rfl rfl (by decide) (by decide) (.slice (some ⟨w.heap.size, 0, none⟩) 0 0) [] rfl (Enc.Own.lit w w.heap.size [] #[] rfl 0 rfl (Nat.le_refl _) (by decide) rfl) (.slice (some ad) hs.length c) hs rfl (HH.out.bl ((Bl.refl _).alloc _)) ?hlen ?hb ?_; (case hlen => simp; omega); (case hb => exact ((Bl.refl w).alloc _).size); intro v1 w1 ho hg)
    go_ret
    exact ⟨_, rfl, by simpa using ho, ((Bl.refl _).alloc _).grown hg (fun k hk => by simp [Value.ownBlock] at hk; omega)⟩

/-- those of another name -/
def others (id : Int) (hs : List TH) : List TH := hs.filter fun h => h.id != id
theorem idx_neg (id : Int) : ∀ (hs : List TH) (k : Nat), idxFrom id k (hs.map TH.id) = -1 → others id hs = hs
  | [], _, _ => rfl
  | h :: hs, k, hi => by
    unfold idxFrom at hi
    rw [List.map_cons] at hi
    simp only at hi
    by_cases e : h.id = id
    · rw [if_pos e] at hi; omega
    · rw [if_neg e] at hi
      unfold others
      rw [List.filter_cons_of_pos (by simpa using e)]
      congr 1
      exact idx_neg id hs (k + 1) hi
theorem idx_pos (id : Int) : ∀ (hs : List TH) (k : Nat), idxFrom id k (hs.map TH.id) ≠ -1 → ∃ i, ∃ h : i < hs.length, idxFrom id k (hs.map TH.id) = ((k + i : Nat) : Int) ∧ hs[i].id = id ∧ others id (hs.take i) = hs.take i
  | [], _, hi => absurd rfl hi
  | h :: hs, k, hi => by
    rw [List.map_cons] at hi ⊢
    unfold idxFrom at hi ⊢
    by_cases e : h.id = id
    · rw [if_pos e]
      exact ⟨0, by simp, by simp, e, rfl⟩
    · rw [if_neg e] at hi ⊢
      obtain ⟨i, h1, h2, h3, h4⟩ := idx_pos id hs (k + 1) hi
      refine ⟨i + 1, by simp; omega, by rw [h2]; congr 1; omega, by simpa using h3, ?_⟩
      unfold others at h4 ⊢
      rw [List.take_succ_cons, List.filter_cons_of_pos (by simpa using e), h4]

theorem others_snoc (id : Int) (l : List TH) (x : TH) : others id (l ++ [x]) = others id l ++ (if x.id = id then [] else [x]) := by
  unfold others
  rw [List.filter_append]
  congr 1
  by_cases e : x.id = id
  · rw [if_pos e, List.filter_cons_of_neg (by simpa using e)]; rfl
  · rw [if_neg e, List.filter_cons_of_pos (by simpa using e)]; rfl
theorem get_of_drop {α : Type} {a b : List α} {j : Nat} (h : a.drop j = b.drop j) (ha : j < a.length) (hb : j < b.length) : a[j] = b[j] ∧ a.drop (j + 1) = b.drop (j + 1) := by
  rw [List.drop_eq_getElem_cons ha, List.drop_eq_getElem_cons hb] at h
  injection h with h1 h2
  exact ⟨h1, h2⟩
theorem set_take_snoc {α : Type} (L : List α) (i : Nat) (x : α) (h : i < L.length) : (L.set i x).take (i + 1) = L.take i ++ [x] := by
  rw [List.take_succ_eq_append_getElem (by rw [List.length_set]; exact h), List.take_set_of_le (Nat.le_refl _)]
  simp
theorem set_drop {α : Type} (L : List α) (i j : Nat) (x : α) (h : i < j) : (L.set i x).drop j = L.drop j := List.drop_set_of_lt h

set_option maxRecDepth 100000 in
set_option maxHeartbeats 4000000 in
theorem delTrack_any (v : Value) (hs : List TH) (id : Int) (p base : Nat) (w : World) (h : trackE.Own 66 w base v hs) (hp : w.cell? ⟨p, 0, none⟩ = some (.int .i64 id)) (hpb : p < base) (hn : hs.length ≤ 1000) :
    Calls Tryz.prog 100 #[v, .func (.func 102) #[] #[.pointer (some ⟨p, 0, none⟩)]] w fun e w' => ∃ u, e = .returned u ∧ trackE.Own 66 w' base u (others id hs) ∧ w.grownBy w' v.ownBlock ∧ u.ownBlock = v.ownBlock := by
  have HO := Lib.hid h
  have HP := Lib.hid hp
  have hlt := h.lt
  have HLT := Lib.hid hlt
  clear hp hlt
  obtain ⟨A, c, rfl⟩ := h.slice
  have hu := Tryz.underlying66
  clear h
  go_enter Tryz.func100, Tryz.ntmps100
  go_wp2_with fail
  refine (idx_swithout1 _ hs id p _ HO.out.is HP.out).mono ?_
  rintro e w1 ⟨rfl, hb⟩
  have HB := Lib.hid hb
  clear hb
  by_cases hi : idxFrom id 0 (hs.map TH.id) = -1
  · have HE := Lib.hid (idx_neg id hs 0 hi)
    rw [hi]
    clear hi
    go_wp2_with fail
    go_ret
    exact ⟨_, rfl, by rw [HE.out]; exact HO.out.bl HB.out, grown_bl HB.out, rfl⟩
  · obtain ⟨i0, hi0, e0, e1, e2⟩ := idx_pos id hs 0 hi
    rw [Nat.zero_add] at e0
    rw [e0]
    have HE1 := Lib.hid e1
    have HE2 := Lib.hid e2
    have hpart := HO.out.parts
    have hshape : ∃ g, A = some ⟨g, 0, none⟩ := by
      rcases hpart with ⟨_, h0⟩ | ⟨g, c', e', _⟩
      · omega
      · simp at e'; exact ⟨g, e'.1⟩
    obtain ⟨g, rfl⟩ := hshape
    clear hi e0 e1 e2 hpart
    have hgp : base ≤ g := (HLT.out g rfl).1
    have hni : ¬ (i0 : Int) = -1 := by omega
    have hnb : ((i0 : Int) == -1) = false := by rw [beq_eq_false_iff_ne]; omega
    go_wp2_with fail
    have hst := Lib.hid (show hs.take i0 = others id (hs.take (i0 + 1)) by
      rw [List.take_succ_eq_append_getElem hi0, others_snoc, HE2.out, if_pos HE1.out, List.append_nil])
    go_loopg [5, 6] (hs.length - (i0 + 1)) (fun gk s5 s6 wr => ∃ (i j : Nat) (L : List TH), i < j ∧ j ≤ hs.length ∧ gk = hs.length - j ∧ s5 = .int .i64 i ∧ s6 = .int .i64 j ∧ Hid (L.length = hs.length) ∧
      Hid (trackE.Own 66 wr base (.slice (some ⟨g, 0, none⟩) hs.length c) L) ∧ Hid (L.take i = others id (hs.take j)) ∧ Hid (L.drop j = hs.drop j) ∧ Hid (w.grownBy wr (some g)))
    case atStart => exact ⟨i0, i0 + 1, hs, by omega, by omega, rfl, rfl, by go_num, Lib.hid rfl, Lib.hid (HO.out.bl HB.out), hst, Lib.hid rfl, Lib.hid (grown_bl HB.out)⟩
    case round =>
      clear hst HE1 HE2 hni hnb hi0
      obtain ⟨i, j, L, hij, hj, rfl, rfl, rfl, HLL, HW, HT, HD, HG⟩ := hrel
      by_cases hlt : j < hs.length
      · have hll := HLL.out
        obtain ⟨hx, hdr⟩ := get_of_drop HD.out (by omega) hlt
        obtain ⟨c0, c1, f0, f1⟩ := HW.out.at2 rfl j (by omega) (.int .i64 L[j].id) (.pointer (some ⟨L[j].b, 0, none⟩)) rfl
        have hos := others_snoc id (hs.take j) hs[j]
        rw [← List.take_succ_eq_append_getElem hlt] at hos
        rw [← hx] at hos
        have HOS := Lib.hid hos
        have HDR := Lib.hid hdr
        generalize L[j] = x at *
        obtain ⟨xi, xb⟩ := x
        dsimp only at c0 c1
        have hpg : p ≠ g := by omega
        have hpc := Lib.hid (World.grownBy.cell HG.out HP.out (fun h => hpg (by simpa using h)))
        have hji : (j : Int) < hs.length := by omega
        have hii : (i : Int) < hs.length := by omega
        clear hll hx hdr hos
        go_wp2_with fail
        refine (swithout1_pred _ xi id xb p ((Bl.alloc (Bl.refl wr) _).cell hpc.out)).mono ?_
        rintro e w2 ⟨rfl, hb⟩
        have b0 := ((Blk.new wr #[.int .i64 xi, .pointer (some ⟨xb, 0, none⟩)] 66).bl hb).cell 0
        have b1 := ((Blk.new wr #[.int .i64 xi, .pointer (some ⟨xb, 0, none⟩)] 66).bl hb).cell 1
        simp at b0 b1
        have hz : wr.heap.size < w2.heap.size := by have := hb.size; simp at this; omega
        have HW2 := Lib.hid (HW.out.bl (((Bl.refl _).alloc _).bl hb))
        have HG2 := Lib.hid (grown_trans HG.out (grown_bl (((Bl.refl _).alloc _).bl hb)))
        have hgs : g < wr.heap.size := (Enc.Own.lt HW.out g rfl).2
        clear hb c0 c1 f0 f1
        by_cases he : xi = id
        · have he1 : (xi == id) = true := by simpa using he
          have HE := Lib.hid he
          clear he
          go_wp2_with fail
          go_roundg (hs.length - (j + 1))
          case measure => omega
          case rel => exact ⟨i, j + 1, L, by omega, by omega, rfl, rfl, by go_num, HLL, HW2, Lib.hid (by rw [HOS.out, if_pos HE.out, List.append_nil]; exact HT.out), HDR, HG2⟩
        · have he1 : (xi == id) = false := by simpa using he
          have HE := Lib.hid he
          have hll := HLL.out
          obtain ⟨c0, c1, f0, f1⟩ := HW2.out.at2 rfl i (by omega) (.int .i64 L[i].id) (.pointer (some ⟨L[i].b, 0, none⟩)) rfl
          have hgs2 : g < w2.heap.size := by omega
          generalize L[i] = y at *
          obtain ⟨yi, yb⟩ := y
          dsimp only at c0 c1
          clear he hll
          go_wp2_with fail
          go_roundg (hs.length - (j + 1))
          case measure => omega
          case rel =>
            refine ⟨i + 1, j + 1, L.set i ⟨xi, xb⟩, by omega, by omega, rfl, by go_num, by go_num, Lib.hid (by rw [List.length_set]; exact HLL.out), Lib.hid (HW2.out.store2 rfl i ⟨xi, xb⟩ _ _ rfl), Lib.hid ?_, Lib.hid ?_, Lib.hid (grown_trans (grown_trans HG2.out (setCell_grown _ _ _ _)) (setCell_grown _ _ _ _))⟩
            · rw [set_take_snoc _ _ _ (by have := HLL.out; omega), HT.out, HOS.out, if_neg HE.out]
            · rw [set_drop _ _ _ _ (by omega)]; exact HDR.out
      · have hje : j = hs.length := by omega
        have hil : i < hs.length := by omega
        have HF := Lib.hid (show L.take i = others id hs by rw [HT.out, hje, List.take_length])
        have hil2 : i ≤ L.length := by have := HLL.out; omega
        obtain ⟨z0, _, hc1, hc2, cur, hcu1, hcu2, hcu3⟩ := HW.out.blk
        clear z0
        have hsz2 : i * 2 + (hs.length - i) * 2 ≤ cur.size := by rw [hcu2]; show _ ≤ c * 2; omega
        obtain ⟨cur', hcl, hcs, hct⟩ := run_clearK (P := Tryz.prog) wr 61 66 (.agg #[.int .i64 0, .pointer none]) Tryz.underlying61 (fun w => by kernel_rfl) (by intro v hv; simp [Value.cells] at hv; rcases hv with rfl | rfl <;> rfl) g (i * 2) (hs.length - i) (c - i) cur 66 hcu1 hsz2 (by decide)
        have HCS := Lib.hid hcs
        have HCT := Lib.hid hct
        have HCU := Lib.hid (And.intro hcu1 (And.intro hcu2 hcu3))
        have hic : (i : Int) < c := by omega
        have hic2 : ¬ c = i := by omega
        have hii : (i : Int) ≤ hs.length := by omega
        clear hcs hct hcu1 hcu2 hcu3 hje HT HD hsz2
        go_wp2_with fail
        go_ret
        refine ⟨_, rfl, ?_, grown_trans HG.out (setRow_grown _ _ _), rfl⟩
        have hh := HCU.out
        refine Enc.Own.ofBlk (by rw [← HF.out, List.length_take]; have := HLL.out; omega) hgp (by omega) hc2 (setRow_at wr g cur' cur _ hh.1) (by rw [HCS.out]; exact hh.2.1) ?_
        show cur'.toList.take (i * 2) = _
        rw [HCT.out, ← HF.out]
        have h3 : cur.toList.take (hs.length * 2) = L.flatMap trackE.c := hh.2.2
        rw [← flat_take trackE L i hil2, ← h3, List.take_take, show trackE.sz = 2 from rfl, Nat.min_eq_left (by omega)]

set_option maxRecDepth 100000 in
set_option maxHeartbeats 1000000 in
theorem swithout_own (G : Nat → Bool) (v : Value) (s : StM) (id : Int) (w : World) (h : StateIs (only w G) v s) (hn : s.length ≤ 1000) :
    Calls Tryz.prog 74 #[v, .int .i64 id] w fun e w' => ∃ (b : Nat) (u : Head) (hs : List TH), e = .returned (.pointer (some ⟨b, 0, none⟩)) ∧ Blk w' b #[u.v] 63 ∧ w.heap.size ≤ b ∧ trackE.Own 66 w' w.heap.size u.v (others id hs) ∧
      u.v.ownBlock ≠ some b ∧ TRows (only w G) hs s ∧ Bl w w' := by
  obtain ⟨b, u, hs, rfl, c0, h1, h2⟩ := h
  replace c0 := (only_cell c0).2
  replace h1 := (Sub.un w G).is h1
  simp only [Head.v] at c0
  have hbl : b < w.heap.size := World.block_lt_of_cell? _ _ c0
  have HI := Lib.hid h1
  have HR := Lib.hid h2
  have hl : hs.length ≤ 1000 := by rw [h2.1]; exact hn
  have hu := Tryz.underlying63
  clear h1 h2
  go_enter Tryz.func74, Tryz.ntmps74
  go_wp2_with fail
  refine (cloneTrack_any _ hs _ (HI.out.bl ((Bl.refl _).alloc _)) (by omega)).mono ?_
  rintro e w1 ⟨z, rfl, ho, hb⟩
  have HZ := Lib.hid ho
  have HK := Lib.hid ((Blk.new w #[.int .i64 id] 3).bl hb)
  have HB := Lib.hid (((Bl.refl w).alloc _).bl hb)
  obtain ⟨A1, c1, rfl⟩ := ho.slice
  clear ho hb
  go_wp2_with fail
  refine (delTrack_any _ hs id w.heap.size _ _ HZ.out (HK.out.cell 0) (by simp) hl).mono ?_
  rintro e w2 ⟨y, rfl, ho, hg, hob⟩
  have HO := Lib.hid ho
  have HG := Lib.hid (HB.out.grown hg (fun k hk => by have := (Enc.Own.lt HZ.out k hk).1; simp at this; omega))
  have hsz := hg.size
  obtain ⟨A2, c2, rfl⟩ := ho.slice
  clear ho hg
  go_wp2_with fail
  go_ret
  refine ⟨w2.heap.size, ⟨A2, (others id hs).length, c2⟩, hs, rfl, Blk.new _ _ _, HG.out.size, (HO.out.low (by simp)).bl ((Bl.refl _).alloc _), ?_, HR.out, HG.out.alloc _⟩
  exact fun he => by have := (Enc.Own.lt HO.out _ he).2; omega

theorem swithout_G (G : Nat → Bool) (v : Value) (s : StM) (id : Int) (w : World) (h : StateIs (only w G) v s) (hn : s.length ≤ 1000) :
    Calls Tryz.prog 74 #[v, .int .i64 id] w fun e w' => ∃ u, e = .returned u ∧ StateIs (only w' (gor G w)) u (withoutS s id) ∧ Bl w w' :=
  (swithout_own G v s id w h hn).mono fun e w' => by
    rintro ⟨b, u, hs, rfl, hk, hb0, ho, _, hr, hb⟩
    exact ⟨_, rfl, ⟨b, u, others id hs, rfl, cell_only (fr_gor G w _ (fr_ge (Nat.le_refl _) hb0)) (hk.cell 0), ho.isM (fun k hk => fr_gor G w _ (fr_ge (Nat.le_refl _) hk)), (Sub.mono (gor_l G w)).trows ((hr.bl (hb.only G)).filter (fun i => i != id))⟩, hb⟩
theorem swithout_any (v : Value) (s : StM) (id : Int) (w : World) (h : StateIs w v s) (hn : s.length ≤ 1000) :
    Calls Tryz.prog 74 #[v, .int .i64 id] w fun e w' => ∃ u, e = .returned u ∧ StateIs w' u (withoutS s id) ∧ Bl w w' :=
  (swithout_G (fun _ => true) v s id w (Sub.state (fun _ _ h => cell_only rfl h) h) hn).mono fun _ w' ⟨u, e, h, hb⟩ => ⟨u, e, (Sub.un w' _).state h, hb⟩
end Go.Proofs.YtddcjekkimajpaaGreat.ExtW

/- What an insertion leaves in a block, in plain words; the runs of copy and overlaps that it takes. No program in sight. -/
namespace Go.Ov
open Go.RowKit

theorem addr_add (g o j : Nat) : (⟨g, o, none⟩ : Addr).add j = ⟨g, o + j, none⟩ := by unfold Addr.add; split <;> simp_all
theorem addr_add0 (g j : Nat) : (⟨g, 0, none⟩ : Addr).add j = ⟨g, j, none⟩ := by rw [addr_add, Nat.zero_add]
/-- cells laid over a list from a place on -/
def lay {α : Type} (L : List α) (o : Nat) (cs : List α) : List α := L.take o ++ cs ++ L.drop (o + cs.length)
theorem lay_len {α : Type} (L : List α) (o : Nat) (cs : List α) (h : o + cs.length ≤ L.length) : (lay L o cs).length = L.length := by simp [lay]; omega
theorem lay_take {α : Type} (L : List α) (o : Nat) (cs : List α) (h : o ≤ L.length) : (lay L o cs).take o = L.take o := by
  unfold lay
  rw [List.append_assoc, List.take_append_of_le_length (by rw [List.length_take]; omega), List.take_take, Nat.min_self]
theorem lay_upto {α : Type} (L : List α) (o : Nat) (cs : List α) (h : o ≤ L.length) : (lay L o cs).take (o + cs.length) = L.take o ++ cs := by
  unfold lay
  rw [List.take_append_of_le_length (by simp; omega), List.take_of_length_le (by simp; omega)]
theorem lay_drop {α : Type} (L : List α) (o : Nat) (cs : List α) (h : o ≤ L.length) : (lay L o cs).drop (o + cs.length) = L.drop (o + cs.length) := by
  unfold lay
  rw [List.drop_append_of_le_length (by simp; omega), List.drop_of_length_le (by simp; omega), List.nil_append]
/-- first X at a, then D behind it -/
theorem lay_two {α : Type} (L X D : List α) (a : Nat) (h : a + X.length + D.length ≤ L.length) :
    (lay (lay L a X) (a + X.length) D).take (a + X.length + D.length) = L.take a ++ X ++ D := by
  rw [lay_upto _ _ _ (by rw [lay_len _ _ _ (by omega)]; omega), lay_upto _ _ _ (by omega)]
/-- first D behind a gap, then X into the gap -/
theorem lay_gap {α : Type} (L X D : List α) (a : Nat) (h : a + X.length + D.length ≤ L.length) :
    (lay (lay L (a + X.length) D) a X).take (a + X.length + D.length) = L.take a ++ X ++ D := by
  have h1 : (lay L (a + X.length) D).length = L.length := lay_len _ _ _ h
  have h2 : (lay L (a + X.length) D).take a = L.take a := by
    have := congrArg (List.take a) (lay_take L (a + X.length) D (by omega))
    rwa [List.take_take, List.take_take, Nat.min_eq_left (by omega)] at this
  rw [List.take_add, lay_upto _ _ _ (by omega), lay_drop _ _ _ (by omega), h2]
  congr 1
  have h3 := lay_upto L (a + X.length) D (by omega)
  have h4 := congrArg (List.drop (a + X.length)) h3
  rw [List.drop_take] at h4
  rw [show a + X.length + D.length - (a + X.length) = D.length by omega] at h4
  rw [h4, List.drop_append_of_le_length (by rw [List.length_take]; omega), List.drop_of_length_le (by rw [List.length_take]; omega), List.nil_append]

section
variable {P : Program}
theorem run_copyK (w : World) (dT sT ty elem : TypeId) (k g o dLen dCap : Nat) (a : Addr) (sLen sCap : Nat) (cur : List Value) (t : TypeId) (cs : List Value)
    (hu : P.underlying dT = some (.slice elem)) (hs : (P.info? elem).map (·.size) = some k)
    (hg : w.heap[g]? = some (.cells cur.toArray t (0, 0))) (hn : cs.length = Nat.min sLen dLen * k)
    (hsrc : ∀ j v, cs[j]? = some v → w.cell? (a.add j) = some v) (hfit : o + cs.length ≤ cur.length) (h1 : ∀ v ∈ cs, v.oneCell' = true) :
    (Builtin.copy_ #[dT, sT] ty #[.slice (some ⟨g, o, none⟩) dLen dCap, .slice (some a) sLen sCap]).run P w =
      .ok (goInt (Nat.min sLen dLen)) (w.setRow g (lay cur o cs).toArray) := by
  have := run_copy_rowK (P := P) w dT sT ty elem k g o dLen dCap a sLen sCap cur.toArray t cs hu hs hg hn hsrc (by simpa using hfit) h1
  simpa [lay] using this

theorem wpList_append_run {w w' : World} {ops : Array Oper} {rest : List Oper} {o : Oper} {a : Act} {Q : Exit → Act → World → Prop} (hgd : o.guard = none) (s x : Operand) (t tn : TypeId)
    (ho : o.op = .call { callee := .builtin .append, args := #[s, x], argTypes := #[t, tn] }) (vs vx r : Value) (hs : a.eval s = vs) (hx : a.eval x = vx)
    (hr : (Builtin.append_ #[t, tn] o.type #[vs, vx]).run P w = .ok r w') (h : wpList P ops Q rest (a.put o.dst r) w') : wpList P ops Q (o :: rest) a w := by
  refine wpList_plain hgd fun K hK => ?_
  unfold Oper.wp execOp
  simp only [ho, resolve, invoke, builtin, Sem.run_bind, Sem.run_pure, Result.andThen_ok, List.map_toArray, List.map_cons, List.map_nil, hs, hx, hr]
  exact hK _ _ h
end
end Go.Ov

/- Contract of slices.Insert at tracks: one element put in. -/
namespace Go.Proofs.YtddcjekkimajpaaGreat.ExtW
open Go.RowKit Go.Ov Go.Proofs.YtddcjekkimajpaaGreat.Need

theorem szTrack : (Tryz.prog.info? 66).map (·.size) = some 2 := by kernel_rfl
def insL (hs : List TH) (i : Nat) (x : TH) : List TH := hs.take i ++ x :: hs.drop i

set_option maxRecDepth 100000 in
set_option maxHeartbeats 4000000 in
theorem ins_end (v : Value) (hs : List TH) (x : TH) (vb base : Nat) (w : World) (h : trackE.Own 66 w base v hs) (hv : Blk w vb #[.int .i64 x.id, .pointer (some ⟨x.b, 0, none⟩)] 66) (hn : hs.length ≤ 1000) (hb : base ≤ w.heap.size) :
    Calls Tryz.prog 99 #[v, .int .i64 hs.length, .slice (some ⟨vb, 0, none⟩) 1 1] w fun e w' => ∃ u, e = .returned u ∧ trackE.Own 66 w' base u (insL hs hs.length x) ∧ w.grownBy w' v.ownBlock := by
  have HO := Lib.hid h
  have HX := Lib.hid (show trackE.Is w (.slice (some ⟨vb, 0, none⟩) 1 1) [x] from ⟨_, 1, rfl, by simp, by decide, (fun h => by cases h), fun i y hy => by
    have hi : i = 0 := by have := (List.getElem?_eq_some_iff.1 hy).1; simp at this; exact this
    subst hi
    simp at hy; subst hy
    refine ⟨_, rfl, fun j u hu => ?_⟩
    have : (⟨vb, 0, none⟩ : Addr).add (0 * trackE.sz + j) = ⟨vb, j, none⟩ := by unfold Addr.add; split <;> simp_all
    rw [this, hv.cell]
    match j, hu with
    | 0, hu => exact hu
    | 1, hu => exact hu⟩)
  have hu := Tryz.underlying66
  obtain ⟨A, c, rfl⟩ := h.slice
  have hc := Lib.hid HO.out.is
  have hl0 : ¬ ((1 : Int) = 0) := by omega
  clear h hv
  obtain ⟨A', c', e', hc1, _⟩ := hc.out
  simp at e'
  obtain ⟨rfl, rfl⟩ := e'
  go_enter Tryz.func99, Tryz.ntmps99
  go_wp2_with (at_builtin; refine Enc.Own.append (E := trackE) rfl (.tmp 23) (.tmp 24) 61 rfl base 66 (.agg #[.int .i64 0, .pointer none]) 2 16 Tryz.underlying61 infoTrack rfl rfl (by decide) (by decide) (.slice A hs.length c) hs rfl HO.out (.slice (some ⟨vb, 0, none⟩) 1 1) [x] rfl HX.out ?hlen hb ?_; (case hlen => simp; omega); intro v1 w1 ho hg)
  all_goals
    go_ret
    first
      | exact ⟨_, rfl, by unfold insL; rw [List.take_length, List.drop_length]; exact ho, hg⟩
      | exact ⟨_, rfl, by unfold insL; rw [List.take_length, List.drop_length]; exact ho, by cases A <;> exact hg⟩

theorem own_at_drop {w : World} {base g n c : Nat} {hs : List TH} (h : trackE.Own 66 w base (.slice (some ⟨g, 0, none⟩) n c) hs) (i : Nat) (_ : i ≤ hs.length) (j : Nat) (q : Value) (hq : ((hs.drop i).flatMap trackE.c)[j]? = some q) :
    w.cell? ⟨g, i * 2 + j, none⟩ = some q := by
  obtain ⟨rfl, _, _, _, cur, h5, h6, h7⟩ := h.blk
  rw [← flat_drop trackE hs i (by omega), List.getElem?_drop, ← h7, List.getElem?_take] at hq
  split at hq
  · rw [cell_of_row w g _ cur _ (0, 0) h5, ← Array.getElem?_toList]; exact hq
  · cases hq
theorem trackE_one (hs : List TH) : ∀ v ∈ hs.flatMap trackE.c, v.oneCell' = true := flat_one trackE hs

set_option maxRecDepth 100000 in
set_option maxHeartbeats 4000000 in
theorem ins_room (g c : Nat) (hs : List TH) (x : TH) (i vb base : Nat) (w : World) (h : trackE.Own 66 w base (.slice (some ⟨g, 0, none⟩) hs.length c) hs) (hv : Blk w vb #[.int .i64 x.id, .pointer (some ⟨x.b, 0, none⟩)] 66) (hvb : vb ≠ g)
    (hn : hs.length ≤ 1000) (hi : i < hs.length) (hroom : hs.length + 1 ≤ c) :
    Calls Tryz.prog 99 #[.slice (some ⟨g, 0, none⟩) hs.length c, .int .i64 i, .slice (some ⟨vb, 0, none⟩) 1 1] w fun e w' => ∃ u, e = .returned u ∧ trackE.Own 66 w' base u (insL hs i x) ∧ w.grownBy w' (some g) := by
  obtain ⟨_, hbg, _, hcm, cur, h5, h6, h7⟩ := h.blk
  have hcs : cur.size = c * 2 := h6
  obtain ⟨L, hL⟩ : ∃ L, L = cur.toList := ⟨_, rfl⟩
  have hLl : L.length = c * 2 := by rw [hL]; simpa using hcs
  have hg : w.heap[g]? = some (.cells L.toArray 66 (0, 0)) := by rw [hL]; simpa using h5
  have hLt : L.take (hs.length * 2) = hs.flatMap trackE.c := by rw [hL]; exact h7
  obtain ⟨D, hD⟩ : ∃ D, D = (hs.drop i).flatMap trackE.c := ⟨_, rfl⟩
  obtain ⟨X, hX⟩ : ∃ X : List Value, X = [.int .i64 x.id, .pointer (some ⟨x.b, 0, none⟩)] := ⟨_, rfl⟩
  have hDl : D.length = (hs.length - i) * 2 := by rw [hD, flat_len, List.length_drop]; rfl
  have hXl : X.length = 2 := by rw [hX]; rfl
  have hcp1 : ∀ ty dc sc, (Builtin.copy_ #[61, 61] ty #[.slice (some ⟨g, (i + 1) * 2, none⟩) (hs.length - i) dc, .slice (some ⟨g, i * 2, none⟩) (hs.length + 1 - i) sc]).run Tryz.prog w.drew = .ok (goInt (hs.length - i)) (w.drew.setRow g (lay L ((i + 1) * 2) D).toArray) := fun ty dc sc => by
    have := run_copyK (P := Tryz.prog) w.drew 61 61 ty 66 2 g ((i + 1) * 2) (hs.length - i) dc ⟨g, i * 2, none⟩ (hs.length + 1 - i) sc L 66 D Tryz.underlying61 szTrack hg
      (by rw [hDl]; simp only [Nat.min_def]; split <;> omega) (fun j v hj => by
        have := own_at_drop h i (by omega) j v (by rw [← hD]; exact hj)
        have e : (⟨g, i * 2, none⟩ : Addr).add j = ⟨g, i * 2 + j, none⟩ := by unfold Addr.add; split <;> simp_all
        rw [e]; exact this) (by rw [hDl, hLl]; omega) (by rw [hD]; exact trackE_one _)
    rw [this]
    congr 2
    simp only [Nat.min_def]; split <;> omega
  have hcp2 : ∀ ty dc sc, (Builtin.copy_ #[61, 61] ty #[.slice (some ⟨g, i * 2, none⟩) (hs.length + 1 - i) dc, .slice (some ⟨vb, 0, none⟩) 1 sc]).run Tryz.prog (w.drew.setRow g (lay L ((i + 1) * 2) D).toArray) = .ok (goInt 1) ((w.drew.setRow g (lay L ((i + 1) * 2) D).toArray).setRow g (lay (lay L ((i + 1) * 2) D) (i * 2) X).toArray) := fun ty dc sc => by
    have := run_copyK (P := Tryz.prog) (w.drew.setRow g (lay L ((i + 1) * 2) D).toArray) 61 61 ty 66 2 g (i * 2) (hs.length + 1 - i) dc ⟨vb, 0, none⟩ 1 sc (lay L ((i + 1) * 2) D) 66 X Tryz.underlying61 szTrack (setRow_heap _ g _ _ _ _ hg)
      (by rw [hXl]; simp only [Nat.min_def]; split <;> omega) (fun j v hj => by
        have e : (⟨vb, 0, none⟩ : Addr).add j = ⟨vb, j, none⟩ := by unfold Addr.add; split <;> simp_all
        have hk : Blk (w.drew.setRow g (lay L ((i + 1) * 2) D).toArray) vb #[.int .i64 x.id, .pointer (some ⟨x.b, 0, none⟩)] 66 := hv.drew.grown (setRow_grown _ _ _) (fun h => hvb (by injection h with h; exact h.symm))
        rw [e, hk.cell]
        rw [hX] at hj
        rw [← Array.getElem?_toList]; exact hj) (by rw [hXl, lay_len _ _ _ (by rw [hDl, hLl]; omega), hLl]; omega) (by rw [hX]; intro v hv; simp at hv; rcases hv with rfl | rfl <;> rfl)
    rw [this]
    congr 2
    simp only [Nat.min_def]; split <;> omega
  have hsa : w.shape? vb = some (66, 2) := by unfold World.shape?; rw [show w.heap[vb]? = _ from hv]; rfl
  have hsb : w.shape? g = some (66, c * 2) := by unfold World.shape?; rw [hg]; simp [hLl]
  have hov : ∀ lb cb, (callFunc 112 #[.slice (some ⟨vb, 0, none⟩) 1 1, .slice (some ⟨g, (i + 1) * 2, none⟩) lb cb]).run Tryz.prog w = .ok (.value (.bool false)) w := fun lb cb => by
    rw [run_callFunc_extern Tryz.func112 (by kernel_rfl) (by kernel_rfl) (by kernel_rfl) (e := Extern.SlicesOverlaps.overlaps #[61, 61] #[4]) (by kernel_rfl),
      Lib.run_overlaps_apart w 61 4 66 Tryz.underlying61 2 (fun w => by kernel_rfl) ⟨vb, 0, none⟩ ⟨g, (i + 1) * 2, none⟩ 1 1 lb cb hvb 66 66 2 (c * 2) hsa hsb (by omega) (hv.frozen 0) (hv.frozen 2)]
    rfl
  have HO := Lib.hid h
  have HF := Lib.hid (And.intro hL (And.intro hD hX))
  have HG := Lib.hid (And.intro hg (And.intro hLl (And.intro hLt (And.intro hDl hXl))))
  have hii : (i : Int) < hs.length := by omega
  have hw1 : IntKind.i64.wrap ((i : Int) + 1) = (i : Int) + 1 := IntWalk.i64_in _ (by omega)
  have hb1 : (0 : Int) ≤ (i : Int) + 1 := by omega
  have htn : ((i : Int) + 1).toNat = i + 1 := by omega
  have hb2 : ¬ (c = i + 1) := by omega
  have hb3 : (i : Int) ≤ (hs.length : Int) + 1 := by omega
  have hb4 : ¬ (c = i) := by omega
  have hsl1 : ∀ w, (Instr.slice 61 (.slice (some ⟨g, 0, none⟩) (hs.length + 1) c) (some (.int .i64 ((i : Int) + 1))) none none).run Tryz.prog w = .ok (.slice (some ⟨g, (i + 1) * 2, none⟩) (hs.length + 1 - (i + 1)) (c - (i + 1))) w := fun w => by
    rw [run_slice_l w 61 (some ⟨g, 0, none⟩) (hs.length + 1) c (by kernel_rfl) .i64 ((i : Int) + 1) (by omega) (by omega), show (sizeOf (Tryz.prog.elem 61)).run Tryz.prog w = .ok 2 w from by kernel_rfl, Result.andThen_ok, htn]
    unfold sliced
    rw [if_neg hb2, Option.map_some]
    congr 4
    unfold Addr.add; split <;> simp_all
  have hne : ((i : Int) == (hs.length : Int)) = false := by rw [beq_eq_false_iff_ne]; omega
  have hne2 : (i == hs.length) = false := by rw [beq_eq_false_iff_ne]; omega
  have hc2 : c ≤ 9223372036854775807 := by unfold maxLen at hcm; omega
  clear h hL hD hX hg hLl hLt hDl hXl h5 h6 h7 hcs hsa hsb hcm
  go_enter Tryz.func99, Tryz.ntmps99
  go_wp2_with fail
  refine wp_region_ways (S := (fun _ => True)) [0, 1, 2, 3, 4, 5, 6, 7] (y := .take 0 (.take 1 (.take 2 (.take 3 (.take 4 (.take 5 (.take 6 (.take 7 (.ev 8 (.done) (.stop)))))))))) (by kernel_rfl) (by kernel_rfl) (by kernel_rfl) ?_ (fun hHeld => ?_)
  · trivial
  repeat (first | (refine wpWay_take rfl (by rfl) (by intro w hSw; (try dsimp only at hSw); first | (go_simp; done) | (go_simp; with_reducible rfl)) ?_; try simp only [Act.put, List.setIfInBounds_toArray, List.set_cons_zero, List.set_cons_succ]) | (refine wpWay_skip rfl (by rfl) ?_; try simp only [Act.put, List.setIfInBounds_toArray, List.set_cons_zero, List.set_cons_succ]))
  refine wpWay_ev rfl (fun K hK => ?_) wpWay_stop
  go_wp2_with fail
  refine ⟨trivial, ?_⟩
  refine wpWay_done ?_
  go_wp2_with fail
  go_ret
  refine ⟨_, rfl, ?_, grown_trans (grown_trans (grown_bl (Bl.refl w).drew) (setRow_grown _ _ _)) (setRow_grown _ _ _)⟩
  obtain ⟨g1, g2, g3, g4, g5⟩ := HG.out
  obtain ⟨f1, f2, f3⟩ := HF.out
  have hl1 : (lay L ((i + 1) * 2) D).length = c * 2 := by rw [lay_len _ _ _ (by rw [g4, g2]; omega), g2]
  have hil : (insL hs i x).length = hs.length + 1 := by unfold insL; simp; omega
  refine Enc.Own.ofBlk hil.symm hbg hroom (by unfold maxLen; omega) (setRow_heap _ g _ _ _ _ (setRow_heap _ g _ _ _ _ g1)) (by simp; rw [lay_len _ _ _ (by rw [g5, hl1]; omega), hl1]; rfl) ?_
  show List.take ((hs.length + 1) * 2) _ = _
  have := lay_gap L X D (i * 2) (by rw [g4, g5, g2]; omega)
  rw [g4, g5, show i * 2 + 2 + (hs.length - i) * 2 = (hs.length + 1) * 2 by omega, show i * 2 + 2 = (i + 1) * 2 by omega] at this
  rw [this]
  have e1 : L.take (i * 2) = (hs.take i).flatMap trackE.c := by
    rw [← flat_take trackE hs i (by omega), ← g3, List.take_take, show trackE.sz = 2 from rfl, Nat.min_eq_left (by omega)]
  rw [e1, f2, f3]
  unfold insL
  rw [List.flatMap_append, List.flatMap_cons, List.append_assoc]; rfl

set_option maxRecDepth 100000 in
set_option maxHeartbeats 4000000 in
theorem ins_grow (g : Nat) (hs : List TH) (x : TH) (i vb base : Nat) (w : World) (h : trackE.Own 66 w base (.slice (some ⟨g, 0, none⟩) hs.length hs.length) hs) (hv : Blk w vb #[.int .i64 x.id, .pointer (some ⟨x.b, 0, none⟩)] 66)
    (hn : hs.length ≤ 1000) (hi : i < hs.length) (hbw : base ≤ w.heap.size) :
    Calls Tryz.prog 99 #[.slice (some ⟨g, 0, none⟩) hs.length hs.length, .int .i64 i, .slice (some ⟨vb, 0, none⟩) 1 1] w fun e w' => ∃ u, e = .returned u ∧ trackE.Own 66 w' base u (insL hs i x) ∧ w.grownBy w' (some g) := by
  obtain ⟨i0, hi0, hz0, hs0, hb0⟩ := info_parts infoTrack
  obtain ⟨CAP, hCAP⟩ : ∃ CAP, CAP = grownCap w (hs.length + 1) hs.length 66 := ⟨_, rfl⟩
  have hcap1 : hs.length + 1 ≤ CAP := by rw [hCAP]; exact grownCap_ge _ _ _ _
  have hcap2 : CAP ≤ maxLen := by rw [hCAP]; exact grownCap_le_maxLen _ _ _ _ (by unfold maxLen; omega)
  have hm : (hs.length : Int) + 1 - i = ((hs.length + 1 - i : Nat) : Int) := by omega
  have hne0 : i + (hs.length + 1 - i) = hs.length + 1 := by omega
  obtain ⟨O, hO⟩ : ∃ O, O = (hs.take i).flatMap trackE.c := ⟨_, rfl⟩
  have hOl : O.length = i * 2 := by rw [hO, flat_len, List.length_take, Nat.min_eq_left (by omega)]; rfl
  have hcells : ∀ j q, (hs.flatMap trackE.c)[j]? = some q → w.cell? ((⟨g, 0, none⟩ : Addr).add j) = some q := fun j q hq => by
    have := own_at_drop h 0 (by omega) j q (by simpa using hq)
    rw [addr_add0]; rw [Nat.zero_mul, Nat.zero_add] at this; exact this
  have hOc : ∀ j q, O[j]? = some q → w.cell? ((⟨g, 0, none⟩ : Addr).add j) = some q := fun j q hq => by
    rw [hO, ← flat_take trackE hs i (by omega), List.getElem?_take] at hq
    split at hq
    · exact hcells j q hq
    · cases hq
  have hrun := run_append_zeros_grow (P := Tryz.prog) w 61 3 61 66 i0 (.agg #[.int .i64 0, .pointer none]) Tryz.underlying61 Tryz.underlying3 hi0 hz0 ⟨g, 0, none⟩ i hs.length O (by rw [hOl, hs0]) hOc
    (hs.length + 1 - i) (by rw [hs0]; omega) (by omega) (by omega) (by rw [hb0]; decide) (by rw [hb0]; have := nextslicecap_le (need := i + (hs.length + 1 - i)) (old := hs.length) (by omega); omega)
  rw [hne0, ← hCAP, ← hm] at hrun
  obtain ⟨cur, hcur⟩ : ∃ cur : Array Value, cur = O.toArray ++ Builtin.zeroCells (Value.agg #[.int .i64 0, .pointer none]).cells (hs.length + 1 - i) ++ Builtin.zeroCells (Value.agg #[.int .i64 0, .pointer none]).cells (CAP - (hs.length + 1)) := ⟨_, rfl⟩
  rw [← hcur] at hrun
  obtain ⟨L, hL⟩ : ∃ L, L = cur.toList := ⟨_, rfl⟩
  have hLl : L.length = CAP * 2 := by
    rw [hL, hcur]
    simp [Builtin.zeroCells, hOl, Value.cells]; omega
  have hLt : L.take (i * 2) = O := by
    rw [hL, hcur]
    simp only [Array.toList_append, List.append_assoc]
    rw [List.take_append_of_le_length (by omega), List.take_of_length_le (by omega)]
  have hcL : cur = L.toArray := by rw [hL]
  rw [hcL] at hrun
  obtain ⟨D, hD⟩ : ∃ D, D = (hs.drop i).flatMap trackE.c := ⟨_, rfl⟩
  obtain ⟨X, hX⟩ : ∃ X : List Value, X = [.int .i64 x.id, .pointer (some ⟨x.b, 0, none⟩)] := ⟨_, rfl⟩
  have hDl : D.length = (hs.length - i) * 2 := by rw [hD, flat_len, List.length_drop]; rfl
  have hXl : X.length = 2 := by rw [hX]; rfl
  obtain ⟨W2, hW2⟩ : ∃ W2, W2 = w.drew.alloc (.cells L.toArray 66) := ⟨_, rfl⟩
  rw [← hW2] at hrun
  have hg2 : W2.heap[w.heap.size]? = some (.cells L.toArray 66 (0, 0)) := by rw [hW2]; exact heap_alloc_new w.drew _
  have hbl2 : Bl w W2 := by rw [hW2]; exact (Bl.refl w).drew.alloc _
  have hvb : vb < w.heap.size := hv.lt
  have hcp1 : ∀ ty dc sc, (Builtin.copy_ #[61, 61] ty #[.slice (some ⟨w.heap.size, i * 2, none⟩) (hs.length + 1 - i) dc, .slice (some ⟨vb, 0, none⟩) 1 sc]).run Tryz.prog W2 = .ok (goInt 1) (W2.setRow w.heap.size (lay L (i * 2) X).toArray) := fun ty dc sc => by
    have := run_copyK (P := Tryz.prog) W2 61 61 ty 66 2 w.heap.size (i * 2) (hs.length + 1 - i) dc ⟨vb, 0, none⟩ 1 sc L 66 X Tryz.underlying61 szTrack hg2
      (by rw [hXl]; simp only [Nat.min_def]; split <;> omega) (fun j v hj => by
        rw [addr_add0, (hv.bl hbl2).cell]
        rw [hX] at hj
        rw [← Array.getElem?_toList]; exact hj) (by rw [hXl, hLl]; omega) (by rw [hX]; intro v hv; simp at hv; rcases hv with rfl | rfl <;> rfl)
    rw [this]
    congr 2
    simp only [Nat.min_def]; split <;> omega
  obtain ⟨W3, hW3⟩ : ∃ W3, W3 = W2.setRow w.heap.size (lay L (i * 2) X).toArray := ⟨_, rfl⟩
  rw [← hW3] at hcp1
  have hg3 : W3.heap[w.heap.size]? = some (.cells (lay L (i * 2) X).toArray 66 (0, 0)) := by rw [hW3]; exact setRow_heap _ _ _ _ _ _ hg2
  have hbl3 : Bl w W3 := by rw [hW3]; exact hbl2.grown (setRow_grown _ _ _) (fun k hk => by injection hk with hk; omega)
  have hcp2 : ∀ ty dc sc, (Builtin.copy_ #[61, 61] ty #[.slice (some ⟨w.heap.size, (i + 1) * 2, none⟩) (hs.length - i) dc, .slice (some ⟨g, i * 2, none⟩) (hs.length - i) sc]).run Tryz.prog W3.drew = .ok (goInt (hs.length - i)) (W3.drew.setRow w.heap.size (lay (lay L (i * 2) X) ((i + 1) * 2) D).toArray) := fun ty dc sc => by
    have := run_copyK (P := Tryz.prog) W3.drew 61 61 ty 66 2 w.heap.size ((i + 1) * 2) (hs.length - i) dc ⟨g, i * 2, none⟩ (hs.length - i) sc (lay L (i * 2) X) 66 D Tryz.underlying61 szTrack hg3
      (by rw [hDl]; simp only [Nat.min_def]; split <;> omega) (fun j v hj => by
        have h1 := own_at_drop h i (by omega) j v (by rw [← hD]; exact hj)
        rw [addr_add]; exact (hbl3.drew).cell h1) (by rw [hDl, lay_len _ _ _ (by rw [hXl, hLl]; omega), hLl]; omega) (by rw [hD]; exact trackE_one _)
    rw [this]
    congr 2
    simp only [Nat.min_def]; split <;> omega
  have htn : ((i : Int) + 1).toNat = i + 1 := by omega
  have hb2 : ¬ (CAP = i + 1) := by omega
  have hsl1 : ∀ w', (Instr.slice 61 (.slice (some ⟨w.heap.size, 0, none⟩) (hs.length + 1) CAP) (some (.int .i64 ((i : Int) + 1))) none none).run Tryz.prog w' = .ok (.slice (some ⟨w.heap.size, (i + 1) * 2, none⟩) (hs.length - i) (CAP - (i + 1))) w' := fun w' => by
    rw [run_slice_l w' 61 (some ⟨w.heap.size, 0, none⟩) (hs.length + 1) CAP (by kernel_rfl) .i64 ((i : Int) + 1) (by omega) (by omega), show (sizeOf (Tryz.prog.elem 61)).run Tryz.prog w' = .ok 2 w' from by kernel_rfl, Result.andThen_ok, htn]
    unfold sliced
    rw [if_neg hb2, Option.map_some, show hs.length + 1 - (i + 1) = hs.length - i by omega]
    congr 4
    rw [addr_add0]
  have hsl2 : ∀ w', (Instr.slice 61 (.slice (some ⟨g, 0, none⟩) hs.length hs.length) (some (.int .i64 (i : Int))) none none).run Tryz.prog w' = .ok (.slice (some ⟨g, i * 2, none⟩) (hs.length - i) (hs.length - i)) w' := fun w' => by
    rw [run_slice_l w' 61 (some ⟨g, 0, none⟩) hs.length hs.length (by kernel_rfl) .i64 (i : Int) (by omega) (by omega), show (sizeOf (Tryz.prog.elem 61)).run Tryz.prog w' = .ok 2 w' from by kernel_rfl, Result.andThen_ok, Int.toNat_natCast]
    unfold sliced
    rw [if_neg (by omega), Option.map_some]
    congr 4
    rw [addr_add0]
  have HO := Lib.hid h
  have HF := Lib.hid (And.intro hO (And.intro hD hX))
  have HG := Lib.hid (And.intro hg3 (And.intro hLl (And.intro hLt (And.intro hDl hXl))))
  have HB := Lib.hid hbl3
  have HR := Lib.hid hrun
  have hii : (i : Int) < hs.length := by omega
  have hw1 : IntKind.i64.wrap ((i : Int) + 1) = (i : Int) + 1 := IntWalk.i64_in _ (by omega)
  have hb1 : (0 : Int) ≤ (i : Int) + 1 := by omega
  have hb3 : (i : Int) ≤ (hs.length : Int) + 1 := by omega
  have hb4 : ¬ (CAP = i) := by omega
  have hb5 : ¬ (hs.length = i) := by omega
  have hne : ((i : Int) == (hs.length : Int)) = false := by rw [beq_eq_false_iff_ne]; omega
  have hne2 : (i == hs.length) = false := by rw [beq_eq_false_iff_ne]; omega
  have hc2 : CAP ≤ 9223372036854775807 := by unfold maxLen at hcap2; omega
  clear h hL hD hX hLl hLt hDl hXl hCAP hcur hcL hO hOl hcells hOc hg2 hg3 hW2 hW3 hbl2 hbl3 hrun hi0 hz0 hs0 hb0 hm hne0
  go_enter Tryz.func99, Tryz.ntmps99
  go_wp2_with (at_builtin; refine wpList_append_run rfl (.tmp 34) (.tmp 39) 61 3 rfl _ _ _ rfl rfl HR.out ?_)
  refine wp_region_ways (S := (fun _ => True)) [0, 1, 2, 3, 4, 5, 6, 7] (y := .take 0 (.take 1 (.take 2 (.take 3 (.take 4 (.take 5 (.take 6 (.take 7 (.ev 8 (.done) (.stop)))))))))) (by kernel_rfl) (by kernel_rfl) (by kernel_rfl) ?_ (fun hHeld => ?_)
  · trivial
  repeat (first | (refine wpWay_take rfl (by rfl) (by intro w hSw; (try dsimp only at hSw); first | (go_simp; done) | (go_simp; with_reducible rfl)) ?_; try simp only [Act.put, List.setIfInBounds_toArray, List.set_cons_zero, List.set_cons_succ]) | (refine wpWay_skip rfl (by rfl) ?_; try simp only [Act.put, List.setIfInBounds_toArray, List.set_cons_zero, List.set_cons_succ]))
  refine wpWay_ev rfl (fun K hK => ?_) wpWay_stop
  go_wp2_with fail
  refine ⟨trivial, ?_⟩
  refine wpWay_done ?_
  go_wp2_with fail
  go_ret
  refine ⟨_, rfl, ?_, grown_bl (((HB.out).drew).grown (setRow_grown _ _ _) (fun k hk => by injection hk with hk; omega))⟩
  obtain ⟨g1, g2, g3, g4, g5⟩ := HG.out
  obtain ⟨f1, f2, f3⟩ := HF.out
  have hl1 : (lay L (i * 2) X).length = CAP * 2 := by rw [lay_len _ _ _ (by rw [g5, g2]; omega), g2]
  have hil : (insL hs i x).length = hs.length + 1 := by unfold insL; simp; omega
  refine Enc.Own.ofBlk hil.symm hbw hcap1 hcap2 (setRow_heap _ w.heap.size _ _ _ _ g1) (by simp; rw [lay_len _ _ _ (by rw [g4, hl1]; omega), hl1]; rfl) ?_
  show List.take ((hs.length + 1) * 2) _ = _
  have := lay_two L X D (i * 2) (by rw [g4, g5, g2]; omega)
  rw [g4, g5, show i * 2 + 2 + (hs.length - i) * 2 = (hs.length + 1) * 2 by omega, show i * 2 + 2 = (i + 1) * 2 by omega] at this
  rw [this, g3, f1, f2, f3]
  unfold insL
  rw [List.flatMap_append, List.flatMap_cons, List.append_assoc]; rfl
end Go.Proofs.YtddcjekkimajpaaGreat.ExtW

/- Contracts of state.Put, Tree, Length, Ids. -/
namespace Go.Proofs.YtddcjekkimajpaaGreat.ExtW
open Go.RowKit Go.Ov Go.Proofs.YtddcjekkimajpaaGreat.Need

theorem ins_any (v : Value) (hs : List TH) (x : TH) (i vb base : Nat) (w : World) (h : trackE.Own 66 w base v hs) (hv : Blk w vb #[.int .i64 x.id, .pointer (some ⟨x.b, 0, none⟩)] 66) (hvb : v.ownBlock ≠ some vb) (hn : hs.length ≤ 1000) (hi : i ≤ hs.length) (hb : base ≤ w.heap.size) :
    Calls Tryz.prog 99 #[v, .int .i64 i, .slice (some ⟨vb, 0, none⟩) 1 1] w fun e w' => ∃ u, e = .returned u ∧ trackE.Own 66 w' base u (insL hs i x) ∧ w.grownBy w' v.ownBlock := by
  by_cases he : i = hs.length
  · subst he; exact ins_end v hs x vb base w h hv hn hb
  · rcases h.parts with ⟨_, h0⟩ | ⟨g, c, rfl, _⟩
    · omega
    · obtain ⟨_, _, hc, _⟩ := h.blk
      have hne : vb ≠ g := fun e => hvb (by rw [e]; rfl)
      by_cases hr : hs.length + 1 ≤ c
      · exact ins_room g c hs x i vb base w h hv hne hn (by omega) hr
      · obtain rfl : c = hs.length := by omega
        exact ins_grow g hs x i vb base w h hv hn (by omega) hb

/-- a state, or why not -/
def StRes (w' : World) (e : Ending) (s : StM × Int) : Prop :=
  (s.2 = 0 → ∃ u, e = .returned (.tuple #[u, .int .i64 0]) ∧ StateIs w' u s.1) ∧ (s.2 ≠ 0 → e = .returned (.tuple #[.pointer none, .int .i64 s.2]))
theorem StRes.sub {a b : World} {e : Ending} {s : StM × Int} (h : StRes a e s) (hs : Sub a b) : StRes b e s := ⟨fun z => by obtain ⟨u, e, t⟩ := h.1 z; exact ⟨u, e, hs.state t⟩, h.2⟩
theorem StRes.ok {w' : World} {u : Value} {s : StM} (h : StateIs w' u s) : StRes w' (.returned (.tuple #[u, .int .i64 0])) (s, 0) := ⟨fun _ => ⟨u, rfl, h⟩, fun h => absurd rfl h⟩
theorem StRes.bad {w' : World} {n : Int} (hn : n ≠ 0) (s : StM) : StRes w' (.returned (.tuple #[.pointer none, .int .i64 n])) (s, n) := ⟨fun h => absurd h hn, fun _ => rfl⟩

def putR (s : StM) (id : Int) (t : TreeM) : StM × Int :=
  if id < 0 ∨ 99 < id then ([], 1) else if findS s id < 0 ∧ 6 ≤ s.length then ([], 4) else (putL s id t, 0)

theorem below_le (id : Int) : ∀ s : StM, below id s ≤ s.length
  | [] => Nat.le_refl _
  | t :: s => by unfold below; split; have := below_le id s; simp; omega; exact Nat.zero_le _
theorem below_lt (id : Int) : ∀ (s : StM) (k : Nat) (h : k < s.length), k < below id s → s[k].1 < id
  | t :: s, 0, h, hk => by
    unfold below at hk
    split at hk
    · assumption
    · omega
  | t :: s, k + 1, h, hk => by
    unfold below at hk
    split at hk
    · exact below_lt id s k (by simpa using h) (by omega)
    · omega
theorem below_ge (id : Int) : ∀ (s : StM) (h : below id s < s.length), ¬ s[below id s].1 < id
  | t :: s, h => by
    unfold below at h
    by_cases e : t.1 < id
    · rw [if_pos e] at h
      have := below_ge id s (by simpa using h)
      have e2 : below id (t :: s) = below id s + 1 := by rw [below, if_pos e]
      simp only [e2, List.getElem_cons_succ]; exact this
    · have e2 : below id (t :: s) = 0 := by rw [below, if_neg e]
      simp only [e2, List.getElem_cons_zero]; exact e
theorem TRows.len {w : World} {hs : List TH} {s : StM} (h : TRows w hs s) : hs.length = s.length := h.1

set_option maxRecDepth 100000 in
set_option maxHeartbeats 2000000 in
theorem sput_G (G : Nat → Bool) (v : Value) (s : StM) (id : Int) (tv : Value) (t : TreeM) (w : World) (h : StateIs (only w G) v s) (ht : TreeIs (only w G) tv t) (hn : s.length ≤ 6) :
    Calls Tryz.prog 72 #[v, .int .i64 id, tv] w fun e w' => StRes (only w' (gor G w)) e (putR s id t) ∧ Bl w w' := by
  have HS := Lib.hid h
  have HT := Lib.hid ht
  obtain ⟨b, u, hs0, rfl, c0, h1, h2⟩ := h
  replace c0 := (only_cell c0).2
  obtain ⟨tb, _, _, rfl, _⟩ := ht
  obtain ⟨A0, cc0, e0, _⟩ := h1
  rw [e0] at c0
  have hl0 : hs0.length ≤ 6 := by rw [h2.1]; exact hn
  have HL0 := Lib.hid h2.1
  have hu := Tryz.underlying63
  have hu2 := Tryz.underlying66
  clear h2 e0
  by_cases hb1 : id < 0
  · have hr : putR s id t = ([], 1) := if_pos (.inl hb1)
    have HR := Lib.hid hr
    rw [hr]
    clear hr
    go_enter Tryz.func72, Tryz.ntmps72
    go_wp2_with fail
    go_ret2
    exact ⟨StRes.bad (by decide) _, Bl.refl _⟩
  · by_cases hb2 : 99 < id
    · have hr : putR s id t = ([], 1) := if_pos (.inr hb2)
      rw [hr]
      clear hr
      go_enter Tryz.func72, Tryz.ntmps72
      go_wp2_with fail
      go_ret2
      exact ⟨StRes.bad (by decide) _, Bl.refl _⟩
    · by_cases hlim : findS s id < 0 ∧ 6 ≤ s.length
      · obtain ⟨hf, hm⟩ := hlim
        have hr : putR s id t = ([], 4) := by unfold putR; rw [if_neg (by omega), if_pos ⟨hf, hm⟩]
        rw [hr]
        have hm2 : 6 ≤ hs0.length := by have := HL0.out; omega
        have hm3 : (6 : Int) ≤ hs0.length := by omega
        clear hr
        go_enter Tryz.func72, Tryz.ntmps72
        go_wp2_with fail
        refine (sfind_any _ s id _ ((Sub.un _ _).state HS.out)).mono ?_
        rintro e w1 ⟨rfl, hb⟩
        have c1 := hb.cell c0
        go_wp2_with fail
        go_ret2
        exact ⟨StRes.bad (by decide) _, hb⟩
      · have hr : putR s id t = (putL s id t, 0) := by unfold putR; rw [if_neg (by omega), if_neg hlim]
        rw [hr]
        clear hr
        go_enter Tryz.func72, Tryz.ntmps72
        go_wp2_with fail
        refine (sfind_any _ s id _ ((Sub.un _ _).state HS.out)).mono ?_
        rintro e w1 ⟨rfl, hb⟩
        have c1 := hb.cell c0
        have HB := Lib.hid hb
        clear hb
        rcases (show 0 ≤ findS s id ∨ (findS s id < 0 ∧ hs0.length < 6) from by have := HL0.out; omega) with hf | ⟨hf, hm⟩
        · clear hlim
          go_wp2_with fail
          refine (swithout_own G _ s id _ (HS.out.bl (HB.out.only G)) (by omega)).mono ?_
          rintro e w2 ⟨b2, u2, hs, rfl, hk2, hb2s, ho, hne, hr, hb⟩
          have HW := Lib.hid (HB.out.bl hb)
          have HR := Lib.hid (show TRows (only w2 G) (others id hs) (withoutS s id) from (hr.bl (hb.only G)).filter (fun i => i != id))
          have HSZ := Lib.hid hb.size
          have HR1 := Lib.hid (show TRows (only w1 G) (others id hs) (withoutS s id) from hr.filter (fun i => i != id))
          have HB2 := Lib.hid hb
          obtain ⟨A2, c2, e2⟩ := ho.slice
          rw [e2] at hk2 ho hne
          have HK := Lib.hid hk2
          have HO := Lib.hid ho
          have HNE := Lib.hid hne
          have d0 := hk2.cell 0
          simp at d0
          have hlen : (others id hs).length = (withoutS s id).length := HR.out.1
          have hsm : (withoutS s id).length ≤ 6 := Nat.le_trans (List.length_filter_le _ _) hn
          have hcc := HO.out.is
          obtain ⟨A3, c3, e3, _, _, _, hat⟩ := hcc
          simp at e3
          obtain ⟨rfl, rfl⟩ := e3
          have HAT := Lib.hid hat
          have HIDS := Lib.hid (show ∀ k (h : k < (others id hs).length) (h' : k < (withoutS s id).length), (others id hs)[k].id = (withoutS s id)[k].1 from fun k h h' => (HR.out.2 k _ _ (List.getElem?_eq_getElem h') (List.getElem?_eq_getElem h)).1)
          obtain ⟨S2, hS2⟩ : ∃ S2, S2 = withoutS s id := ⟨_, rfl⟩
          obtain ⟨hs2, hhs2⟩ : ∃ hs2, hs2 = others id hs := ⟨_, rfl⟩
          rw [← hS2] at HR HR1 HIDS hlen hsm
          rw [← hhs2] at HR HR1 HO HK HNE HAT HIDS hlen d0
          have HPL := Lib.hid (show putL s id t = insertS S2 id t by rw [hS2]; rfl)
          clear hk2 ho hne hr hb e2 hat hS2
          clear hhs2
          have hl3 : hs2.length ≤ 1000 := by omega
          have HLN := Lib.hid hlen
          clear hlen
          go_wp2_with fail
          go_loopg [9] hs2.length (fun g i wr => ∃ k : Nat, k ≤ hs2.length ∧ k ≤ below id S2 ∧ g = hs2.length - k ∧ i = .int .i64 k ∧ wr = w2)
          case atStart => exact ⟨0, by omega, by omega, rfl, rfl, rfl⟩
          case round =>
            obtain ⟨k, hk, hkb, rfl, rfl, rfl⟩ := hrel
            by_cases hlt : k < hs2.length
            · have hlt2 : k < S2.length := by have := HLN.out; omega
              have hid := HIDS.out k hlt hlt2
              have hbl := below_lt id S2 k hlt2
              have hge := fun e : k = below id S2 => below_ge id S2 (by rw [← e]; exact hlt2)
              obtain ⟨ad, rfl, k0, k1⟩ := track_at HAT.out k hlt
              rw [hid] at k0
              by_cases hq : S2[k].1 < id
              · have hkb2 : k < below id S2 := by
                  by_cases e : k = below id S2
                  · have := hge e
                    simp only [← e] at this
                    exact absurd hq this
                  · omega
                clear hbl hge hid k1
                generalize S2[k].1 = y at *
                have hki : (k : Int) < hs2.length := by omega
                go_wp2_with fail
                go_roundg (hs2.length - (k + 1))
                case measure => omega
                case rel => exact ⟨k + 1, by omega, by omega, rfl, by go_num, rfl⟩
              · have hke : k = below id S2 := by
                  by_cases e : k = below id S2
                  · exact e
                  · exact absurd (hbl (by omega)) hq
                have HKE := Lib.hid hke
                clear hbl hge hid k1 hke
                generalize S2[k].1 = y at *
                have hki : (k : Int) < hs2.length := by omega
                go_wp2_with fail
                have HV := Lib.hid (Blk.new wr #[.int .i64 id, .pointer (some ⟨tb, 0, none⟩)] 66)
                refine (ins_any _ hs2 ⟨id, tb⟩ k wr.heap.size w1.heap.size _ (HO.out.bl ((Bl.refl _).alloc _)) HV.out (fun he => by have := (Enc.Own.lt HO.out _ he).2; omega) hl3 hk (Nat.le_trans HSZ.out ((Bl.refl wr).alloc _).size)).mono ?_
                rintro e w3 ⟨z, rfl, ho, hg⟩
                have HZ := Lib.hid ho
                have HK3 := Lib.hid ((HK.out.bl ((Bl.refl _).alloc _)).grown hg HNE.out)
                have HB4 := Lib.hid ((HB2.out.alloc _).grown hg (fun g hg => (Enc.Own.lt HO.out g hg).1))
                have HB3 := Lib.hid ((HW.out.alloc _).grown hg (fun g hg => by have h1 := (Enc.Own.lt HO.out g hg).1; have h2 := HB.out.size; omega))
                obtain ⟨A4, c4, rfl⟩ := ho.slice
                clear ho hg
                have z0 := HK3.out.cell 0
                simp at z0
                have z1 := HK3.out.frozen 0
                have z2 := HK3.out.lt
                have hzb : (Value.slice A4 (insL hs2 k ⟨id, tb⟩).length c4).ownBlock ≠ some b2 := HZ.out.ne_blk HK3.out (by decide)
                have HZB := Lib.hid hzb
                clear hzb
                go_wp2_with fail
                go_ret2
                have hins : insL hs2 k ⟨id, tb⟩ = hs2.take k ++ ⟨id, tb⟩ :: hs2.drop k := rfl
                have hfin : TRows (only w1 G) (insL hs2 k ⟨id, tb⟩) (insertS S2 id t) := by
                  unfold insertS
                  rw [hins, ← HKE.out]
                  exact (HR1.out.take k).append (TRows.cons ⟨rfl, HT.out.bl (HB.out.only G)⟩ (HR1.out.drop k))
                have hb3 := Bl.set HB3.out b2 0 (.slice A4 (insL hs2 k ⟨id, tb⟩).length c4) (by have := HB.out.size; omega)
                refine ⟨?_, hb3⟩
                rw [HPL.out]
                refine StRes.ok ⟨b2, ⟨A4, (insL hs2 k ⟨id, tb⟩).length, c4⟩, insL hs2 k ⟨id, tb⟩, rfl, cell_only (fr_gor G w _ (fr_ge HB.out.size hb2s)) ((HK3.out.set 0 _).cell 0), ?_, (Sub.mono (gor_l G w)).trows (hfin.bl (Bl.only ?_ G))⟩
                · exact Enc.Own.isM (HZ.out.grown (setCell_grown _ _ _ _) (.inr HZB.out)) (fun k hk => fr_gor G w _ (fr_ge HB.out.size hk))
                · exact Bl.set HB4.out _ _ _ hb2s
            · have hke : k = below id S2 := by have := below_le id S2; have := HLN.out; omega
              have HKE := Lib.hid hke
              clear hke
              go_wp2_with fail
              have HV := Lib.hid (Blk.new wr #[.int .i64 id, .pointer (some ⟨tb, 0, none⟩)] 66)
              refine (ins_any _ hs2 ⟨id, tb⟩ k wr.heap.size w1.heap.size _ (HO.out.bl ((Bl.refl _).alloc _)) HV.out (fun he => by have := (Enc.Own.lt HO.out _ he).2; omega) hl3 hk (Nat.le_trans HSZ.out ((Bl.refl wr).alloc _).size)).mono ?_
              rintro e w3 ⟨z, rfl, ho, hg⟩
              have HZ := Lib.hid ho
              have HK3 := Lib.hid ((HK.out.bl ((Bl.refl _).alloc _)).grown hg HNE.out)
              have HB4 := Lib.hid ((HB2.out.alloc _).grown hg (fun g hg => (Enc.Own.lt HO.out g hg).1))
              have HB3 := Lib.hid ((HW.out.alloc _).grown hg (fun g hg => by have h1 := (Enc.Own.lt HO.out g hg).1; have h2 := HB.out.size; omega))
              obtain ⟨A4, c4, rfl⟩ := ho.slice
              clear ho hg
              have z0 := HK3.out.cell 0
              simp at z0
              have z1 := HK3.out.frozen 0
              have z2 := HK3.out.lt
              have hzb : (Value.slice A4 (insL hs2 k ⟨id, tb⟩).length c4).ownBlock ≠ some b2 := HZ.out.ne_blk HK3.out (by decide)
              have HZB := Lib.hid hzb
              clear hzb
              go_wp2_with fail
              go_ret2
              have hins : insL hs2 k ⟨id, tb⟩ = hs2.take k ++ ⟨id, tb⟩ :: hs2.drop k := rfl
              have hfin : TRows (only w1 G) (insL hs2 k ⟨id, tb⟩) (insertS S2 id t) := by
                unfold insertS
                rw [hins, ← HKE.out]
                exact (HR1.out.take k).append (TRows.cons ⟨rfl, HT.out.bl (HB.out.only G)⟩ (HR1.out.drop k))
              have hb3 := Bl.set HB3.out b2 0 (.slice A4 (insL hs2 k ⟨id, tb⟩).length c4) (by have := HB.out.size; omega)
              refine ⟨?_, hb3⟩
              rw [HPL.out]
              refine StRes.ok ⟨b2, ⟨A4, (insL hs2 k ⟨id, tb⟩).length, c4⟩, insL hs2 k ⟨id, tb⟩, rfl, cell_only (fr_gor G w _ (fr_ge HB.out.size hb2s)) ((HK3.out.set 0 _).cell 0), ?_, (Sub.mono (gor_l G w)).trows (hfin.bl (Bl.only ?_ G))⟩
              · exact Enc.Own.isM (HZ.out.grown (setCell_grown _ _ _ _) (.inr HZB.out)) (fun k hk => fr_gor G w _ (fr_ge HB.out.size hk))
              · exact Bl.set HB4.out _ _ _ hb2s
        · have hm3 : (hs0.length : Int) < 6 := by omega
          clear hlim
          go_wp2_with fail
          refine (swithout_own G _ s id _ (HS.out.bl (HB.out.only G)) (by omega)).mono ?_
          rintro e w2 ⟨b2, u2, hs, rfl, hk2, hb2s, ho, hne, hr, hb⟩
          have HW := Lib.hid (HB.out.bl hb)
          have HR := Lib.hid (show TRows (only w2 G) (others id hs) (withoutS s id) from (hr.bl (hb.only G)).filter (fun i => i != id))
          have HSZ := Lib.hid hb.size
          have HR1 := Lib.hid (show TRows (only w1 G) (others id hs) (withoutS s id) from hr.filter (fun i => i != id))
          have HB2 := Lib.hid hb
          obtain ⟨A2, c2, e2⟩ := ho.slice
          rw [e2] at hk2 ho hne
          have HK := Lib.hid hk2
          have HO := Lib.hid ho
          have HNE := Lib.hid hne
          have d0 := hk2.cell 0
          simp at d0
          have hlen : (others id hs).length = (withoutS s id).length := HR.out.1
          have hsm : (withoutS s id).length ≤ 6 := Nat.le_trans (List.length_filter_le _ _) hn
          have hcc := HO.out.is
          obtain ⟨A3, c3, e3, _, _, _, hat⟩ := hcc
          simp at e3
          obtain ⟨rfl, rfl⟩ := e3
          have HAT := Lib.hid hat
          have HIDS := Lib.hid (show ∀ k (h : k < (others id hs).length) (h' : k < (withoutS s id).length), (others id hs)[k].id = (withoutS s id)[k].1 from fun k h h' => (HR.out.2 k _ _ (List.getElem?_eq_getElem h') (List.getElem?_eq_getElem h)).1)
          obtain ⟨S2, hS2⟩ : ∃ S2, S2 = withoutS s id := ⟨_, rfl⟩
          obtain ⟨hs2, hhs2⟩ : ∃ hs2, hs2 = others id hs := ⟨_, rfl⟩
          rw [← hS2] at HR HR1 HIDS hlen hsm
          rw [← hhs2] at HR HR1 HO HK HNE HAT HIDS hlen d0
          have HPL := Lib.hid (show putL s id t = insertS S2 id t by rw [hS2]; rfl)
          clear hk2 ho hne hr hb e2 hat hS2
          clear hhs2
          have hl3 : hs2.length ≤ 1000 := by omega
          have HLN := Lib.hid hlen
          clear hlen
          go_wp2_with fail
          go_loopg [9] hs2.length (fun g i wr => ∃ k : Nat, k ≤ hs2.length ∧ k ≤ below id S2 ∧ g = hs2.length - k ∧ i = .int .i64 k ∧ wr = w2)
          case atStart => exact ⟨0, by omega, by omega, rfl, rfl, rfl⟩
          case round =>
            obtain ⟨k, hk, hkb, rfl, rfl, rfl⟩ := hrel
            by_cases hlt : k < hs2.length
            · have hlt2 : k < S2.length := by have := HLN.out; omega
              have hid := HIDS.out k hlt hlt2
              have hbl := below_lt id S2 k hlt2
              have hge := fun e : k = below id S2 => below_ge id S2 (by rw [← e]; exact hlt2)
              obtain ⟨ad, rfl, k0, k1⟩ := track_at HAT.out k hlt
              rw [hid] at k0
              by_cases hq : S2[k].1 < id
              · have hkb2 : k < below id S2 := by
                  by_cases e : k = below id S2
                  · have := hge e
                    simp only [← e] at this
                    exact absurd hq this
                  · omega
                clear hbl hge hid k1
                generalize S2[k].1 = y at *
                have hki : (k : Int) < hs2.length := by omega
                go_wp2_with fail
                go_roundg (hs2.length - (k + 1))
                case measure => omega
                case rel => exact ⟨k + 1, by omega, by omega, rfl, by go_num, rfl⟩
              · have hke : k = below id S2 := by
                  by_cases e : k = below id S2
                  · exact e
                  · exact absurd (hbl (by omega)) hq
                have HKE := Lib.hid hke
                clear hbl hge hid k1 hke
                generalize S2[k].1 = y at *
                have hki : (k : Int) < hs2.length := by omega
                go_wp2_with fail
                have HV := Lib.hid (Blk.new wr #[.int .i64 id, .pointer (some ⟨tb, 0, none⟩)] 66)
                refine (ins_any _ hs2 ⟨id, tb⟩ k wr.heap.size w1.heap.size _ (HO.out.bl ((Bl.refl _).alloc _)) HV.out (fun he => by have := (Enc.Own.lt HO.out _ he).2; omega) hl3 hk (Nat.le_trans HSZ.out ((Bl.refl wr).alloc _).size)).mono ?_
                rintro e w3 ⟨z, rfl, ho, hg⟩
                have HZ := Lib.hid ho
                have HK3 := Lib.hid ((HK.out.bl ((Bl.refl _).alloc _)).grown hg HNE.out)
                have HB4 := Lib.hid ((HB2.out.alloc _).grown hg (fun g hg => (Enc.Own.lt HO.out g hg).1))
                have HB3 := Lib.hid ((HW.out.alloc _).grown hg (fun g hg => by have h1 := (Enc.Own.lt HO.out g hg).1; have h2 := HB.out.size; omega))
                obtain ⟨A4, c4, rfl⟩ := ho.slice
                clear ho hg
                have z0 := HK3.out.cell 0
                simp at z0
                have z1 := HK3.out.frozen 0
                have z2 := HK3.out.lt
                have hzb : (Value.slice A4 (insL hs2 k ⟨id, tb⟩).length c4).ownBlock ≠ some b2 := HZ.out.ne_blk HK3.out (by decide)
                have HZB := Lib.hid hzb
                clear hzb
                go_wp2_with fail
                go_ret2
                have hins : insL hs2 k ⟨id, tb⟩ = hs2.take k ++ ⟨id, tb⟩ :: hs2.drop k := rfl
                have hfin : TRows (only w1 G) (insL hs2 k ⟨id, tb⟩) (insertS S2 id t) := by
                  unfold insertS
                  rw [hins, ← HKE.out]
                  exact (HR1.out.take k).append (TRows.cons ⟨rfl, HT.out.bl (HB.out.only G)⟩ (HR1.out.drop k))
                have hb3 := Bl.set HB3.out b2 0 (.slice A4 (insL hs2 k ⟨id, tb⟩).length c4) (by have := HB.out.size; omega)
                refine ⟨?_, hb3⟩
                rw [HPL.out]
                refine StRes.ok ⟨b2, ⟨A4, (insL hs2 k ⟨id, tb⟩).length, c4⟩, insL hs2 k ⟨id, tb⟩, rfl, cell_only (fr_gor G w _ (fr_ge HB.out.size hb2s)) ((HK3.out.set 0 _).cell 0), ?_, (Sub.mono (gor_l G w)).trows (hfin.bl (Bl.only ?_ G))⟩
                · exact Enc.Own.isM (HZ.out.grown (setCell_grown _ _ _ _) (.inr HZB.out)) (fun k hk => fr_gor G w _ (fr_ge HB.out.size hk))
                · exact Bl.set HB4.out _ _ _ hb2s
            · have hke : k = below id S2 := by have := below_le id S2; have := HLN.out; omega
              have HKE := Lib.hid hke
              clear hke
              go_wp2_with fail
              have HV := Lib.hid (Blk.new wr #[.int .i64 id, .pointer (some ⟨tb, 0, none⟩)] 66)
              refine (ins_any _ hs2 ⟨id, tb⟩ k wr.heap.size w1.heap.size _ (HO.out.bl ((Bl.refl _).alloc _)) HV.out (fun he => by have := (Enc.Own.lt HO.out _ he).2; omega) hl3 hk (Nat.le_trans HSZ.out ((Bl.refl wr).alloc _).size)).mono ?_
              rintro e w3 ⟨z, rfl, ho, hg⟩
              have HZ := Lib.hid ho
              have HK3 := Lib.hid ((HK.out.bl ((Bl.refl _).alloc _)).grown hg HNE.out)
              have HB4 := Lib.hid ((HB2.out.alloc _).grown hg (fun g hg => (Enc.Own.lt HO.out g hg).1))
              have HB3 := Lib.hid ((HW.out.alloc _).grown hg (fun g hg => by have h1 := (Enc.Own.lt HO.out g hg).1; have h2 := HB.out.size; omega))
              obtain ⟨A4, c4, rfl⟩ := ho.slice
              clear ho hg
              have z0 := HK3.out.cell 0
              simp at z0
              have z1 := HK3.out.frozen 0
              have z2 := HK3.out.lt
              have hzb : (Value.slice A4 (insL hs2 k ⟨id, tb⟩).length c4).ownBlock ≠ some b2 := HZ.out.ne_blk HK3.out (by decide)
              have HZB := Lib.hid hzb
              clear hzb
              go_wp2_with fail
              go_ret2
              have hins : insL hs2 k ⟨id, tb⟩ = hs2.take k ++ ⟨id, tb⟩ :: hs2.drop k := rfl
              have hfin : TRows (only w1 G) (insL hs2 k ⟨id, tb⟩) (insertS S2 id t) := by
                unfold insertS
                rw [hins, ← HKE.out]
                exact (HR1.out.take k).append (TRows.cons ⟨rfl, HT.out.bl (HB.out.only G)⟩ (HR1.out.drop k))
              have hb3 := Bl.set HB3.out b2 0 (.slice A4 (insL hs2 k ⟨id, tb⟩).length c4) (by have := HB.out.size; omega)
              refine ⟨?_, hb3⟩
              rw [HPL.out]
              refine StRes.ok ⟨b2, ⟨A4, (insL hs2 k ⟨id, tb⟩).length, c4⟩, insL hs2 k ⟨id, tb⟩, rfl, cell_only (fr_gor G w _ (fr_ge HB.out.size hb2s)) ((HK3.out.set 0 _).cell 0), ?_, (Sub.mono (gor_l G w)).trows (hfin.bl (Bl.only ?_ G))⟩
              · exact Enc.Own.isM (HZ.out.grown (setCell_grown _ _ _ _) (.inr HZB.out)) (fun k hk => fr_gor G w _ (fr_ge HB.out.size hk))
              · exact Bl.set HB4.out _ _ _ hb2s
theorem sput_any (v : Value) (s : StM) (id : Int) (tv : Value) (t : TreeM) (w : World) (h : StateIs w v s) (ht : TreeIs w tv t) (hn : s.length ≤ 6) :
    Calls Tryz.prog 72 #[v, .int .i64 id, tv] w fun e w' => StRes w' e (putR s id t) ∧ Bl w w' :=
  (sput_G (fun _ => true) v s id tv t w (Sub.state (fun _ _ h => cell_only rfl h) h) (Sub.tree (fun _ _ h => cell_only rfl h) ht) hn).mono fun _ w' ⟨h, hb⟩ => ⟨h.sub (Sub.un w' _), hb⟩
end Go.Proofs.YtddcjekkimajpaaGreat.ExtW

/- Contracts of state.New, Tree, Length, Ids; record.Valid. -/
namespace Go.Proofs.YtddcjekkimajpaaGreat.ExtW
open Go.RowKit Go.Ov Go.Proofs.YtddcjekkimajpaaGreat.Need

def getS : StM → Int → Option TreeM
  | [], _ => none
  | t :: s, id => if t.1 = id then some t.2 else getS s id
theorem idx_get (id : Int) : ∀ (s : StM) (k : Nat), (idxFrom id k (s.map (·.1)) = -1 ∧ getS s id = none) ∨ ∃ i, ∃ h : i < s.length, idxFrom id k (s.map (·.1)) = ((k + i : Nat) : Int) ∧ s[i].1 = id ∧ getS s id = some s[i].2
  | [], _ => .inl ⟨rfl, rfl⟩
  | t :: s, k => by
    rw [List.map_cons]
    unfold idxFrom getS
    by_cases e : t.1 = id
    · simp only [if_pos e]
      exact .inr ⟨0, by simp, by simp, e, rfl⟩
    · simp only [if_neg e]
      rcases idx_get id s (k + 1) with ⟨h1, h2⟩ | ⟨i, h, h1, h2, h3⟩
      · exact .inl ⟨h1, h2⟩
      · exact .inr ⟨i + 1, by simp; omega, by rw [h1]; congr 1; omega, by simpa using h2, by simpa using h3⟩
theorem findS_get (s : StM) (id : Int) : (findS s id = -1 ∧ getS s id = none) ∨ ∃ i, ∃ h : i < s.length, findS s id = (i : Int) ∧ s[i].1 = id ∧ getS s id = some s[i].2 := by
  have := idx_get id s 0
  simpa [findS] using this

def TreeRes (w' : World) (e : Ending) (o : Option TreeM) : Prop :=
  (o = none → e = .returned (.tuple #[.pointer none, .bool false])) ∧ ∀ t, o = some t → ∃ u, e = .returned (.tuple #[u, .bool true]) ∧ TreeIs w' u t
def LenRes (e : Ending) (o : Option TreeM) : Prop :=
  (o = none → e = .returned (.tuple #[.int .i64 0, .bool false])) ∧ ∀ t, o = some t → e = .returned (.tuple #[.int .i64 (endM t.row), .bool true])

set_option maxHeartbeats 1000000 in
theorem snew_G (w : World) : Calls Tryz.prog 26 #[] w fun e w' => ∃ u, e = .returned u ∧ StateIs (only w' (fr w)) u [] ∧ Bl w w' := by
  go_enter Tryz.func26, Tryz.ntmps26
  go_wp2
  go_ret
  exact ⟨_, rfl, ⟨w.heap.size, nilH, [], rfl, cell_only (fr_ge (Nat.le_refl _) (Nat.le_refl _)) ((Blk.new _ _ _).cell 0), Enc.Is.nil _, TRows.nil _⟩, (Bl.refl _).alloc _⟩
theorem snew_any (w : World) : Calls Tryz.prog 26 #[] w fun e w' => ∃ u, e = .returned u ∧ StateIs w' u [] ∧ Bl w w' :=
  (snew_G w).mono fun _ w' ⟨u, e, h, hb⟩ => ⟨u, e, (Sub.un w' _).state h, hb⟩

set_option maxRecDepth 100000 in
set_option maxHeartbeats 1000000 in
theorem stree_G (G : Nat → Bool) (v : Value) (s : StM) (id : Int) (w : World) (h : StateIs (only w G) v s) :
    Calls Tryz.prog 37 #[v, .int .i64 id] w fun e w' => TreeRes (only w' G) e (getS s id) ∧ Bl w w' := by
  have HS := Lib.hid ((Sub.un _ _).state h)
  obtain ⟨b, u, hs, rfl, c0, h1, h2⟩ := h
  replace c0 := (only_cell c0).2
  replace h1 := (Sub.un w G).is h1
  obtain ⟨A, c, e0, q1, q2, q3, hat⟩ := h1
  rw [e0] at c0
  have HAT := Lib.hid hat
  have HR := Lib.hid h2
  have hu := Tryz.underlying63
  have hu2 := Tryz.underlying66
  clear e0 hat
  rcases findS_get s id with ⟨h1, h2⟩ | ⟨i, hi, h1, h2, h3⟩
  · have HG := Lib.hid h2
    have HF := Lib.hid h1
    clear h1 h2
    go_enter Tryz.func37, Tryz.ntmps37
    go_wp2_with fail
    refine (sfind_any _ s id _ HS.out).mono ?_
    rintro e w1 ⟨rfl, hb⟩
    rw [HF.out]
    go_wp2_with fail
    go_ret2
    exact ⟨⟨fun _ => rfl, fun t ht => by rw [HG.out] at ht; cases ht⟩, hb⟩
  · have HG := Lib.hid h3
    have HF := Lib.hid h1
    clear h1 h2 h3
    obtain ⟨hi2, hr⟩ := HR.out.at i hi
    have HT := Lib.hid hr.2
    have hln := HR.out.1
    have hii : (i : Int) < hs.length := by omega
    clear hr hln
    go_enter Tryz.func37, Tryz.ntmps37
    go_wp2_with fail
    refine (sfind_any _ s id _ HS.out).mono ?_
    rintro e w1 ⟨rfl, hb⟩
    rw [HF.out]
    obtain ⟨ad, rfl, k0, k1⟩ := track_at (HAT.out.bl hb) i hi2
    have c1 := hb.cell c0
    go_wp2_with fail
    go_ret2
    refine ⟨⟨(fun h => by rw [HG.out] at h; cases h), fun t ht => ?_⟩, hb⟩
    rw [HG.out] at ht
    injection ht with ht
    subst ht
    exact ⟨_, rfl, HT.out.bl (hb.only G)⟩
theorem stree_any (v : Value) (s : StM) (id : Int) (w : World) (h : StateIs w v s) :
    Calls Tryz.prog 37 #[v, .int .i64 id] w fun e w' => TreeRes w' e (getS s id) ∧ Bl w w' :=
  (stree_G (fun _ => true) v s id w (Sub.state (fun _ _ h => cell_only rfl h) h)).mono fun _ w' ⟨h, hb⟩ => ⟨⟨h.1, fun t ht => by obtain ⟨u, e, h⟩ := h.2 t ht; exact ⟨u, e, (Sub.un w' _).tree h⟩⟩, hb⟩

set_option maxRecDepth 100000 in
set_option maxHeartbeats 1000000 in
theorem slength_any (v : Value) (s : StM) (id : Int) (w : World) (h : StateIs w v s) (hv : ∀ t ∈ s, validFrom 0 t.2.row = true) :
    Calls Tryz.prog 38 #[v, .int .i64 id] w fun e w' => LenRes e (getS s id) ∧ Bl w w' := by
  have HS := Lib.hid h
  have HV := Lib.hid hv
  obtain ⟨b, u, hs, rfl, _⟩ := h
  clear hv
  rcases findS_get s id with ⟨h1, h2⟩ | ⟨i, hi, h1, h2, h3⟩
  · have HG := Lib.hid h2
    clear h1 h2
    go_enter Tryz.func38, Tryz.ntmps38
    go_wp2_with fail
    refine (stree_any _ s id _ HS.out).mono ?_
    rintro e w1 ⟨⟨h1, _⟩, hb⟩
    obtain rfl := h1 HG.out
    clear h1
    go_wp2_with fail
    go_ret2
    exact ⟨⟨fun _ => rfl, fun t ht => by rw [HG.out] at ht; cases ht⟩, hb⟩
  · have HG := Lib.hid h3
    have HVV := Lib.hid (HV.out s[i] (List.getElem_mem hi))
    clear h1 h2 h3
    go_enter Tryz.func38, Tryz.ntmps38
    go_wp2_with fail
    refine (stree_any _ s id _ HS.out).mono ?_
    rintro e w1 ⟨⟨_, h1⟩, hb⟩
    obtain ⟨t, rfl, ht⟩ := h1 _ HG.out
    have HT := Lib.hid ht
    clear h1 ht
    go_wp2_with fail
    refine (tend_any _ _ _ HT.out HVV.out).mono ?_
    rintro e w2 ⟨rfl, hb2⟩
    go_wp2_with fail
    go_ret2
    refine ⟨⟨(fun h => by rw [HG.out] at h; cases h), fun t ht => ?_⟩, hb.bl hb2⟩
    rw [HG.out] at ht
    injection ht with ht
    subst ht
    rfl

set_option maxRecDepth 100000 in
set_option maxHeartbeats 1000000 in
theorem sids_any (v : Value) (s : StM) (w : World) (h : StateIs w v s) (hn : s.length ≤ 1000) :
    Calls Tryz.prog 35 #[v] w fun e w' => ∃ u, e = .returned u ∧ intE.Own 3 w' w.heap.size u (s.map (·.1)) ∧ Bl w w' := by
  obtain ⟨b, u, hs, rfl, c0, h1, h2⟩ := h
  obtain ⟨A, c, e0, q1, q2, q3, hat⟩ := h1
  rw [e0] at c0
  have HAT := Lib.hid hat
  have HI := Lib.hid (TRows.ids h2)
  have hl : hs.length ≤ 1000 := by rw [h2.1]; exact hn
  have hu := Tryz.underlying63
  have hu2 := Tryz.underlying66
  clear e0 hat h2 q1 q2 q3
  go_enter Tryz.func35, Tryz.ntmps35
  go_wp2_with fail
  go_loopg [3, 11] hs.length (fun g v i wr => ∃ k : Nat, k ≤ hs.length ∧ g = hs.length - k ∧ i = .int .i64 k ∧ Hid (intE.Own 3 wr w.heap.size v (pmap TH.id hs k)) ∧ Hid (Bl w wr))
  case atStart => exact ⟨0, by omega, rfl, rfl, Lib.hid (Enc.Own.nil _ _ _), Lib.hid (Bl.refl _)⟩
  case round =>
    obtain ⟨k, hk, rfl, rfl, HO, HB⟩ := hrel
    by_cases hlt : k < hs.length
    · obtain ⟨ad, rfl, k0, k1⟩ := track_at (HAT.out.bl HB.out) k hlt
      have hps := Lib.hid (pmap_succ TH.id hs k hlt)
      have hpl := Lib.hid (pmap_len TH.id hs k hk)
      generalize hs[k] = x at *
      generalize pmap TH.id hs k = xs at *
      obtain ⟨xi, xb⟩ := x
      dsimp only at k0 k1
      have hki : (k : Int) < hs.length := by omega
      go_wp2_with (at_builtin; refine Enc.Own.append1 (E := intE) rfl (.tmp 15) (.tmp 18) 23 rfl w.heap.size 3 (.int .i64 0) 1 8 Tryz.underlying23 infoIntT rfl rfl (by decide) (by decide) u3 xs rfl (HO.out.bl ((Bl.refl _).alloc _)) xi _ rfl (by simp) rfl ?hlen ?hbase ?_; (case hlen => have := hpl.out; omega); (case hbase => exact (HB.out.alloc _).size); intro v1 w1 ho hg)
      go_roundg (hs.length - (k + 1))
      case measure => omega
      case rel => exact ⟨k + 1, by omega, rfl, by go_num, Lib.hid (by rw [hps.out]; exact ho), Lib.hid (((HB.out.alloc _).alloc _).grown hg (fun k hk => (Enc.Own.lt HO.out k hk).1))⟩
    · go_wp2_with fail
      go_ret
      exact ⟨_, rfl, by have := HO.out; rw [pmap_all _ _ _ (by omega), HI.out] at this; exact this, HB.out⟩
end Go.Proofs.YtddcjekkimajpaaGreat.ExtW

/- Contracts of overdublaw16.Right, overdubkeep.Cut[int], need.Change, overdubref20's Blocks and Nodes. -/
namespace Go.Proofs.YtddcjekkimajpaaGreat.ExtW
open Go.RowKit Go.Ov Go.Proofs.YtddcjekkimajpaaGreat.Need

def RecOwn (w : World) (base : Nat) (v : Value) (r : Rec) : Prop := ∃ u, v = .agg #[.int .i64 r.kind, .int .i64 r.track, .int .i64 r.fr, .int .i64 r.tt, u] ∧ extE.Own 81 w base u r.l
theorem RecOwn.is {w : World} {base : Nat} {v : Value} {r : Rec} (h : RecOwn w base v r) : RecIs w v r := by
  obtain ⟨u, e, h⟩ := h; exact ⟨u, e, h.is⟩

theorem one_cell_slice {w : World} {v : Value} {l : List Ext} (h : extE.Is w v l) : ∃ A n c, v = .slice A n c := by
  obtain ⟨A, c, e, _⟩ := h; exact ⟨A, _, c, e⟩

set_option maxRecDepth 100000 in
set_option maxHeartbeats 1000000 in
theorem right_any (v : Value) (r : Rec) (w : World) (h : RecIs w v r) :
    Calls Tryz.prog 56 #[v] w fun e w' => ∃ u, e = .returned u ∧ RecOwn w' w.heap.size u (rightM r) ∧ Bl w w' := by
  obtain ⟨u, rfl, hl⟩ := h
  obtain ⟨k, t, f, o, l⟩ := r
  dsimp only at hl
  have HL := Lib.hid hl
  obtain ⟨A, n, c, rfl⟩ := one_cell_slice hl
  clear hl
  have b1 := within_bd k 5 (by decide)
  have b2 := within_bd o 1001 (by decide)
  have hkk : ∃ kk, kk = within k 5 := ⟨_, rfl⟩
  obtain ⟨kk, hkk⟩ := hkk
  have HK := Lib.hid hkk
  rw [← hkk] at b1
  clear hkk
  have c5 := Tryz.underlying46
  by_cases h2 : kk ≤ 1
  · have hd : kk = 0 ∨ kk = 1 := by omega
    have b3 := within_bd t 100 (by decide)
    rcases hd with rfl | rfl
    · go_enter Tryz.func56, Tryz.ntmps56
      go_wp2_with (first | (go_at_call 19; refine (within_any _ _ _ (by omega)).mono ?_; rintro e w' ⟨rfl, rfl⟩; try rw [← HK.out]))
      refine bodyPost_ret (v := .agg #[.int .i64 1, .int .i64 (within t 100), .int .i64 0, .int .i64 0, .slice none 0 0]) (by simp [results, Tryz.results56, go_sem]) rfl ⟨_, rfl, ⟨.slice none 0 0, ?_, ?_⟩, ((Bl.refl _).alloc _).alloc _⟩
      · unfold rightM; rw [← HK.out]; simp
      · unfold rightM; rw [← HK.out]; exact Enc.Own.nil _ _ _
    · go_enter Tryz.func56, Tryz.ntmps56
      go_wp2_with (first | (go_at_call 19; refine (within_any _ _ _ (by omega)).mono ?_; rintro e w' ⟨rfl, rfl⟩; try rw [← HK.out]))
      refine bodyPost_ret (v := .agg #[.int .i64 2, .int .i64 (within t 100), .int .i64 0, .int .i64 0, .slice none 0 0]) (by simp [results, Tryz.results56, go_sem]) rfl ⟨_, rfl, ⟨.slice none 0 0, ?_, ?_⟩, ((Bl.refl _).alloc _).alloc _⟩
      · unfold rightM; rw [← HK.out]; simp
      · unfold rightM; rw [← HK.out]; exact Enc.Own.nil _ _ _
  · by_cases h3 : kk = 2
    · subst h3
      have b4 := within_bd f (within o 1001 + 1) (by omega)
      have hwr : IntKind.i64.wrap (within o 1001 + 1) = within o 1001 + 1 := IntWalk.i64_in _ (by omega)
      go_enter Tryz.func56, Tryz.ntmps56
      go_wp2_with (first | (go_at_call 19; refine (within_any _ _ _ (by omega)).mono ?_; rintro e w' ⟨rfl, rfl⟩; try rw [← HK.out]))
      refine wp_region_ways (S := (fun w' => w'.cell? ⟨w.heap.size, 1, none⟩ = some (.int .i64 t) ∧ w'.cell? ⟨w.heap.size, 2, none⟩ = some (.int .i64 f) ∧ w'.cell? ⟨w.heap.size, 4, none⟩ = some (.slice A n c))) [0, 1, 2, 4, 5, 6, 7, 9, 10, 11, 13] (y := .take 0 (.take 1 (.take 2 (.take 4 (.take 5 (.take 6 (.take 7 (.take 9 (.take 10 (.take 11 (.ev 3 (.ev 8 (.ev 12 (.take 13 (.ev 14 (.done) (.stop))) (.stop)) (.stop)) (.stop)))))))))))) (by kernel_rfl) (by kernel_rfl) (by kernel_rfl) ?_ (fun hHeld => ?_)
      · refine ⟨?_, ?_, ?_⟩ <;> go_simp
      repeat (first | (refine wpWay_take rfl (by rfl) (by intro w hSw; (try dsimp only at hSw); first | (go_simp; done) | (go_simp; with_reducible rfl)) ?_; try simp only [Act.put, List.setIfInBounds_toArray, List.set_cons_zero, List.set_cons_succ]) | (refine wpWay_skip rfl (by rfl) ?_; try simp only [Act.put, List.setIfInBounds_toArray, List.set_cons_zero, List.set_cons_succ]))
      clear hwr
      have HH := Lib.hid hHeld
      clear hHeld
      refine wpWay_ev rfl (fun K hK => ?_) wpWay_stop
      go_wp2_with fail
      refine (within_any _ _ _ (by omega)).mono ?_
      rintro e w1 ⟨rfl, rfl⟩
      go_wp2_with fail
      refine ⟨HH.out, ?_⟩
      repeat (first | (refine wpWay_take rfl (by rfl) (by intro w hSw; (try dsimp only at hSw); first | (go_simp; done) | (go_simp; with_reducible rfl)) ?_; try simp only [Act.put, List.setIfInBounds_toArray, List.set_cons_zero, List.set_cons_succ]) | (refine wpWay_skip rfl (by rfl) ?_; try simp only [Act.put, List.setIfInBounds_toArray, List.set_cons_zero, List.set_cons_succ]))
      refine wpWay_ev rfl (fun K hK => ?_) wpWay_stop
      go_wp2_with fail
      refine (within_any _ _ _ (by omega)).mono ?_
      rintro e w1 ⟨rfl, rfl⟩
      go_wp2_with fail
      refine ⟨HH.out, ?_⟩
      repeat (first | (refine wpWay_take rfl (by rfl) (by intro w hSw; (try dsimp only at hSw); first | (go_simp; done) | (go_simp; with_reducible rfl)) ?_; try simp only [Act.put, List.setIfInBounds_toArray, List.set_cons_zero, List.set_cons_succ]) | (refine wpWay_skip rfl (by rfl) ?_; try simp only [Act.put, List.setIfInBounds_toArray, List.set_cons_zero, List.set_cons_succ]))
      refine wpWay_ev rfl (fun K hK => ?_) wpWay_stop
      go_wp2_with fail
      refine (row16_any _ _ 20 _ (HL.out.bl (((Bl.refl _).alloc _).alloc _).drew) (by decide)).mono ?_
      rintro e w1 ⟨u, rfl, ho, hb⟩
      obtain ⟨A2, c2, rfl⟩ := ho.slice
      go_wp2_with fail
      refine ⟨⟨hb.cell HH.out.1, hb.cell HH.out.2.1, hb.cell HH.out.2.2⟩, ?_⟩
      repeat (first | (refine wpWay_take rfl (by rfl) (by intro w hSw; (try dsimp only at hSw); first | (go_simp; done) | (go_simp; with_reducible rfl)) ?_; try simp only [Act.put, List.setIfInBounds_toArray, List.set_cons_zero, List.set_cons_succ]) | (refine wpWay_skip rfl (by rfl) ?_; try simp only [Act.put, List.setIfInBounds_toArray, List.set_cons_zero, List.set_cons_succ]))
      refine wpWay_ev rfl (fun K hK => ?_) wpWay_stop
      obtain ⟨hc, hf⟩ := bcell hb
      have hz : w.heap.size + 1 < w1.heap.size := by have := hb.size; simp at this; omega
      go_wp2_with fail
      refine ⟨?_, ?_⟩
      · refine ⟨?_, ?_, ?_⟩ <;> go_simp
      refine wpWay_done ?_
      go_wp2_with fail
      refine bodyPost_ret (v := .agg #[.int .i64 3, .int .i64 (within t 100), .int .i64 (within f (within o 1001 + 1)), .int .i64 (within o 1001), .slice A2 (rowM l 20).length c2]) (by simp [results, Tryz.results56, go_sem, hc]) rfl ⟨_, rfl, ⟨.slice A2 (rowM l 20).length c2, ?_, ?_⟩, ?_⟩
      · unfold rightM; rw [← HK.out]; simp
      · unfold rightM; rw [← HK.out]
        refine Enc.Own.low (base := w.heap.size + 2) ?_ (by omega)
        iterate 5 refine Enc.Own.set ?_ _ _ _ (by omega)
        exact ho.low (by simp)
      · iterate 5 refine Bl.set ?_ _ _ _ (by omega)
        exact (((Bl.refl _).alloc _).alloc _).drew.bl hb
    · have h4 : kk = 3 ∨ kk = 4 := by omega
      rcases h4 with rfl | rfl
      · go_enter Tryz.func56, Tryz.ntmps56
        go_wp2_with (first | (go_at_call 19; refine (within_any _ _ _ (by omega)).mono ?_; rintro e w' ⟨rfl, rfl⟩; try rw [← HK.out]))
        refine bodyPost_ret (v := .agg #[.int .i64 4, .int .i64 0, .int .i64 0, .int .i64 0, .slice none 0 0]) (by simp [results, Tryz.results56, go_sem]) rfl ⟨_, rfl, ⟨.slice none 0 0, ?_, ?_⟩, ((Bl.refl _).alloc _).alloc _⟩
        · unfold rightM; rw [← HK.out]; simp
        · unfold rightM; rw [← HK.out]; exact Enc.Own.nil _ _ _
      · go_enter Tryz.func56, Tryz.ntmps56
        go_wp2_with (first | (go_at_call 19; refine (within_any _ _ _ (by omega)).mono ?_; rintro e w' ⟨rfl, rfl⟩; try rw [← HK.out]))
        refine bodyPost_ret (v := .agg #[.int .i64 5, .int .i64 0, .int .i64 0, .int .i64 0, .slice none 0 0]) (by simp [results, Tryz.results56, go_sem]) rfl ⟨_, rfl, ⟨.slice none 0 0, ?_, ?_⟩, ((Bl.refl _).alloc _).alloc _⟩
        · unfold rightM; rw [← HK.out]; simp
        · unfold rightM; rw [← HK.out]; exact Enc.Own.nil _ _ _

set_option maxHeartbeats 1000000 in
theorem kcutExt_ex (A : Option Addr) (n c m : Nat) (w : World) (hn : n ≤ c) (hc : c ≤ maxLen) (h0 : A = none → c = 0) (hm : m ≤ 1000) :
    Calls Tryz.prog 55 #[.slice A n c, .int .i64 m] w fun e w' => e = .returned (.slice A (min n m) c) ∧ w = w' := by
  unfold maxLen at hc
  cases A with
  | none =>
    have hc0 : c = 0 := h0 rfl
    have hl : n = 0 := by omega
    subst hc0; subst hl
    go_enter Tryz.func55, Tryz.ntmps55
    go_wp2
    go_ret
    refine ⟨?_, rfl⟩
    have e : (min (0 : Int) m).toNat = 0 := by omega
    show Ending.returned (.slice none (min (0 : Int) m).toNat 0) = .returned (.slice none (min 0 m) 0)
    rw [e, Nat.zero_min]
  | some ad =>
    go_enter Tryz.func55, Tryz.ntmps55
    go_wp2
    go_ret
    refine ⟨?_, rfl⟩
    rw [show min n m = (min (n : Int) m).toNat by omega]; rfl

def changeM (k n : Int) : Int := if k = 3 then blocks n else 0
end Go.Proofs.YtddcjekkimajpaaGreat.ExtW

/- Contract of record.Valid. -/
namespace Go.Proofs.YtddcjekkimajpaaGreat.ExtW
open Go.RowKit Go.Ov Go.Proofs.YtddcjekkimajpaaGreat.Need

def noneB (r : Rec) : Bool := decide (r.fr = 0) && decide (r.tt = 0) && decide (r.l.length = 0)
def trackB (r : Rec) : Bool := decide (0 ≤ r.track) && decide (r.track ≤ 99)
def spliceB (r : Rec) : Bool := trackB r && decide (0 ≤ r.fr) && decide (r.fr ≤ r.tt) && decide (r.tt ≤ 1000) && validFrom 0 r.l
def validRec (r : Rec) : Bool :=
  if r.kind = 1 ∨ r.kind = 2 then noneB r && trackB r else if r.kind = 4 ∨ r.kind = 5 then noneB r && decide (r.track = 0) else if r.kind = 3 then spliceB r else false

set_option maxRecDepth 100000 in
set_option maxHeartbeats 4000000 in
theorem rvalidRec_any (v : Value) (r : Rec) (w : World) (h : RecIs w v r) :
    Calls Tryz.prog 45 #[v] w fun e w' => e = .returned (.bool (validRec r)) ∧ Bl w w' := by
  obtain ⟨u, rfl, hl⟩ := h
  have HL := Lib.hid hl
  obtain ⟨A, c, rfl, _⟩ := hl
  have hu := Tryz.underlying46
  have hw : ∃ vr, vr = validRec r := ⟨_, rfl⟩
  obtain ⟨vr, hvr⟩ := hw
  rw [← hvr]
  have HVR := Lib.hid hvr
  clear hvr
  have hnb : ∃ nb, nb = noneB r := ⟨_, rfl⟩
  obtain ⟨nb, hnb⟩ := hnb
  have HNB := Lib.hid hnb
  clear hnb
  have htb : ∃ tb, tb = trackB r := ⟨_, rfl⟩
  obtain ⟨tb, htb⟩ := htb
  have HTB := Lib.hid htb
  clear htb
  go_enter Tryz.func45, Tryz.ntmps45
  go_upto_region 1 with (fail)
  go_cut [3] (fun v3 wc => v3 = .bool nb ∧ wc = w.alloc (.cells #[.int .i64 r.kind, .int .i64 r.track, .int .i64 r.fr, .int .i64 r.tt, .slice A r.l.length c] 46))
  case first =>
    by_cases h1 : r.fr = 0
    · have f1 : (r.fr == 0) = true := by rw [h1]; rfl
      by_cases h2 : r.tt = 0
      · have f2 : (r.tt == 0) = true := by rw [h2]; rfl
        by_cases h3 : r.l.length = 0
        · have f3 : ((r.l.length : Int) == 0) = true := by rw [h3]; rfl
          have hr : nb = true := by rw [HNB.out]; simp [noneB, h1, h2]; exact List.eq_nil_of_length_eq_zero h3
          have HR := Lib.hid hr
          clear h1 h2 h3 hr
          go_wp2_with fail
          go_meet
          exact ⟨by rw [HR.out], rfl⟩
        · have hr : nb = false := by rw [HNB.out]; simp [noneB, h1, h2]; intro e; rw [e] at h3; simp at h3
          have h4 : ((r.l.length : Int) == 0) = false := by rw [beq_eq_false_iff_ne]; omega
          have HR := Lib.hid hr
          clear h1 h2 h3 hr
          go_wp2_with fail
          go_meet
          exact ⟨by rw [HR.out], rfl⟩
      · have hr : nb = false := by rw [HNB.out]; simp [noneB, h2]
        have h4 : (r.tt == 0) = false := by rw [beq_eq_false_iff_ne]; exact h2
        have HR := Lib.hid hr
        clear h1 h2 hr
        go_wp2_with fail
        go_meet
        exact ⟨by rw [HR.out], rfl⟩
    · have hr : nb = false := by rw [HNB.out]; simp [noneB, h1]
      have h4 : (r.fr == 0) = false := by rw [beq_eq_false_iff_ne]; exact h1
      have HR := Lib.hid hr
      clear h1 hr
      go_wp2_with fail
      go_meet
      exact ⟨by rw [HR.out], rfl⟩
  case rest =>
  obtain ⟨rfl, rfl⟩ := hcut
  go_upto_region 2 with (fail)
  go_cut [4] (fun v4 wc => v4 = .bool tb ∧ wc = w.alloc (.cells #[.int .i64 r.kind, .int .i64 r.track, .int .i64 r.fr, .int .i64 r.tt, .slice A r.l.length c] 46))
  case first =>
    by_cases h1 : 0 ≤ r.track
    · by_cases h2 : r.track ≤ 99
      · have hr : tb = true := by rw [HTB.out]; simp [trackB, h1, h2]
        have HR := Lib.hid hr
        clear hr
        go_wp2_with fail
        go_meet
        exact ⟨by rw [HR.out], rfl⟩
      · have hr : tb = false := by rw [HTB.out]; simp [trackB]; omega
        have HR := Lib.hid hr
        clear hr
        go_wp2_with fail
        go_meet
        exact ⟨by rw [HR.out], rfl⟩
    · have hr : tb = false := by rw [HTB.out]; simp [trackB]; omega
      have HR := Lib.hid hr
      clear hr
      go_wp2_with fail
      go_meet
      exact ⟨by rw [HR.out], rfl⟩
  case rest =>
  obtain ⟨rfl, rfl⟩ := hcut
  by_cases k1 : r.kind = 1
  · have hr : vr = (nb && tb) := by rw [HVR.out, HNB.out, HTB.out]; simp [validRec, k1]
    have HR := Lib.hid hr
    rw [k1]
    clear hr k1
    cases nb <;> cases tb <;> (go_wp2_with fail; go_ret; exact ⟨ret_bool HR.out.symm, (Bl.refl _).alloc _⟩)
  · by_cases k2 : r.kind = 2
    · have hr : vr = (nb && tb) := by rw [HVR.out, HNB.out, HTB.out]; simp [validRec, k2]
      have HR := Lib.hid hr
      rw [k2]
      clear hr k1 k2
      cases nb <;> cases tb <;> (go_wp2_with fail; go_ret; exact ⟨ret_bool HR.out.symm, (Bl.refl _).alloc _⟩)
    · have e1 : (r.kind == 1) = false := by rw [beq_eq_false_iff_ne]; exact k1
      have e2 : (r.kind == 2) = false := by rw [beq_eq_false_iff_ne]; exact k2
      by_cases k4 : r.kind = 4 ∨ r.kind = 5
      · have hr : vr = (nb && decide (r.track = 0)) := by rw [HVR.out, HNB.out]; unfold validRec; rw [if_neg (by omega), if_pos k4]
        have HR := Lib.hid hr
        clear hr k1 k2 e1 e2
        have ht : (r.track == 0) = decide (r.track = 0) := rfl
        rcases k4 with k4 | k4
        all_goals
          rw [k4]
          clear k4
          cases nb with
          | false => go_wp2_with fail; go_ret; exact ⟨ret_bool HR.out.symm, (Bl.refl _).alloc _⟩
          | true => go_wp2_with fail; go_ret; exact ⟨ret_bool (by rw [HR.out]; simp), (Bl.refl _).alloc _⟩
      · have e4 : (r.kind == 4) = false := by rw [beq_eq_false_iff_ne]; omega
        have e5 : (r.kind == 5) = false := by rw [beq_eq_false_iff_ne]; omega
        by_cases k3 : r.kind = 3
        · have hr : vr = spliceB r := by rw [HVR.out]; unfold validRec; rw [if_neg (by omega), if_neg k4, if_pos k3]
          have HR := Lib.hid hr
          have hf : r.kind = 3 := k3
          have HT2 := Lib.hid HTB.out
          clear hr k1 k2 k4
          rw [k3]
          clear k3 hf e1 e2 e4 e5
          cases tb with
          | false =>
            have hs : spliceB r = false := by unfold spliceB; rw [← HT2.out]; rfl
            have HS := Lib.hid hs
            clear hs
            go_wp2_with fail
            go_ret
            exact ⟨ret_bool (by rw [HR.out, HS.out]), (Bl.refl _).alloc _⟩
          | true =>
            by_cases q : (0 ≤ r.fr ∧ r.fr ≤ r.tt) ∧ r.tt ≤ 1000
            · have hs : spliceB r = validFrom 0 r.l := by unfold spliceB; rw [← HT2.out]; simp [q.1.1, q.1.2, q.2]
              have HS := Lib.hid hs
              obtain ⟨⟨q1, q2⟩, q3⟩ := q
              clear hs
              go_wp2_with fail
              refine (pvalid_any _ _ _ (HL.out.bl ((Bl.refl _).alloc _))).mono ?_
              rintro e w1 ⟨rfl, hb⟩
              go_wp2_with fail
              go_ret
              exact ⟨ret_bool (by rw [HR.out, HS.out]), ((Bl.refl _).alloc _).bl hb⟩
            · have hs : spliceB r = false := by
                unfold spliceB
                by_cases a1 : 0 ≤ r.fr
                · by_cases a2 : r.fr ≤ r.tt
                  · have a3 : ¬ r.tt ≤ 1000 := fun a3 => q ⟨⟨a1, a2⟩, a3⟩
                    simp [a3]
                  · simp [a2]
                · simp [a1]
              have HS := Lib.hid hs
              rcases (show r.fr < 0 ∨ (0 ≤ r.fr ∧ r.tt < r.fr) ∨ ((0 ≤ r.fr ∧ r.fr ≤ r.tt) ∧ 1000 < r.tt) from by omega) with q1 | ⟨q1, q2⟩ | ⟨⟨q1, q2⟩, q3⟩
              all_goals
                clear hs q
                go_wp2_with fail
                go_ret
                exact ⟨ret_bool (by rw [HR.out, HS.out]), (Bl.refl _).alloc _⟩
        · have hr : vr = false := by rw [HVR.out]; unfold validRec; rw [if_neg (by omega), if_neg k4, if_neg k3]
          have e3 : (r.kind == 3) = false := by rw [beq_eq_false_iff_ne]; omega
          have HR := Lib.hid hr
          clear hr k1 k2 k3 k4
          go_wp2_with fail
          go_ret
          exact ⟨ret_bool HR.out.symm, (Bl.refl _).alloc _⟩
end Go.Proofs.YtddcjekkimajpaaGreat.ExtW

/- Contract of state.Apply. -/
namespace Go.Proofs.YtddcjekkimajpaaGreat.ExtW
open Go.RowKit Go.Ov Go.Proofs.YtddcjekkimajpaaGreat.Need

def spliceOf (t : TreeM) (r : Rec) : List Ext × Int := spliceM t.row r.fr (min r.tt (endM t.row)) r.l
def applyT (s : StM) (r : Rec) (t : TreeM) : StM × Int :=
  if r.kind = 2 then (withoutS s r.track, 0) else if endM t.row < r.fr then ([], 7)
  else if (spliceOf t r).2 = 0 then putR s r.track (treeM (spliceOf t r).1) else ([], (spliceOf t r).2)
def applyR (s : StM) (r : Rec) : StM × Int :=
  if validRec r = false ∨ 3 < r.kind then ([], 1)
  else if r.kind = 1 then (if 0 ≤ findS s r.track then ([], 6) else putR s r.track (treeM []))
  else match getS s r.track with
    | none => ([], 5)
    | some t => applyT s r t
def StOK (s : StM) : Prop := s.length ≤ 6 ∧ ∀ t ∈ s, validFrom 0 t.2.row = true
theorem find_none {s : StM} {id : Int} (h : getS s id = none) : findS s id = -1 := by
  rcases findS_get s id with ⟨h1, _⟩ | ⟨i, _, _, _, h3⟩
  · exact h1
  · rw [h] at h3; cases h3

set_option maxRecDepth 100000 in
set_option maxHeartbeats 4000000 in
theorem sapply_G (G : Nat → Bool) (v rv : Value) (s : StM) (r : Rec) (w : World) (h : StateIs (only w G) v s) (hr : RecIs w rv r) (hs : StOK s) :
    Calls Tryz.prog 47 #[v, rv] w fun e w' => StRes (only w' (gor G w)) e (applyR s r) ∧ Bl w w' := by
  have HSM := Lib.hid h
  replace h := (Sub.un w G).state h
  have HS := Lib.hid h
  have HR := Lib.hid hr
  obtain ⟨b, u, hs0, rfl, c0, h1, h2⟩ := h
  obtain ⟨u2, rfl, hl⟩ := hr
  have HL := Lib.hid hl
  obtain ⟨A, c, rfl, _⟩ := hl
  obtain ⟨A0, cc0, e0, _, _, _, hat⟩ := h1
  rw [e0] at c0
  have HAT := Lib.hid hat
  have HTR := Lib.hid h2
  have HOK := Lib.hid hs
  have hu := Tryz.underlying46
  have hu2 := Tryz.underlying63
  have hu3 := Tryz.underlying66
  clear e0 hat h2 hs
  cases hv : validRec r with
  | false =>
    have HVR := Lib.hid hv
    have HA := Lib.hid (show applyR s r = ([], 1) from if_pos (.inl hv))
    clear hv
    go_enter Tryz.func47, Tryz.ntmps47
    go_wp2_with fail
    refine (rvalidRec_any _ r _ (HR.out.bl ((Bl.refl _).alloc _))).mono ?_
    rintro e w1 ⟨rfl, hb⟩
    have HB := Lib.hid (((Bl.refl w).alloc _).bl hb)
    have HK := Lib.hid ((Blk.new w #[.int .i64 r.kind, .int .i64 r.track, .int .i64 r.fr, .int .i64 r.tt, .slice A r.l.length c] 46).bl hb)
    have d0 := HK.out.cell 0
    have d1 := HK.out.cell 1
    have d2 := HK.out.cell 2
    have d3 := HK.out.cell 3
    have d4 := HK.out.cell 4
    simp at d0 d1 d2 d3 d4
    clear hb
    rw [HVR.out]
    go_wp2_with fail
    go_ret2
    exact ⟨by rw [HA.out]; exact StRes.bad (by decide) _, HB.out⟩
  | true =>
    have HVR := Lib.hid hv
    by_cases hk3 : 3 < r.kind
    · have HA := Lib.hid (show applyR s r = ([], 1) from if_pos (.inr hk3))
      clear hv
      go_enter Tryz.func47, Tryz.ntmps47
      go_wp2_with fail
      refine (rvalidRec_any _ r _ (HR.out.bl ((Bl.refl _).alloc _))).mono ?_
      rintro e w1 ⟨rfl, hb⟩
      have HB := Lib.hid (((Bl.refl w).alloc _).bl hb)
      have HK := Lib.hid ((Blk.new w #[.int .i64 r.kind, .int .i64 r.track, .int .i64 r.fr, .int .i64 r.tt, .slice A r.l.length c] 46).bl hb)
      have d0 := HK.out.cell 0
      have d1 := HK.out.cell 1
      have d2 := HK.out.cell 2
      have d3 := HK.out.cell 3
      have d4 := HK.out.cell 4
      simp at d0 d1 d2 d3 d4
      clear hb
      rw [HVR.out]
      go_wp2_with fail
      go_ret2
      exact ⟨by rw [HA.out]; exact StRes.bad (by decide) _, HB.out⟩
    · have hk3' : r.kind ≤ 3 := by omega
      have ha0 : applyR s r = (if r.kind = 1 then (if 0 ≤ findS s r.track then ([], 6) else putR s r.track (treeM [])) else match getS s r.track with | none => ([], 5) | some t => applyT s r t) := by
        unfold applyR; rw [if_neg (by rw [hv]; simp; omega)]
      have hk123 : r.kind = 1 ∨ r.kind = 2 ∨ r.kind = 3 := by
        unfold validRec at hv
        by_cases a : r.kind = 1 ∨ r.kind = 2
        · omega
        · rw [if_neg a] at hv
          by_cases b : r.kind = 4 ∨ r.kind = 5
          · omega
          · rw [if_neg b] at hv
            by_cases c : r.kind = 3
            · omega
            · rw [if_neg c] at hv; cases hv
      have hsl : r.kind = 3 → validFrom 0 r.l = true := by
        intro h3
        unfold validRec at hv
        rw [if_neg (by omega), if_neg (by omega), if_pos h3] at hv
        unfold spliceB at hv
        simp at hv; exact hv.2
      clear hv
      by_cases hk1 : r.kind = 1
      · have hq : (r.kind == 1) = true := by rw [hk1]; rfl
        rw [if_pos hk1] at ha0
        by_cases hf : 0 ≤ findS s r.track
        · rw [if_pos hf] at ha0
          have HA := Lib.hid ha0
          clear ha0 hk1
          go_enter Tryz.func47, Tryz.ntmps47
          go_wp2_with fail
          refine (rvalidRec_any _ r _ (HR.out.bl ((Bl.refl _).alloc _))).mono ?_
          rintro e w1 ⟨rfl, hb⟩
          have HB := Lib.hid (((Bl.refl w).alloc _).bl hb)
          have HK := Lib.hid ((Blk.new w #[.int .i64 r.kind, .int .i64 r.track, .int .i64 r.fr, .int .i64 r.tt, .slice A r.l.length c] 46).bl hb)
          have d0 := HK.out.cell 0
          have d1 := HK.out.cell 1
          have d2 := HK.out.cell 2
          have d3 := HK.out.cell 3
          have d4 := HK.out.cell 4
          simp at d0 d1 d2 d3 d4
          clear hb
          rw [HVR.out]
          go_wp2_with fail
          refine (sfind_any _ s _ _ (HS.out.bl HB.out)).mono ?_
          rintro e w2 ⟨rfl, hb⟩
          replace d0 := hb.cell d0
          go_wp2_with fail
          go_ret2
          exact ⟨by rw [HA.out]; exact StRes.bad (by decide) _, HB.out.bl hb⟩
        · rw [if_neg hf] at ha0
          have HA := Lib.hid ha0
          clear ha0 hk1
          go_enter Tryz.func47, Tryz.ntmps47
          go_wp2_with fail
          refine (rvalidRec_any _ r _ (HR.out.bl ((Bl.refl _).alloc _))).mono ?_
          rintro e w1 ⟨rfl, hb⟩
          have HB := Lib.hid (((Bl.refl w).alloc _).bl hb)
          have HK := Lib.hid ((Blk.new w #[.int .i64 r.kind, .int .i64 r.track, .int .i64 r.fr, .int .i64 r.tt, .slice A r.l.length c] 46).bl hb)
          have d0 := HK.out.cell 0
          have d1 := HK.out.cell 1
          have d2 := HK.out.cell 2
          have d3 := HK.out.cell 3
          have d4 := HK.out.cell 4
          simp at d0 d1 d2 d3 d4
          clear hb
          rw [HVR.out]
          go_wp2_with fail
          refine (sfind_any _ s _ _ (HS.out.bl HB.out)).mono ?_
          rintro e w2 ⟨rfl, hb⟩
          replace d0 := hb.cell d0
          replace d1 := hb.cell d1
          have HB2 := Lib.hid (HB.out.bl hb)
          clear hb d2 d3 d4
          go_wp2_with fail
          refine wp_region_ways (S := (fun w' => w'.cell? ⟨w.heap.size, 1, none⟩ = some (.int .i64 r.track))) [0, 1, 2, 5, 6, 7, 8] (y := .take 0 (.take 1 (.take 2 (.ev 3 (.ev 4 (.take 5 (.take 6 (.take 7 (.take 8 (.done))))) (.stop)) (.stop))))) (by kernel_rfl) (by kernel_rfl) (by kernel_rfl) ?_ (fun hHeld => ?_)
          · exact Bl.cell (Bl.refl _).drew d1
          have HH := Lib.hid hHeld
          repeat (first | (refine wpWay_take rfl (by rfl) (by intro w hSw; (try dsimp only at hSw); first | (go_simp; done) | (go_simp; with_reducible rfl)) ?_; try simp only [Act.put, List.setIfInBounds_toArray, List.set_cons_zero, List.set_cons_succ]) | (refine wpWay_skip rfl (by rfl) ?_; try simp only [Act.put, List.setIfInBounds_toArray, List.set_cons_zero, List.set_cons_succ]))
          clear hHeld
          refine wpWay_ev rfl (fun K hK => ?_) wpWay_stop
          go_wp2_with fail
          refine (tnew_G _).mono ?_
          rintro e w3 ⟨t3, rfl, ht, hb⟩
          have HT := Lib.hid ht
          have HB3 := Lib.hid ((HB2.out.drew).bl hb)
          replace HH := Lib.hid (hb.cell HH.out)
          clear ht hb
          go_wp2_with fail
          refine ⟨HH.out, ?_⟩
          repeat (first | (refine wpWay_take rfl (by rfl) (by intro w hSw; (try dsimp only at hSw); first | (go_simp; done) | (go_simp; with_reducible rfl)) ?_; try simp only [Act.put, List.setIfInBounds_toArray, List.set_cons_zero, List.set_cons_succ]) | (refine wpWay_skip rfl (by rfl) ?_; try simp only [Act.put, List.setIfInBounds_toArray, List.set_cons_zero, List.set_cons_succ]))
          refine wpWay_ev rfl (fun K hK => ?_) wpWay_stop
          go_wp2_with fail
          refine (sput_G (gor G w) _ s r.track t3 (treeM []) _ ((Sub.mono (gor_l G w)).state (HSM.out.bl (HB3.out.only G))) ((Sub.mono (fun b hb => fr_gor G w b (fr_le HB2.out.drew.size b hb))).tree HT.out) HOK.out.1).mono ?_
          rintro e w4 ⟨hres, hb⟩
          replace hres := hres.sub (Sub.mono (gor_gor HB3.out.size))
          replace HH := Lib.hid (hb.cell HH.out)
          have HB4 := Lib.hid (HB3.out.bl hb)
          clear hb
          by_cases hz : (putR s r.track (treeM [])).2 = 0
          · obtain ⟨u3, rfl, hst⟩ := hres.1 hz
            have HST := Lib.hid hst
            have HZ := Lib.hid hz
            clear hres hst hz
            go_wp2_with fail
            refine ⟨HH.out, ?_⟩
            repeat (first | (refine wpWay_take rfl (by rfl) (by intro w hSw; (try dsimp only at hSw); first | (go_simp; done) | (go_simp; with_reducible rfl)) ?_; try simp only [Act.put, List.setIfInBounds_toArray, List.set_cons_zero, List.set_cons_succ]) | (refine wpWay_skip rfl (by rfl) ?_; try simp only [Act.put, List.setIfInBounds_toArray, List.set_cons_zero, List.set_cons_succ]))
            refine wpWay_done ?_
            go_wp2_with fail
            go_ret2
            exact ⟨by rw [HA.out]; exact ⟨fun _ => ⟨_, rfl, HST.out⟩, fun h => absurd HZ.out h⟩, HB4.out⟩
          · obtain rfl := hres.2 hz
            have HZ := Lib.hid hz
            clear hres hz
            go_wp2_with fail
            refine ⟨HH.out, ?_⟩
            repeat (first | (refine wpWay_take rfl (by rfl) (by intro w hSw; (try dsimp only at hSw); first | (go_simp; done) | (go_simp; with_reducible rfl)) ?_; try simp only [Act.put, List.setIfInBounds_toArray, List.set_cons_zero, List.set_cons_succ]) | (refine wpWay_skip rfl (by rfl) ?_; try simp only [Act.put, List.setIfInBounds_toArray, List.set_cons_zero, List.set_cons_succ]))
            refine wpWay_done ?_
            go_wp2_with fail
            go_ret2
            exact ⟨by rw [HA.out]; exact ⟨fun h => absurd h HZ.out, fun _ => rfl⟩, HB4.out⟩
      · have e1 : (r.kind == 1) = false := by rw [beq_eq_false_iff_ne]; exact hk1
        rw [if_neg hk1] at ha0
        have hk23 : r.kind = 2 ∨ r.kind = 3 := by omega
        rcases findS_get s r.track with ⟨g1, g2⟩ | ⟨i, hi, g1, g2, g3⟩
        · rw [g2] at ha0
          have HA := Lib.hid (show applyR s r = ([], 5) from ha0)
          have HF := Lib.hid g1
          clear ha0 g1 g2 hk1 hk123 hk23 hsl
          go_enter Tryz.func47, Tryz.ntmps47
          go_wp2_with fail
          refine (rvalidRec_any _ r _ (HR.out.bl ((Bl.refl _).alloc _))).mono ?_
          rintro e w1 ⟨rfl, hb⟩
          have HB := Lib.hid (((Bl.refl w).alloc _).bl hb)
          have HK := Lib.hid ((Blk.new w #[.int .i64 r.kind, .int .i64 r.track, .int .i64 r.fr, .int .i64 r.tt, .slice A r.l.length c] 46).bl hb)
          have d0 := HK.out.cell 0
          have d1 := HK.out.cell 1
          have d2 := HK.out.cell 2
          have d3 := HK.out.cell 3
          have d4 := HK.out.cell 4
          simp at d0 d1 d2 d3 d4
          clear hb
          rw [HVR.out]
          go_wp2_with fail
          refine (sfind_any _ s _ _ (HS.out.bl HB.out)).mono ?_
          rintro e w2 ⟨rfl, hb⟩
          replace d0 := hb.cell d0
          rw [HF.out]
          go_wp2_with fail
          go_ret2
          exact ⟨by rw [HA.out]; exact StRes.bad (by decide) _, HB.out.bl hb⟩
        · rw [g3] at ha0
          have HF := Lib.hid g1
          obtain ⟨hi2, htr⟩ := HTR.out.at i hi
          have HT := Lib.hid htr.2
          have HV := Lib.hid (HOK.out.2 s[i] (List.getElem_mem hi))
          have hln := HTR.out.1
          have hii : (i : Int) < hs0.length := by omega
          clear g1 g2 g3 htr hln
          rcases hk23 with hk2 | hk3
          · have HA := Lib.hid (show applyR s r = (withoutS s r.track, 0) by rw [ha0]; exact if_pos hk2)
            have hq : (r.kind == 2) = true := by rw [hk2]; rfl
            clear ha0 hk1 hk123 hk2 hsl
            go_enter Tryz.func47, Tryz.ntmps47
            go_wp2_with fail
            refine (rvalidRec_any _ r _ (HR.out.bl ((Bl.refl _).alloc _))).mono ?_
            rintro e w1 ⟨rfl, hb⟩
            have HB := Lib.hid (((Bl.refl w).alloc _).bl hb)
            have HK := Lib.hid ((Blk.new w #[.int .i64 r.kind, .int .i64 r.track, .int .i64 r.fr, .int .i64 r.tt, .slice A r.l.length c] 46).bl hb)
            have d0 := HK.out.cell 0
            have d1 := HK.out.cell 1
            have d2 := HK.out.cell 2
            have d3 := HK.out.cell 3
            have d4 := HK.out.cell 4
            simp at d0 d1 d2 d3 d4
            clear hb
            rw [HVR.out]
            go_wp2_with fail
            refine (sfind_any _ s _ _ (HS.out.bl HB.out)).mono ?_
            rintro e w2 ⟨rfl, hb⟩
            replace d0 := hb.cell d0
            replace d1 := hb.cell d1
            have HB2 := Lib.hid (HB.out.bl hb)
            rw [HF.out]
            clear hb
            go_wp2_with fail
            refine (swithout_G G _ s _ _ (HSM.out.bl (HB2.out.only G)) (Nat.le_trans HOK.out.1 (by decide))).mono ?_
            rintro e w3 ⟨u3, rfl, hst, hb⟩
            have HST := Lib.hid ((Sub.mono (gor_le HB2.out.size)).state hst)
            clear hst
            go_wp2_with fail
            go_ret2
            exact ⟨by rw [HA.out]; exact StRes.ok HST.out, HB2.out.bl hb⟩
          · have ha1 : applyR s r = if endM s[i].2.row < r.fr then ([], 7) else if (spliceOf s[i].2 r).2 = 0 then putR s r.track (treeM (spliceOf s[i].2 r).1) else ([], (spliceOf s[i].2 r).2) := by
              rw [ha0]; exact if_neg (by omega)
            have hrl := hsl hk3
            have hlr := valid_len _ hrl
            have e2 : (r.kind == 2) = false := by rw [beq_eq_false_iff_ne]; omega
            clear ha0 hsl hrl hk1 hk123 hk3
            generalize s[i].2 = t at *
            have hvb := validFrom_bd t.row 0 (by decide) HV.out
            have HA1 := Lib.hid ha1
            clear ha1
            go_enter Tryz.func47, Tryz.ntmps47
            go_wp2_with fail
            refine (rvalidRec_any _ r _ (HR.out.bl ((Bl.refl _).alloc _))).mono ?_
            rintro e w1 ⟨rfl, hb⟩
            have HB := Lib.hid (((Bl.refl w).alloc _).bl hb)
            have HK := Lib.hid ((Blk.new w #[.int .i64 r.kind, .int .i64 r.track, .int .i64 r.fr, .int .i64 r.tt, .slice A r.l.length c] 46).bl hb)
            have d0 := HK.out.cell 0
            have d1 := HK.out.cell 1
            have d2 := HK.out.cell 2
            have d3 := HK.out.cell 3
            have d4 := HK.out.cell 4
            simp at d0 d1 d2 d3 d4
            clear hb
            rw [HVR.out]
            go_wp2_with fail
            refine (sfind_any _ s _ _ (HS.out.bl HB.out)).mono ?_
            rintro e w2 ⟨rfl, hb⟩
            replace d0 := hb.cell d0
            replace d1 := hb.cell d1
            replace d2 := hb.cell d2
            replace d3 := hb.cell d3
            replace d4 := hb.cell d4
            have HB2 := Lib.hid (HB.out.bl hb)
            have c1 := hb.cell (HB.out.cell c0)
            rw [HF.out]
            clear hb
            obtain ⟨ad, rfl, k0, k1⟩ := track_at (HAT.out.bl HB2.out) i hi2
            generalize hs0[i] = th at *
            obtain ⟨ti, tb⟩ := th
            dsimp only at k0 k1 HT
            go_wp2_with fail
            by_cases hfr : endM t.row < r.fr
            · have HA := Lib.hid (show applyR s r = ([], 7) by rw [HA1.out]; exact if_pos hfr)
              refine wp_region_ways (S := (fun w' => w'.cell? ⟨w.heap.size, 2, none⟩ = some (.int .i64 r.fr))) [0, 1, 2, 4] (y := .take 0 (.take 1 (.take 2 (.ev 3 (.take 4 (.done)) (.stop))))) (by kernel_rfl) (by kernel_rfl) (by kernel_rfl) ?_ (fun hHeld => ?_)
              · exact Bl.cell (Bl.refl _).drew d2
              repeat (first | (refine wpWay_take rfl (by rfl) (by intro w hSw; (try dsimp only at hSw); first | (go_simp; done) | (go_simp; with_reducible rfl)) ?_; try simp only [Act.put, List.setIfInBounds_toArray, List.set_cons_zero, List.set_cons_succ]) | (refine wpWay_skip rfl (by rfl) ?_; try simp only [Act.put, List.setIfInBounds_toArray, List.set_cons_zero, List.set_cons_succ]))
              refine wpWay_ev rfl (fun K hK => ?_) wpWay_stop
              go_wp2_with fail
              refine (tend_any _ t _ (HT.out.bl (HB2.out.drew)) HV.out).mono ?_
              rintro e w3 ⟨rfl, hb⟩
              go_wp2_with fail
              refine ⟨hb.cell hHeld, ?_⟩
              repeat (first | (refine wpWay_take rfl (by rfl) (by intro w hSw; (try dsimp only at hSw); first | (go_simp; done) | (go_simp; with_reducible rfl)) ?_; try simp only [Act.put, List.setIfInBounds_toArray, List.set_cons_zero, List.set_cons_succ]) | (refine wpWay_skip rfl (by rfl) ?_; try simp only [Act.put, List.setIfInBounds_toArray, List.set_cons_zero, List.set_cons_succ]))
              refine wpWay_done ?_
              go_wp2_with fail
              go_ret2
              exact ⟨by rw [HA.out]; exact StRes.bad (by decide) _, (HB2.out.drew).bl hb⟩
            · have HA := Lib.hid (show applyR s r = if (spliceOf t r).2 = 0 then putR s r.track (treeM (spliceOf t r).1) else ([], (spliceOf t r).2) by rw [HA1.out]; exact if_neg hfr)
              refine wp_region_ways (S := (fun w' => w'.cell? ⟨w.heap.size, 2, none⟩ = some (.int .i64 r.fr))) [0, 1, 2, 4] (y := .take 0 (.take 1 (.take 2 (.ev 3 (.take 4 (.done)) (.stop))))) (by kernel_rfl) (by kernel_rfl) (by kernel_rfl) ?_ (fun hHeld => ?_)
              · exact Bl.cell (Bl.refl _).drew d2
              repeat (first | (refine wpWay_take rfl (by rfl) (by intro w hSw; (try dsimp only at hSw); first | (go_simp; done) | (go_simp; with_reducible rfl)) ?_; try simp only [Act.put, List.setIfInBounds_toArray, List.set_cons_zero, List.set_cons_succ]) | (refine wpWay_skip rfl (by rfl) ?_; try simp only [Act.put, List.setIfInBounds_toArray, List.set_cons_zero, List.set_cons_succ]))
              refine wpWay_ev rfl (fun K hK => ?_) wpWay_stop
              go_wp2_with fail
              refine (tend_any _ t _ (HT.out.bl (HB2.out.drew)) HV.out).mono ?_
              rintro e w3 ⟨rfl, hb⟩
              go_wp2_with fail
              refine ⟨hb.cell hHeld, ?_⟩
              have HB3 := Lib.hid ((HB2.out.drew).bl hb)
              have hb3 := Bl.bl (Bl.refl w2).drew hb
              replace d1 := hb3.cell d1
              replace d2 := hb3.cell d2
              replace d3 := hb3.cell d3
              replace d4 := hb3.cell d4
              clear hb hb3 hHeld d0 c1 k0 k1
              repeat (first | (refine wpWay_take rfl (by rfl) (by intro w hSw; (try dsimp only at hSw); first | (go_simp; done) | (go_simp; with_reducible rfl)) ?_; try simp only [Act.put, List.setIfInBounds_toArray, List.set_cons_zero, List.set_cons_succ]) | (refine wpWay_skip rfl (by rfl) ?_; try simp only [Act.put, List.setIfInBounds_toArray, List.set_cons_zero, List.set_cons_succ]))
              refine wpWay_done ?_
              go_wp2_with fail
              refine wp_region_ways (S := (fun w' => w'.cell? ⟨w.heap.size, 2, none⟩ = some (.int .i64 r.fr) ∧ w'.cell? ⟨w.heap.size, 3, none⟩ = some (.int .i64 r.tt) ∧ w'.cell? ⟨w.heap.size, 4, none⟩ = some (.slice A r.l.length c))) [0, 1, 2, 3, 4, 5, 7, 8, 9, 11, 12, 13, 14, 15] (y := .take 0 (.take 1 (.take 2 (.take 3 (.take 4 (.take 5 (.take 8 (.take 9 (.ev 6 (.take 7 (.ev 10 (.take 11 (.take 12 (.take 13 (.take 14 (.take 15 (.done)))))) (.stop))) (.stop)))))))))) (by kernel_rfl) (by kernel_rfl) (by kernel_rfl) ?_ (fun hHeld => ?_)
              · exact ⟨Bl.cell (Bl.refl _).drew d2, Bl.cell (Bl.refl _).drew d3, Bl.cell (Bl.refl _).drew d4⟩
              have HH := Lib.hid hHeld
              repeat (first | (refine wpWay_take rfl (by rfl) (by intro w hSw; (try dsimp only at hSw); first | (go_simp; done) | (go_simp; with_reducible rfl)) ?_; try simp only [Act.put, List.setIfInBounds_toArray, List.set_cons_zero, List.set_cons_succ]) | (refine wpWay_skip rfl (by rfl) ?_; try simp only [Act.put, List.setIfInBounds_toArray, List.set_cons_zero, List.set_cons_succ]))
              clear hHeld
              refine wpWay_ev rfl (fun K hK => ?_) wpWay_stop
              go_wp2_with fail
              refine (tend_any _ t _ (HT.out.bl (HB3.out.drew)) HV.out).mono ?_
              rintro e w4 ⟨rfl, hb⟩
              replace HH := Lib.hid (And.intro (hb.cell HH.out.1) (And.intro (hb.cell HH.out.2.1) (hb.cell HH.out.2.2)))
              have HB4 := Lib.hid ((HB3.out.drew).bl hb)
              have hb4 := Bl.bl (Bl.refl w3).drew hb
              replace d1 := hb4.cell d1
              clear hb hb4 d2 d3 d4
              go_wp2_with fail
              refine ⟨HH.out, ?_⟩
              repeat (first | (refine wpWay_take rfl (by rfl) (by intro w hSw; (try dsimp only at hSw); first | (go_simp; done) | (go_simp; with_reducible rfl)) ?_; try simp only [Act.put, List.setIfInBounds_toArray, List.set_cons_zero, List.set_cons_succ]) | (refine wpWay_skip rfl (by rfl) ?_; try simp only [Act.put, List.setIfInBounds_toArray, List.set_cons_zero, List.set_cons_succ]))
              refine wpWay_ev rfl (fun K hK => ?_) wpWay_stop
              go_wp2_with fail
              refine (tsplice_G _ _ t r.l r.fr (min r.tt (endM t.row)) _ (HT.out.bl HB4.out) (HL.out.bl HB4.out) HV.out (by omega)).mono ?_
              rintro e w5 ⟨hres, hb⟩
              have HB5 := Lib.hid (HB4.out.bl hb)
              replace HH := Lib.hid (And.intro (hb.cell HH.out.1) (And.intro (hb.cell HH.out.2.1) (hb.cell HH.out.2.2)))
              replace d1 := hb.cell d1
              clear hb
              have hres' : SpliceRes (only w5 (gor G w)) e (spliceOf t r) := SpliceRes.sub hres (Sub.mono (fun b hb => fr_gor G w b (fr_le HB4.out.size b hb)))
              clear hres
              by_cases hz : (spliceOf t r).2 = 0
              · obtain ⟨u3, rfl, hst⟩ := hres'.1 hz
                have HST := Lib.hid hst
                have HA2 := Lib.hid (show applyR s r = putR s r.track (treeM (spliceOf t r).1) by rw [HA.out]; exact if_pos hz)
                clear hres' hst hz
                go_wp2_with fail
                refine ⟨HH.out, ?_⟩
                repeat (first | (refine wpWay_take rfl (by rfl) (by intro w hSw; (try dsimp only at hSw); first | (go_simp; done) | (go_simp; with_reducible rfl)) ?_; try simp only [Act.put, List.setIfInBounds_toArray, List.set_cons_zero, List.set_cons_succ]) | (refine wpWay_skip rfl (by rfl) ?_; try simp only [Act.put, List.setIfInBounds_toArray, List.set_cons_zero, List.set_cons_succ]))
                refine wpWay_done ?_
                go_wp2_with fail
                refine (sput_G (gor G w) _ s r.track u3 (treeM (spliceOf t r).1) _ ((Sub.mono (gor_l G w)).state (HSM.out.bl (HB5.out.only G))) HST.out HOK.out.1).mono ?_
                rintro e w6 ⟨hres, hb⟩
                replace hres := hres.sub (Sub.mono (gor_gor HB5.out.size))
                have HB6 := Lib.hid (HB5.out.bl hb)
                clear hb
                by_cases hz : (putR s r.track (treeM (spliceOf t r).1)).2 = 0
                · obtain ⟨u4, rfl, hst⟩ := hres.1 hz
                  have HST2 := Lib.hid hst
                  have HZ := Lib.hid hz
                  clear hres hst hz
                  go_wp2_with fail
                  go_ret2
                  exact ⟨by rw [HA2.out]; exact ⟨fun _ => ⟨_, rfl, HST2.out⟩, fun h => absurd HZ.out h⟩, HB6.out⟩
                · obtain rfl := hres.2 hz
                  have HZ := Lib.hid hz
                  clear hres hz
                  go_wp2_with fail
                  go_ret2
                  exact ⟨by rw [HA2.out]; exact ⟨fun h => absurd h HZ.out, fun _ => rfl⟩, HB6.out⟩
              · obtain rfl := hres'.2 hz
                have HZ := Lib.hid hz
                have HA2 := Lib.hid (show applyR s r = ([], (spliceOf t r).2) by rw [HA.out]; exact if_neg hz)
                generalize (spliceOf t r).2 = er at *
                have hz1 : (er == 0) = false := by simpa using hz
                have hz2 : (er != 0) = true := by simpa using hz
                clear hres' hz
                go_wp2_with fail
                refine ⟨HH.out, ?_⟩
                repeat (first | (refine wpWay_take rfl (by rfl) (by intro w hSw; (try dsimp only at hSw); first | (go_simp; done) | (go_simp; with_reducible rfl)) ?_; try simp only [Act.put, List.setIfInBounds_toArray, List.set_cons_zero, List.set_cons_succ]) | (refine wpWay_skip rfl (by rfl) ?_; try simp only [Act.put, List.setIfInBounds_toArray, List.set_cons_zero, List.set_cons_succ]))
                refine wpWay_done ?_
                go_wp2_with fail
                go_ret2
                exact ⟨by rw [HA2.out]; exact StRes.bad HZ.out _, HB5.out⟩
theorem sapply_any (v rv : Value) (s : StM) (r : Rec) (w : World) (h : StateIs w v s) (hr : RecIs w rv r) (hs : StOK s) :
    Calls Tryz.prog 47 #[v, rv] w fun e w' => StRes w' e (applyR s r) ∧ Bl w w' :=
  (sapply_G (fun _ => true) v rv s r w (Sub.state (fun _ _ h => cell_only rfl h) h) hr hs).mono fun _ w' ⟨h, hb⟩ => ⟨h.sub (Sub.un w' _), hb⟩
end Go.Proofs.YtddcjekkimajpaaGreat.ExtW

/- Contracts of ref20's Lines: find, Put. -/
namespace Go.Proofs.YtddcjekkimajpaaGreat.ExtW
open Go.RowKit Go.Ov Go.Proofs.YtddcjekkimajpaaGreat.Need

theorem infoRow20 : (Tryz.prog.info? 73).map (fun i => (i.zero, i.size, i.bytes)) = some (some (.agg #[.int .i64 0, .slice none 0 0]), 2, 32) := by kernel_rfl

set_option maxHeartbeats 1000000 in
theorem lfind_any (v : Value) (s : LnM) (id : Int) (w : World) (h : LnIs w v s) :
    Calls Tryz.prog 67 #[v, .int .i64 id] w fun e w' => e = .returned (.int .i64 (idxFrom id 0 (s.map (·.1)))) ∧ w = w' := by
  obtain ⟨hs, ⟨A, c, rfl, _, q1, _, hA⟩, hr⟩ := h
  have HA := Lib.hid hA
  have HE := Lib.hid (show hs.map RH.id = s.map (·.1) from hr.ids)
  unfold maxLen at q1
  have hl : hs.length ≤ 9223372036854775807 := by omega
  clear hA q1 hr
  go_enter Tryz.func67, Tryz.ntmps67
  go_wp2_with fail
  go_loopg [8, 5] hs.length (fun g i v5 wr => ∃ k : Nat, k ≤ hs.length ∧ g = hs.length - k ∧ i = .int .i64 k ∧ wr = w ∧ Hid (idxFrom id 0 (s.map (·.1)) = idxFrom id k ((hs.drop k).map RH.id)))
  case atStart => exact ⟨0, by omega, rfl, rfl, rfl, Lib.hid (by rw [List.drop_zero, HE.out])⟩
  case round =>
    obtain ⟨k, hk, rfl, rfl, rfl, HV⟩ := hrel
    by_cases hlt : k < hs.length
    · obtain ⟨ad, rfl, c0, _⟩ := row_at HA.out k hlt
      have hd := Lib.hid (List.drop_eq_getElem_cons hlt)
      by_cases he : hs[k].id = id
      · have HE2 := Lib.hid he
        rw [he] at c0
        clear he
        go_wp2_with fail
        go_ret
        refine ⟨ret_int ?_, rfl⟩
        rw [HV.out, hd.out, List.map_cons, idxFrom, if_pos HE2.out]
      · generalize hx : hs[k].id = x at *
        have he1 : (x == id) = false := by simpa using he
        have HE2 := Lib.hid he
        have HX := Lib.hid hx
        clear he hx
        go_wp2_with fail
        go_roundg (hs.length - (k + 1))
        case measure => omega
        case rel => exact ⟨k + 1, by omega, rfl, by go_num, rfl, Lib.hid (by rw [HV.out, hd.out, List.map_cons, idxFrom, HX.out, if_neg HE2.out])⟩
    · go_wp2_with fail
      go_ret
      refine ⟨ret_int ?_, rfl⟩
      rw [HV.out, List.drop_of_length_le (by omega)]; rfl

theorem lput_low (v : Value) (A2 : Option Addr) (n2 c2 : Nat) (id : Int) (w : World) (h : id < 0 ∨ 99 < id) :
    Calls Tryz.prog 68 #[v, .int .i64 id, .slice A2 n2 c2] w fun e w' => e = .returned (.tuple #[.slice none 0 0, .int .i64 1]) ∧ w = w' := by
  by_cases h1 : id < 0
  · go_enter Tryz.func68, Tryz.ntmps68
    go_wp2_with fail
    go_ret2
    exact ⟨rfl, rfl⟩
  · have h2 : 99 < id := by omega
    clear h
    go_enter Tryz.func68, Tryz.ntmps68
    go_wp2_with fail
    go_ret2
    exact ⟨rfl, rfl⟩

set_option maxRecDepth 100000 in
set_option maxHeartbeats 2000000 in
theorem lput_G (G : Nat → Bool) (v : Value) (s : LnM) (id : Int) (rv : Value) (row : List Ext) (w : World) (h : LnIs (only w G) v s) (hr : extE.Is (only w G) rv row) (hn : s.length ≤ 1000) :
    Calls Tryz.prog 68 #[v, .int .i64 id, rv] w fun e w' => LnRes (only w' (gor G w)) e (lputM s id row) ∧ Bl w w' := by
  have HS := Lib.hid (LnIs.sub (Sub.un w G) h)
  have HRow := Lib.hid hr
  obtain ⟨A2, c2, rfl, _⟩ := hr
  unfold lputM
  by_cases hb : id < 0 ∨ 99 < id
  · rw [if_pos hb]
    exact (lput_low v A2 row.length c2 id w hb).mono fun e w' ⟨h1, h2⟩ => ⟨⟨fun h => absurd h (by decide), fun _ => h1⟩, h2 ▸ Bl.refl _⟩
  rw [if_neg hb]
  obtain ⟨hs, ⟨A, c, rfl, _, q1, _, hA⟩, hrows⟩ := h
  have HA := Lib.hid ((Sub.un w G).at hA)
  have HR := Lib.hid hrows
  have hl0 : hs.length ≤ 1000 := by rw [hrows.1]; exact hn
  have HL := Lib.hid hrows.1
  have hb1 : ¬ id < 0 := by omega
  have hb2 : ¬ 99 < id := by omega
  clear hA q1 hrows hb
  by_cases hlim : idxFrom id 0 (s.map (·.1)) < 0 ∧ 6 ≤ s.length
  · rw [if_pos hlim]
    obtain ⟨hf, hm⟩ := hlim
    have hm2 : 6 ≤ hs.length := by have := HL.out; omega
    have hm3 : (6 : Int) ≤ hs.length := by omega
    go_enter Tryz.func68, Tryz.ntmps68
    go_wp2_with fail
    refine (lfind_any _ s id _ HS.out).mono ?_
    rintro e w1 ⟨rfl, rfl⟩
    go_wp2_with fail
    go_ret2
    exact ⟨⟨fun h => absurd h (by decide), fun _ => rfl⟩, Bl.refl _⟩
  rw [if_neg hlim]
  rcases (show 0 ≤ idxFrom id 0 (s.map (·.1)) ∨ (idxFrom id 0 (s.map (·.1)) < 0 ∧ hs.length < 6) from by have := HL.out; omega) with hf | ⟨hf, hm⟩
  · clear hlim
    go_enter Tryz.func68, Tryz.ntmps68
    go_wp2_with fail
    refine (lfind_any _ s id _ HS.out).mono ?_
    rintro e w1 ⟨rfl, rfl⟩
    go_wp2_with fail
    generalize hn2 : row.length = n2 at *
    have HN2 := Lib.hid hn2
    clear hn2
    go_loopg [28, 8, 9, 10] hs.length (fun g i v8 v9 v10 wr => ∃ (k : Nat) (o : LnM) (os : List RH) (d : Bool), k ≤ hs.length ∧ g = hs.length - k ∧ i = .int .i64 k ∧ v9 = .bool d ∧ Hid (o ++ lgo (id, row) d (s.drop k) = lgo (id, row) false s) ∧ Hid (rowE.Own 73 wr w.heap.size v8 os) ∧ Hid (LnRows (only w G) os o) ∧ Hid (Bl w wr))
    case atStart => exact ⟨0, [], [], false, by omega, rfl, rfl, rfl, Lib.hid rfl, Lib.hid (Enc.Own.nil _ _ _), Lib.hid (LnRows.nil _), Lib.hid (Bl.refl _)⟩
    case round =>
      obtain ⟨k, o, os, d, hk, rfl, rfl, rfl, HG, HO, HLo, HB⟩ := hrel
      have hol : os.length ≤ 1001 := by
        have h1 := HLo.out.1
        have h2 := congrArg List.length HG.out
        rw [List.length_append] at h2
        have := lgo_len (id, row) false s
        omega
      obtain ⟨A7, c7, rfl⟩ := HO.out.slice
      by_cases hlt : k < hs.length
      · have hlt2 : k < s.length := by have := HL.out; omega
        obtain ⟨ad, rfl, c0, c1⟩ := row_at HA.out k hlt
        obtain ⟨hlt', hR⟩ := HR.out.at k hlt2
        have HD := Lib.hid (List.drop_eq_getElem_cons hlt2)
        rw [hR.1] at c0
        have HT := Lib.hid hR
        have HX := Lib.hid (show LnR (only w G) (id, row) ⟨id, ⟨A2, n2, c2⟩⟩ from ⟨rfl, HRow.out⟩)
        clear hR
        have HE2 := Lib.hid (show LnR (only w G) s[k] ⟨s[k].1, hs[k].h⟩ from ⟨rfl, HT.out.2⟩)
        generalize s[k] = t at *
        generalize hs[k] = hh at *
        obtain ⟨ti, trow⟩ := t
        obtain ⟨hid, hA3, n3, c3⟩ := hh
        dsimp only at c0 c1 HE2
        have B0 := Lib.hid c0
        have B1 := Lib.hid c1
        replace c0 := HB.out.cell c0
        replace c1 := HB.out.cell c1
        cases d with
        | true =>
          by_cases e : ti = id
          · obtain rfl := e
            go_wp2_with fail
            go_roundg (hs.length - (k + 1))
            case measure => omega
            case rel => exact ⟨k + 1, _, _, _, by omega, rfl, by go_num, rfl, Lib.hid (by have h := HG.out; rw [HD.out, lgo] at h; simpa [lgo, List.append_assoc] using h), HO, HLo, HB⟩
          · have e1 : (ti != id) = true := by simpa using e
            have e2 : (ti == id) = false := by simpa using e
            have E := Lib.hid e
            clear e
            go_wp2_with (at_builtin; refine Enc.Own.append1 (E := rowE) rfl (.tmp 55) (.tmp 60) 27 rfl w.heap.size 73 (.agg #[.int .i64 0, .slice none 0 0]) 2 32 Tryz.underlying27 infoRow20 rfl rfl (by decide) (by decide) _ _ rfl HO.out ⟨ti, ⟨hA3, n3, c3⟩⟩ _ rfl rfl rfl ?hlen1 ?hbase1 ?_; (case hlen1 => have := hol; omega); (case hbase1 => exact (HB.out).size); intro v1 w4 ho hg; have HB1 := Lib.hid ((HB.out.alloc _).grown hg (fun k hk => (Enc.Own.lt HO.out k hk).1)); clear hg; obtain ⟨A51, c51, rfl⟩ := ho.slice; simp only [List.length_append, List.length_singleton] at ho; have HO1 := Lib.hid ho; clear ho; have k01 := HB1.out.cell B0.out; have k11 := HB1.out.cell B1.out)
            go_roundg (hs.length - (k + 1))
            case measure => omega
            case rel => exact ⟨k + 1, _, _, _, by omega, rfl, by go_num, rfl, Lib.hid (by have h := HG.out; rw [HD.out, lgo] at h; simpa [E.out, List.append_assoc] using h), HO1, Lib.hid (HLo.out.snoc HE2.out), HB1⟩
        | false =>
          by_cases le : id ≤ ti
          · by_cases e : ti = id
            · obtain rfl := e
              go_wp2_with (at_builtin; refine Enc.Own.append1 (E := rowE) rfl (.tmp 42) (.tmp 46) 27 rfl w.heap.size 73 (.agg #[.int .i64 0, .slice none 0 0]) 2 32 Tryz.underlying27 infoRow20 rfl rfl (by decide) (by decide) _ _ rfl HO.out ⟨ti, ⟨A2, n2, c2⟩⟩ _ rfl rfl rfl ?hlen1 ?hbase1 ?_; (case hlen1 => have := hol; omega); (case hbase1 => exact (HB.out).size); intro v1 w4 ho hg; have HB1 := Lib.hid ((HB.out.alloc _).grown hg (fun k hk => (Enc.Own.lt HO.out k hk).1)); clear hg; obtain ⟨A51, c51, rfl⟩ := ho.slice; simp only [List.length_append, List.length_singleton] at ho; have HO1 := Lib.hid ho; clear ho; have k01 := HB1.out.cell B0.out; have k11 := HB1.out.cell B1.out)
              go_roundg (hs.length - (k + 1))
              case measure => omega
              case rel => exact ⟨k + 1, _, _, _, by omega, rfl, by go_num, rfl, Lib.hid (by have h := HG.out; rw [HD.out, lgo] at h; simpa [lgo, List.append_assoc] using h), HO1, Lib.hid (HLo.out.snoc HX.out), HB1⟩
            · have e1 : (ti != id) = true := by simpa using e
              have e2 : (ti == id) = false := by simpa using e
              have E := Lib.hid e
              have LE := Lib.hid le
              clear e
              go_upto_region 13 with (at_builtin; refine Enc.Own.append1 (E := rowE) rfl (.tmp 42) (.tmp 46) 27 rfl w.heap.size 73 (.agg #[.int .i64 0, .slice none 0 0]) 2 32 Tryz.underlying27 infoRow20 rfl rfl (by decide) (by decide) _ _ rfl HO.out ⟨id, ⟨A2, n2, c2⟩⟩ _ rfl rfl rfl ?hlen1 ?hbase1 ?_; (case hlen1 => have := hol; omega); (case hbase1 => exact (HB.out.size)); intro v1 w4 ho hg; have HB1 := Lib.hid ((HB.out.alloc _).grown hg (fun k hk => (Enc.Own.lt HO.out k hk).1)); clear hg; obtain ⟨A51, c51, rfl⟩ := ho.slice; simp only [List.length_append, List.length_singleton] at ho; have HO1 := Lib.hid ho; clear ho; have k01 := HB1.out.cell B0.out; have k11 := HB1.out.cell B1.out)
              have hol2 : (os ++ [(⟨id, ⟨A2, n2, c2⟩⟩ : RH)]).length ≤ 1002 := by simp; omega
              go_wp2_with (at_builtin; refine Enc.Own.append1 (E := rowE) rfl (.tmp 55) (.tmp 60) 27 rfl w.heap.size 73 (.agg #[.int .i64 0, .slice none 0 0]) 2 32 Tryz.underlying27 infoRow20 rfl rfl (by decide) (by decide) _ _ rfl HO1.out ⟨ti, ⟨hA3, n3, c3⟩⟩ _ rfl rfl rfl ?hlen2 ?hbase2 ?_; (case hlen2 => have := hol2; omega); (case hbase2 => exact (HB1.out).size); intro v1 w4 ho hg; have HB2 := Lib.hid ((HB1.out.alloc _).grown hg (fun k hk => (Enc.Own.lt HO1.out k hk).1)); clear hg; obtain ⟨A52, c52, rfl⟩ := ho.slice; simp only [List.length_append, List.length_singleton] at ho; have HO2 := Lib.hid ho; clear ho; have k02 := HB2.out.cell B0.out; have k12 := HB2.out.cell B1.out)
              go_roundg (hs.length - (k + 1))
              case measure => omega
              case rel => exact ⟨k + 1, _, _, _, by omega, rfl, by go_num, rfl, Lib.hid (by have h := HG.out; rw [HD.out, lgo] at h; simpa [E.out, LE.out, List.append_assoc] using h), HO2, Lib.hid ((HLo.out.snoc HX.out).snoc HE2.out), HB2⟩
          · have e : ti ≠ id := by omega
            have e1 : (ti != id) = true := by simpa using e
            have e2 : (ti == id) = false := by simpa using e
            have E := Lib.hid e
            have LE := Lib.hid le
            clear e
            go_wp2_with (at_builtin; refine Enc.Own.append1 (E := rowE) rfl (.tmp 55) (.tmp 60) 27 rfl w.heap.size 73 (.agg #[.int .i64 0, .slice none 0 0]) 2 32 Tryz.underlying27 infoRow20 rfl rfl (by decide) (by decide) _ _ rfl HO.out ⟨ti, ⟨hA3, n3, c3⟩⟩ _ rfl rfl rfl ?hlen1 ?hbase1 ?_; (case hlen1 => have := hol; omega); (case hbase1 => exact (HB.out).size); intro v1 w4 ho hg; have HB1 := Lib.hid ((HB.out.alloc _).grown hg (fun k hk => (Enc.Own.lt HO.out k hk).1)); clear hg; obtain ⟨A51, c51, rfl⟩ := ho.slice; simp only [List.length_append, List.length_singleton] at ho; have HO1 := Lib.hid ho; clear ho; have k01 := HB1.out.cell B0.out; have k11 := HB1.out.cell B1.out)
            go_roundg (hs.length - (k + 1))
            case measure => omega
            case rel => exact ⟨k + 1, _, _, _, by omega, rfl, by go_num, rfl, Lib.hid (by have h := HG.out; rw [HD.out, lgo] at h; simpa [E.out, (show ¬ id ≤ ti from by have := LE.out; omega), List.append_assoc] using h), HO1, Lib.hid (HLo.out.snoc HE2.out), HB1⟩
      · have hds : s.drop k = [] := List.drop_of_length_le (by have := HL.out; omega)
        cases d with
        | true =>
          have HF := Lib.hid (show o = lgo (id, row) false s by have := HG.out; rw [hds] at this; simpa [lgo] using this)
          clear hds
          go_wp2_with fail
          go_ret2
          exact ⟨⟨fun _ => ⟨_, rfl, os, HO.out.isM (fun k hk => fr_gor G w k (fr_ge (Nat.le_refl _) hk)), by rw [← HF.out]; exact LnRows.sub (Sub.mono (gor_l G w)) (HLo.out.bl (HB.out.only G))⟩, fun h => absurd rfl h⟩, HB.out⟩
        | false =>
          have HF := Lib.hid (show o ++ [(id, row)] = lgo (id, row) false s by have := HG.out; rw [hds] at this; simpa [lgo] using this)
          have HX := Lib.hid (show LnR (only w G) (id, row) ⟨id, ⟨A2, n2, c2⟩⟩ from ⟨rfl, HRow.out⟩)
          clear hds
          go_wp2_with (at_builtin; refine Enc.Own.append1 (E := rowE) rfl (.tmp 65) (.tmp 69) 27 rfl w.heap.size 73 (.agg #[.int .i64 0, .slice none 0 0]) 2 32 Tryz.underlying27 infoRow20 rfl rfl (by decide) (by decide) _ _ rfl HO.out ⟨id, ⟨A2, n2, c2⟩⟩ _ rfl rfl rfl ?hlen1 ?hbase1 ?_; (case hlen1 => have := hol; omega); (case hbase1 => exact (HB.out.size)); intro v1 w4 ho hg; have HB1 := Lib.hid ((HB.out.alloc _).grown hg (fun k hk => (Enc.Own.lt HO.out k hk).1)); clear hg; obtain ⟨A51, c51, rfl⟩ := ho.slice; simp only [List.length_append, List.length_singleton] at ho; have HO1 := Lib.hid ho; clear ho)
          go_ret2
          exact ⟨⟨fun _ => ⟨_, rfl, os ++ [(⟨id, ⟨A2, n2, c2⟩⟩ : RH)], HO1.out.isM (fun k hk => fr_gor G w k (fr_ge (Nat.le_refl _) hk)), by rw [← HF.out]; exact LnRows.sub (Sub.mono (gor_l G w)) ((HLo.out.snoc HX.out).bl (HB1.out.only G))⟩, fun h => absurd rfl h⟩, HB1.out⟩
  · have hm3 : (hs.length : Int) < 6 := by omega
    clear hlim
    go_enter Tryz.func68, Tryz.ntmps68
    go_wp2_with fail
    refine (lfind_any _ s id _ HS.out).mono ?_
    rintro e w1 ⟨rfl, rfl⟩
    go_wp2_with fail
    generalize hn2 : row.length = n2 at *
    have HN2 := Lib.hid hn2
    clear hn2
    go_loopg [28, 8, 9, 10] hs.length (fun g i v8 v9 v10 wr => ∃ (k : Nat) (o : LnM) (os : List RH) (d : Bool), k ≤ hs.length ∧ g = hs.length - k ∧ i = .int .i64 k ∧ v9 = .bool d ∧ Hid (o ++ lgo (id, row) d (s.drop k) = lgo (id, row) false s) ∧ Hid (rowE.Own 73 wr w.heap.size v8 os) ∧ Hid (LnRows (only w G) os o) ∧ Hid (Bl w wr))
    case atStart => exact ⟨0, [], [], false, by omega, rfl, rfl, rfl, Lib.hid rfl, Lib.hid (Enc.Own.nil _ _ _), Lib.hid (LnRows.nil _), Lib.hid (Bl.refl _)⟩
    case round =>
      obtain ⟨k, o, os, d, hk, rfl, rfl, rfl, HG, HO, HLo, HB⟩ := hrel
      have hol : os.length ≤ 1001 := by
        have h1 := HLo.out.1
        have h2 := congrArg List.length HG.out
        rw [List.length_append] at h2
        have := lgo_len (id, row) false s
        omega
      obtain ⟨A7, c7, rfl⟩ := HO.out.slice
      by_cases hlt : k < hs.length
      · have hlt2 : k < s.length := by have := HL.out; omega
        obtain ⟨ad, rfl, c0, c1⟩ := row_at HA.out k hlt
        obtain ⟨hlt', hR⟩ := HR.out.at k hlt2
        have HD := Lib.hid (List.drop_eq_getElem_cons hlt2)
        rw [hR.1] at c0
        have HT := Lib.hid hR
        have HX := Lib.hid (show LnR (only w G) (id, row) ⟨id, ⟨A2, n2, c2⟩⟩ from ⟨rfl, HRow.out⟩)
        clear hR
        have HE2 := Lib.hid (show LnR (only w G) s[k] ⟨s[k].1, hs[k].h⟩ from ⟨rfl, HT.out.2⟩)
        generalize s[k] = t at *
        generalize hs[k] = hh at *
        obtain ⟨ti, trow⟩ := t
        obtain ⟨hid, hA3, n3, c3⟩ := hh
        dsimp only at c0 c1 HE2
        have B0 := Lib.hid c0
        have B1 := Lib.hid c1
        replace c0 := HB.out.cell c0
        replace c1 := HB.out.cell c1
        cases d with
        | true =>
          by_cases e : ti = id
          · obtain rfl := e
            go_wp2_with fail
            go_roundg (hs.length - (k + 1))
            case measure => omega
            case rel => exact ⟨k + 1, _, _, _, by omega, rfl, by go_num, rfl, Lib.hid (by have h := HG.out; rw [HD.out, lgo] at h; simpa [lgo, List.append_assoc] using h), HO, HLo, HB⟩
          · have e1 : (ti != id) = true := by simpa using e
            have e2 : (ti == id) = false := by simpa using e
            have E := Lib.hid e
            clear e
            go_wp2_with (at_builtin; refine Enc.Own.append1 (E := rowE) rfl (.tmp 55) (.tmp 60) 27 rfl w.heap.size 73 (.agg #[.int .i64 0, .slice none 0 0]) 2 32 Tryz.underlying27 infoRow20 rfl rfl (by decide) (by decide) _ _ rfl HO.out ⟨ti, ⟨hA3, n3, c3⟩⟩ _ rfl rfl rfl ?hlen1 ?hbase1 ?_; (case hlen1 => have := hol; omega); (case hbase1 => exact (HB.out).size); intro v1 w4 ho hg; have HB1 := Lib.hid ((HB.out.alloc _).grown hg (fun k hk => (Enc.Own.lt HO.out k hk).1)); clear hg; obtain ⟨A51, c51, rfl⟩ := ho.slice; simp only [List.length_append, List.length_singleton] at ho; have HO1 := Lib.hid ho; clear ho; have k01 := HB1.out.cell B0.out; have k11 := HB1.out.cell B1.out)
            go_roundg (hs.length - (k + 1))
            case measure => omega
            case rel => exact ⟨k + 1, _, _, _, by omega, rfl, by go_num, rfl, Lib.hid (by have h := HG.out; rw [HD.out, lgo] at h; simpa [E.out, List.append_assoc] using h), HO1, Lib.hid (HLo.out.snoc HE2.out), HB1⟩
        | false =>
          by_cases le : id ≤ ti
          · by_cases e : ti = id
            · obtain rfl := e
              go_wp2_with (at_builtin; refine Enc.Own.append1 (E := rowE) rfl (.tmp 42) (.tmp 46) 27 rfl w.heap.size 73 (.agg #[.int .i64 0, .slice none 0 0]) 2 32 Tryz.underlying27 infoRow20 rfl rfl (by decide) (by decide) _ _ rfl HO.out ⟨ti, ⟨A2, n2, c2⟩⟩ _ rfl rfl rfl ?hlen1 ?hbase1 ?_; (case hlen1 => have := hol; omega); (case hbase1 => exact (HB.out).size); intro v1 w4 ho hg; have HB1 := Lib.hid ((HB.out.alloc _).grown hg (fun k hk => (Enc.Own.lt HO.out k hk).1)); clear hg; obtain ⟨A51, c51, rfl⟩ := ho.slice; simp only [List.length_append, List.length_singleton] at ho; have HO1 := Lib.hid ho; clear ho; have k01 := HB1.out.cell B0.out; have k11 := HB1.out.cell B1.out)
              go_roundg (hs.length - (k + 1))
              case measure => omega
              case rel => exact ⟨k + 1, _, _, _, by omega, rfl, by go_num, rfl, Lib.hid (by have h := HG.out; rw [HD.out, lgo] at h; simpa [lgo, List.append_assoc] using h), HO1, Lib.hid (HLo.out.snoc HX.out), HB1⟩
            · have e1 : (ti != id) = true := by simpa using e
              have e2 : (ti == id) = false := by simpa using e
              have E := Lib.hid e
              have LE := Lib.hid le
              clear e
              go_upto_region 13 with (at_builtin; refine Enc.Own.append1 (E := rowE) rfl (.tmp 42) (.tmp 46) 27 rfl w.heap.size 73 (.agg #[.int .i64 0, .slice none 0 0]) 2 32 Tryz.underlying27 infoRow20 rfl rfl (by decide) (by decide) _ _ rfl HO.out ⟨id, ⟨A2, n2, c2⟩⟩ _ rfl rfl rfl ?hlen1 ?hbase1 ?_; (case hlen1 => have := hol; omega); (case hbase1 => exact (HB.out.size)); intro v1 w4 ho hg; have HB1 := Lib.hid ((HB.out.alloc _).grown hg (fun k hk => (Enc.Own.lt HO.out k hk).1)); clear hg; obtain ⟨A51, c51, rfl⟩ := ho.slice; simp only [List.length_append, List.length_singleton] at ho; have HO1 := Lib.hid ho; clear ho; have k01 := HB1.out.cell B0.out; have k11 := HB1.out.cell B1.out)
              have hol2 : (os ++ [(⟨id, ⟨A2, n2, c2⟩⟩ : RH)]).length ≤ 1002 := by simp; omega
              go_wp2_with (at_builtin; refine Enc.Own.append1 (E := rowE) rfl (.tmp 55) (.tmp 60) 27 rfl w.heap.size 73 (.agg #[.int .i64 0, .slice none 0 0]) 2 32 Tryz.underlying27 infoRow20 rfl rfl (by decide) (by decide) _ _ rfl HO1.out ⟨ti, ⟨hA3, n3, c3⟩⟩ _ rfl rfl rfl ?hlen2 ?hbase2 ?_; (case hlen2 => have := hol2; omega); (case hbase2 => exact (HB1.out).size); intro v1 w4 ho hg; have HB2 := Lib.hid ((HB1.out.alloc _).grown hg (fun k hk => (Enc.Own.lt HO1.out k hk).1)); clear hg; obtain ⟨A52, c52, rfl⟩ := ho.slice; simp only [List.length_append, List.length_singleton] at ho; have HO2 := Lib.hid ho; clear ho; have k02 := HB2.out.cell B0.out; have k12 := HB2.out.cell B1.out)
              go_roundg (hs.length - (k + 1))
              case measure => omega
              case rel => exact ⟨k + 1, _, _, _, by omega, rfl, by go_num, rfl, Lib.hid (by have h := HG.out; rw [HD.out, lgo] at h; simpa [E.out, LE.out, List.append_assoc] using h), HO2, Lib.hid ((HLo.out.snoc HX.out).snoc HE2.out), HB2⟩
          · have e : ti ≠ id := by omega
            have e1 : (ti != id) = true := by simpa using e
            have e2 : (ti == id) = false := by simpa using e
            have E := Lib.hid e
            have LE := Lib.hid le
            clear e
            go_wp2_with (at_builtin; refine Enc.Own.append1 (E := rowE) rfl (.tmp 55) (.tmp 60) 27 rfl w.heap.size 73 (.agg #[.int .i64 0, .slice none 0 0]) 2 32 Tryz.underlying27 infoRow20 rfl rfl (by decide) (by decide) _ _ rfl HO.out ⟨ti, ⟨hA3, n3, c3⟩⟩ _ rfl rfl rfl ?hlen1 ?hbase1 ?_; (case hlen1 => have := hol; omega); (case hbase1 => exact (HB.out).size); intro v1 w4 ho hg; have HB1 := Lib.hid ((HB.out.alloc _).grown hg (fun k hk => (Enc.Own.lt HO.out k hk).1)); clear hg; obtain ⟨A51, c51, rfl⟩ := ho.slice; simp only [List.length_append, List.length_singleton] at ho; have HO1 := Lib.hid ho; clear ho; have k01 := HB1.out.cell B0.out; have k11 := HB1.out.cell B1.out)
            go_roundg (hs.length - (k + 1))
            case measure => omega
            case rel => exact ⟨k + 1, _, _, _, by omega, rfl, by go_num, rfl, Lib.hid (by have h := HG.out; rw [HD.out, lgo] at h; simpa [E.out, (show ¬ id ≤ ti from by have := LE.out; omega), List.append_assoc] using h), HO1, Lib.hid (HLo.out.snoc HE2.out), HB1⟩
      · have hds : s.drop k = [] := List.drop_of_length_le (by have := HL.out; omega)
        cases d with
        | true =>
          have HF := Lib.hid (show o = lgo (id, row) false s by have := HG.out; rw [hds] at this; simpa [lgo] using this)
          clear hds
          go_wp2_with fail
          go_ret2
          exact ⟨⟨fun _ => ⟨_, rfl, os, HO.out.isM (fun k hk => fr_gor G w k (fr_ge (Nat.le_refl _) hk)), by rw [← HF.out]; exact LnRows.sub (Sub.mono (gor_l G w)) (HLo.out.bl (HB.out.only G))⟩, fun h => absurd rfl h⟩, HB.out⟩
        | false =>
          have HF := Lib.hid (show o ++ [(id, row)] = lgo (id, row) false s by have := HG.out; rw [hds] at this; simpa [lgo] using this)
          have HX := Lib.hid (show LnR (only w G) (id, row) ⟨id, ⟨A2, n2, c2⟩⟩ from ⟨rfl, HRow.out⟩)
          clear hds
          go_wp2_with (at_builtin; refine Enc.Own.append1 (E := rowE) rfl (.tmp 65) (.tmp 69) 27 rfl w.heap.size 73 (.agg #[.int .i64 0, .slice none 0 0]) 2 32 Tryz.underlying27 infoRow20 rfl rfl (by decide) (by decide) _ _ rfl HO.out ⟨id, ⟨A2, n2, c2⟩⟩ _ rfl rfl rfl ?hlen1 ?hbase1 ?_; (case hlen1 => have := hol; omega); (case hbase1 => exact (HB.out.size)); intro v1 w4 ho hg; have HB1 := Lib.hid ((HB.out.alloc _).grown hg (fun k hk => (Enc.Own.lt HO.out k hk).1)); clear hg; obtain ⟨A51, c51, rfl⟩ := ho.slice; simp only [List.length_append, List.length_singleton] at ho; have HO1 := Lib.hid ho; clear ho)
          go_ret2
          exact ⟨⟨fun _ => ⟨_, rfl, os ++ [(⟨id, ⟨A2, n2, c2⟩⟩ : RH)], HO1.out.isM (fun k hk => fr_gor G w k (fr_ge (Nat.le_refl _) hk)), by rw [← HF.out]; exact LnRows.sub (Sub.mono (gor_l G w)) ((HLo.out.snoc HX.out).bl (HB1.out.only G))⟩, fun h => absurd rfl h⟩, HB1.out⟩
end Go.Proofs.YtddcjekkimajpaaGreat.ExtW

/- Contracts of the document's own functions on extents (overdubref14). -/
namespace Go.Proofs.YtddcjekkimajpaaGreat.ExtW
open Go.RowKit Go.Ov Go.Proofs.YtddcjekkimajpaaGreat.Need

set_option maxRecDepth 100000 in
set_option maxHeartbeats 1000000 in
theorem rend_any (v : Value) (l : List Ext) (w : World) (h : extE.Is w v l) :
    Calls Tryz.prog 69 #[v] w fun e w' => e = .returned (.int .i64 (wrap64 (endM l))) ∧ w = w' := by
  obtain ⟨A, c, rfl, h1, h2, h3, h4⟩ := h
  have HA := Lib.hid h4
  have hl : l.length ≤ 9223372036854775807 := by unfold maxLen at h2; omega
  have hu := Tryz.underlying81
  clear h1 h2 h3 h4
  go_enter Tryz.func69, Tryz.ntmps69
  go_wp2
  go_loopg [3, 7] l.length (fun g s i wr => ∃ k : Nat, k ≤ l.length ∧ g = l.length - k ∧ i = .int .i64 k ∧ s = .int .i64 (wrap64 (psum Ext.take l k)) ∧ wr = w)
  case atStart => exact ⟨0, by omega, rfl, rfl, by rw [psum_zero]; exact congrArg (Value.int .i64) (wrap_id (by decide) (by decide)).symm, rfl⟩
  case round =>
    obtain ⟨k, hk, rfl, rfl, rfl, rfl⟩ := hrel
    by_cases hlt : k < l.length
    · obtain ⟨ad, rfl, c0, c1, c2, c3, c4⟩ := ext_at HA.out k hlt
      have hst := Lib.hid (psum_succ Ext.take l k hlt)
      generalize l[k] = x at *
      obtain ⟨x0, x1, x2, x3, x4⟩ := x
      dsimp only at c0 c1 c2 c3 c4
      go_wp2
      go_roundg (l.length - (k + 1))
      case measure => omega
      case rel => exact ⟨k + 1, by omega, rfl, by go_num, by rw [hst.out, wrap_wrap_add], rfl⟩
    · go_wp2
      go_ret
      exact ⟨ret_int (by rw [psum_all _ _ _ (by omega)]; rfl), rfl⟩

theorem first_bad (x : Ext) (a : Int) : x.at_ ≠ a ∨ x.at_ = a ∧ (x.take < 1 ∨ ¬ x.take < 1 ∧ (x.skip < 0 ∨ ¬ x.skip < 0 ∧ (64 < x.count ∨ ¬ 64 < x.count ∧ (x.count < x.skip ∨ ¬ x.count < x.skip ∧ (x.count - x.skip < x.take ∨ ¬ x.count - x.skip < x.take ∧ (x.sector < 1 ∨ ¬ x.sector < 1 ∧ (4096 ≤ x.sector ∨ ¬ 4096 ≤ x.sector))))))) := by omega

set_option maxRecDepth 100000 in
set_option maxHeartbeats 2000000 in
theorem rvalid_any (v : Value) (l : List Ext) (w : World) (h : extE.Is w v l) : Calls Tryz.prog 66 #[v] w fun e w' => e = .returned (.bool (validFrom 0 l)) ∧ Bl w w' := by
  obtain ⟨A, c, rfl, h1, h2, h3, h4⟩ := h
  have HA := Lib.hid h4
  have hl : l.length ≤ 9223372036854775807 := by unfold maxLen at h2; omega
  have hu := Tryz.underlying81
  clear h1 h2 h3 h4
  go_enter Tryz.func66, Tryz.ntmps66
  go_wp2
  go_loopg [3, 8] l.length (fun g s i wr => ∃ (k : Nat) (a : Int), k ≤ l.length ∧ g = l.length - k ∧ i = .int .i64 k ∧ s = .int .i64 a ∧ Hid (validFrom 0 l = validFrom a (l.drop k)) ∧ 0 ≤ a ∧ a ≤ 1000 ∧ Bl w wr)
  case atStart => exact ⟨0, 0, by omega, rfl, rfl, rfl, Lib.hid rfl, by omega, by omega, Bl.refl _⟩
  case round =>
    obtain ⟨k, a, hk, rfl, rfl, rfl, hv, ha0, ha1, hbl⟩ := hrel
    have HB := Lib.hid hbl
    clear hbl
    by_cases hlt : k < l.length
    · obtain ⟨ad, rfl, c0, c1, c2, c3, c4⟩ := ext_at (HA.out.bl HB.out) k hlt
      have hd := Lib.hid (List.drop_eq_getElem_cons hlt)
      generalize l[k] = x at *
      have hf := first_bad x a
      obtain ⟨x0, x1, x2, x3, x4⟩ := x
      dsimp only at c0 c1 c2 c3 c4 hf
      rcases hf with g | ⟨rfl, g | ⟨g1, g | ⟨g2, g | ⟨g3, g | ⟨g4, g | ⟨g5, g | ⟨g6, g | g7⟩⟩⟩⟩⟩⟩⟩
      rotate_right
      · have hw2 : wrap64 (x2 - x3) = x2 - x3 := wrap_id (by omega) (by omega)
        go_wp2
        · go_ret
          refine ⟨ret_bool ?_, HB.out.alloc _⟩
          rw [hv.out, hd.out, Bool.eq_iff_iff]; simp [validFrom, oneB]; intros; exfalso; omega
        · go_roundg (l.length - (k + 1))
          case measure => omega
          case rel =>
            refine ⟨k + 1, x0 + x4, by omega, rfl, by go_num, rfl, Lib.hid ?_, by omega, by omega, HB.out.alloc _⟩
            rw [hv.out, hd.out]; simp [validFrom, oneB]; omega
      all_goals
        go_wp2
        go_ret
        refine ⟨ret_bool ?_, HB.out.alloc _⟩
        rw [hv.out, hd.out, Bool.eq_iff_iff]; simp [validFrom, oneB]; intros; exfalso; omega
    · go_wp2
      go_ret
      refine ⟨ret_bool ?_, HB.out⟩
      rw [hv.out, List.drop_of_length_le (by omega)]; rfl

set_option maxRecDepth 100000 in
set_option maxHeartbeats 1000000 in
theorem rshift_any (v : Value) (l : List Ext) (by_ : Int) (w : World) (h : extE.Is w v l) (hn : l.length * 40 ≤ 140737488355328) :
    Calls Tryz.prog 97 #[v, .int .i64 by_] w fun e w' => ∃ u, e = .returned u ∧ extE.Own 81 w' w.heap.size u (shiftM by_ l) ∧ Bl w w' := by
  obtain ⟨A, c, rfl, h1, h2, h3, h4⟩ := h
  have HA := Lib.hid h4
  have hl : l.length ≤ 9223372036854775807 := by unfold maxLen at h2; omega
  have hu := Tryz.underlying81
  clear h1 h2 h3 h4
  go_enter Tryz.func97, Tryz.ntmps97
  go_wp2
  go_loopg [5, 10] l.length (fun g s i wr => ∃ (k : Nat), k ≤ l.length ∧ g = l.length - k ∧ i = .int .i64 k ∧ extE.Own 81 wr w.heap.size s (pmap (shiftE by_) l k) ∧ Bl w wr)
  case atStart => exact ⟨0, by omega, rfl, rfl, Enc.Own.nil _ _ _, Bl.refl _⟩
  case round =>
    obtain ⟨k, hk, rfl, rfl, ho, hbl⟩ := hrel
    have HB := Lib.hid hbl
    have HO := Lib.hid ho
    clear hbl ho
    by_cases hlt : k < l.length
    · obtain ⟨ad, rfl, c0, c1, c2, c3, c4⟩ := ext_at (HA.out.bl HB.out) k hlt
      have hst := Lib.hid (pmap_succ (shiftE by_) l k hlt)
      have hlen := Lib.hid (pmap_len (shiftE by_) l k hk)
      generalize pmap (shiftE by_) l k = xs at *
      generalize l[k] = x at *
      obtain ⟨x0, x1, x2, x3, x4⟩ := x
      dsimp only at c0 c1 c2 c3 c4
      go_wp2_with (at_builtin; refine Enc.Own.append1 (E := extE) rfl (.tmp 22) (.tmp 24) 44 rfl w.heap.size 81 (.agg #[.int .i64 0, .int .i64 0, .int .i64 0, .int .i64 0, .int .i64 0]) 5 40 Tryz.underlying44 infoExt rfl rfl (by decide) (by decide) u5 xs rfl (HO.out.bl ((Bl.refl _).alloc _)) ⟨wrap64 (x0 + by_), x1, x2, x3, x4⟩ _ rfl (by simp) rfl ?hlen ?hbase ?_; (case hlen => have := hlen.out; omega); (case hbase => exact (HB.out.alloc _).size); intro v1 w1 ho hg)
      go_roundg (l.length - (k + 1))
      case measure => omega
      case rel => exact ⟨k + 1, by omega, rfl, by go_num, by rw [hst.out]; exact ho, ((HB.out.alloc _).alloc _).grown hg (fun k hk => (Enc.Own.lt HO.out k hk).1)⟩
    · go_wp2
      go_ret
      exact ⟨_, rfl, by have := HO.out; rw [pmap_all _ _ _ (by omega)] at this; exact this, HB.out⟩

set_option maxRecDepth 100000 in
set_option maxHeartbeats 1000000 in
theorem rcut_any (v : Value) (l : List Ext) (a b : Int) (w : World) (h : extE.Is w v l) (hn : l.length * 40 ≤ 140737488355328) :
    Calls Tryz.prog 96 #[v, .int .i64 a, .int .i64 b] w fun e w' => ∃ u, e = .returned u ∧ extE.Own 81 w' w.heap.size u (cutM (max a 0) (min b (wrap64 (endM l))) l) ∧ Bl w w' := by
  obtain ⟨A, c, rfl, h1, h2, h3, h4⟩ := h
  have HI := Lib.hid (show extE.Is w (.slice A l.length c) l from ⟨A, c, rfl, h1, h2, h3, h4⟩)
  have HA := Lib.hid h4
  have hl : l.length ≤ 9223372036854775807 := by unfold maxLen at h2; omega
  have hu := Tryz.underlying81
  clear h1 h2 h3 h4
  go_enter Tryz.func96, Tryz.ntmps96
  go_wp2_with fail
  refine (rend_any _ _ _ HI.out).mono ?_
  rintro e w1 ⟨rfl, rfl⟩
  go_wp2_with fail
  clear HI
  generalize ha : max a 0 = a1 at *
  generalize hb : min b (wrap64 (endM l)) = b1 at *
  have Ha := Lib.hid ha
  have Hb := Lib.hid hb
  clear ha hb
  go_loopg [7, 20] l.length (fun g s i wr => ∃ (k : Nat), k ≤ l.length ∧ g = l.length - k ∧ i = .int .i64 k ∧ extE.Own 81 wr w.heap.size s (pflat (cutE a1 b1) l k) ∧ Bl w wr)
  case atStart => exact ⟨0, by omega, rfl, rfl, Enc.Own.nil _ _ _, Bl.refl _⟩
  case round =>
    obtain ⟨k, hk, rfl, rfl, ho, hbl⟩ := hrel
    have HB := Lib.hid hbl
    have HO := Lib.hid ho
    clear hbl ho
    by_cases hlt : k < l.length
    · obtain ⟨ad, rfl, c0, c1, c2, c3, c4⟩ := ext_at (HA.out.bl HB.out) k hlt
      have hst := Lib.hid (pflat_succ (cutE a1 b1) l k hlt)
      have hlen := Lib.hid (pflat_len (cutE a1 b1) (cutE_len a1 b1) l k)
      generalize pflat (cutE a1 b1) l k = xs at *
      generalize l[k] = x at *
      obtain ⟨x0, x1, x2, x3, x4⟩ := x
      dsimp only at c0 c1 c2 c3 c4
      go_wp2_with fail
      go_quiet (fail)
      have hcc : cutE a1 b1 ⟨x0, x1, x2, x3, x4⟩ = if max a1 x0 < min b1 (wrap64 (x0 + x4)) then [⟨max a1 x0, x1, x2, wrap64 (wrap64 (x3 + max a1 x0) - x0), wrap64 (min b1 (wrap64 (x0 + x4)) - max a1 x0)⟩] else [] := by
        unfold cutE; rw [Int.max_comm x0 a1, Int.min_comm _ b1]
      have HCC := Lib.hid hcc
      clear hcc
      by_cases ht : max a1 x0 < min b1 (wrap64 (x0 + x4))
      · have HC := Lib.hid (HCC.out.trans (if_pos ht))
        clear HCC
        go_wp2_with (at_builtin; refine Enc.Own.append1 (E := extE) rfl (.tmp 41) (.tmp 58) 44 rfl w.heap.size 81 (.agg #[.int .i64 0, .int .i64 0, .int .i64 0, .int .i64 0, .int .i64 0]) 5 40 Tryz.underlying44 infoExt rfl rfl (by decide) (by decide) u7 xs rfl (HO.out.bl (((Bl.refl _).alloc _).drewN _)) ⟨max a1 x0, x1, x2, wrap64 (wrap64 (x3 + max a1 x0) - x0), wrap64 (min b1 (wrap64 (x0 + x4)) - max a1 x0)⟩ _ rfl (by simp) rfl ?hlen ?hbase ?_; (case hlen => have := hlen.out; omega); (case hbase => exact ((HB.out.alloc _).drewN _).size); intro v1 w1 ho hg)
        go_roundg (l.length - (k + 1))
        case measure => omega
        case rel => exact ⟨k + 1, by omega, rfl, by go_num, by rw [hst.out, HC.out]; exact ho, (((HB.out.alloc _).drewN _).alloc _).grown hg (fun k hk => (Enc.Own.lt HO.out k hk).1)⟩
      · have HC := Lib.hid (HCC.out.trans (if_neg ht))
        clear HCC
        go_wp2
        go_roundg (l.length - (k + 1))
        case measure => omega
        case rel => exact ⟨k + 1, by omega, rfl, by go_num, by rw [hst.out, HC.out, List.append_nil]; exact HO.out.bl (((Bl.refl _).alloc _).drewN _), (HB.out.alloc _).drewN _⟩
    · go_wp2
      go_ret
      exact ⟨_, rfl, by have := HO.out; rw [pflat_all _ _ _ (by omega)] at this; rw [Ha.out, Hb.out]; exact this, HB.out⟩
end Go.Proofs.YtddcjekkimajpaaGreat.ExtW
