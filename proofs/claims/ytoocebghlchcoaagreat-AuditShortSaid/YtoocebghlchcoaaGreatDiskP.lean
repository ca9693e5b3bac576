/- A disk as data: an image, writes that wait; how it lies in memory; what reads, writes, flushes make of it. No program in sight. -/
import Derived.Test.YtoocebghlchcoaaGreatByteP
import Derived.Deep.MidRow
import Derived.Great.FillDense
import Derived.Great.BuildSlice
namespace Go.Ov
open Go.RowKit

/-- one sector of an image -/
def secM (img : List Int) (i : Nat) : List Int := (img.drop (128 * i)).take 128
theorem sec_len {img : List Int} {n i : Nat} (h : img.length = 128 * n) (hi : i < n) : (secM img i).length = 128 := by unfold secM; rw [List.length_take, List.length_drop]; omega
/-- a disk -/
structure DiskM where
  img : List Int
  waits : List (Nat × List Int)
  dead : Bool
  stops : Bool
  pos : Int
def waitE : Enc (Nat × List Int) := ⟨129, fun p => .int .i64 p.1 :: (List.range 128).map (fun j => .int .u8 (p.2.getD j 0)), fun p => by simp, fun p u h => by
  rcases List.mem_cons.1 h with rfl | h
  · rfl
  · obtain ⟨j, _, rfl⟩ := List.mem_map.1 h; rfl⟩
theorem wait_c (i : Nat) (s : List Int) (h : s.length = 128) : waitE.c (i, s) = .int .i64 i :: s.map (.int .u8) := by
  show Value.int .i64 i :: (List.range 128).map _ = _
  congr 1
  apply List.ext_getElem (by simp [h])
  intro j h1 h2
  simp only [List.getElem_map, List.getElem_range, List.getD_eq_getElem?_getD]
  rw [List.getElem?_eq_getElem (by simp at h1; omega)]; rfl
/-- a right disk of so many sectors -/
structure DOK (m : DiskM) (n : Nat) : Prop where
  len : m.img.length = 128 * n
  n1 : 1 ≤ n
  n2 : n ≤ 4096
  ok : okB m.img
  wt : ∀ p ∈ m.waits, p.1 < n ∧ p.2.length = 128 ∧ okB p.2
  wl : m.waits.length ≤ 1000000
  pb : 0 ≤ m.pos ∧ m.pos ≤ 4611686018427387903
/-- a disk in block D -/
structure DiskIs (Td Ts Tw : TypeId) (w : World) (base D K : Nat) (vw : Value) (m : DiskM) (n : Nat) : Prop where
  dsk : ∃ r wr fl : Int, Blk w D #[.slice (some ⟨K, 0, none⟩) n n, vw, .bool m.dead, .bool m.stops, .int .i64 m.pos, .int .i64 r, .int .i64 wr, .int .i64 fl] Td
  kept : Blk w K (rowB m.img) Ts
  wait : waitE.Own Tw w base vw m.waits
  ok : DOK m n
  lowD : base ≤ D
  lowK : base ≤ K
theorem DiskIs.bl {Td Ts Tw : TypeId} {w w' : World} {base D K : Nat} {vw : Value} {m : DiskM} {n : Nat} (h : DiskIs Td Ts Tw w base D K vw m n) (hb : Bl w w') : DiskIs Td Ts Tw w' base D K vw m n := by
  obtain ⟨r, wr, fl, hk⟩ := h.dsk
  exact ⟨⟨r, wr, fl, hk.bl hb⟩, h.kept.bl hb, h.wait.bl hb, h.ok, h.lowD, h.lowK⟩
/-- a disk's blocks -/
abbrev dFoot (D K : Nat) (vw : Value) : List (Option Nat) := [some D, some K, vw.ownBlock]
theorem blk_ne {w : World} {B C : Nat} {cs ds : Array Value} {T U : TypeId} (h : Blk w B cs T) (k : Blk w C ds U) (hT : T ≠ U) : B ≠ C := fun e => by
  subst e
  unfold Blk at h k
  rw [h] at k
  injection k with k
  injection k with _ k _
  exact hT k
theorem own_blk_ne {α : Type} {E : Enc α} {e T : TypeId} {w : World} {base B : Nat} {v : Value} {xs : List α} {cs : Array Value} (h : E.Own e w base v xs) (k : Blk w B cs T) (hT : e ≠ T) : v.ownBlock ≠ some B := fun q => by
  rcases h.2 with ⟨rfl, _⟩ | ⟨g, cap, cur, rfl, _, h3, _⟩
  · cases q
  · obtain rfl : g = B := Option.some.inj q
    unfold Blk at k
    rw [h3] at k
    injection k with k
    injection k with _ k _
    exact hT k

theorem row_range {w : World} {g o n : Nat} {xs : List Int} {T : TypeId} (h : Blk w g (rowB xs) T) (hn : o + n ≤ xs.length) : w.rangeAt g o (((xs.drop o).take n).map (.int .u8)) := fun j v hv => by
  have hj : j < n := by have := (List.getElem?_eq_some_iff.1 hv).1; simp at this; omega
  rw [h.cell (o + j), rowB_at _ _ (by omega), ← hv]
  simp only [List.getElem?_map]
  rw [List.getElem?_take, if_pos hj, List.getElem?_drop, List.getElem?_eq_getElem (by omega)]; rfl
/-- an array out of the middle of a row -/
theorem load_row {P : Program} {w : World} {g o n : Nat} {xs : List Int} {T ty : TypeId} {d : TypeDesc} (h : Blk w g (rowB xs) T) (hn : o + n ≤ xs.length) (hu : P.underlying ty = some d) (hd : d.isRow = true) (hi : (P.info? ty).map (·.size) = some n) :
    (Instr.loadAt ty (.pointer (some ⟨g, o, none⟩))).run P w = .ok (.agg (rowB ((xs.drop o).take n))) w :=
  run_loadAt_mid w g o ty _ d (row_range h hn) hu hd (by rw [hi]; simp; omega)
/-- .. into it -/
theorem store_row {P : Program} {w : World} {g o : Nat} {xs s : List Int} {T ty : TypeId} (h : Blk w g (rowB xs) T) (hn : o + s.length ≤ xs.length) (hi : (P.info? ty).map (·.size) = some s.length) :
    (Instr.storeAt ty (.pointer (some ⟨g, o, none⟩)) (.agg (rowB s))).run P w = .ok () (w.setRow g (rowB (lay xs o s))) := by
  have hst := run_storeCells_at P g o T (rowB s).toList 0 (rowB xs) w h (by rw [rowB_list, List.length_map, rowB_size]; omega) (fun v hv => by rw [rowB_list] at hv; obtain ⟨x, -, rfl⟩ := List.mem_map.1 hv; rfl)
  have he : ((rowB xs).toList.take (o + 0) ++ (rowB s).toList ++ (rowB xs).toList.drop (o + 0 + (rowB s).toList.length)).toArray = rowB (lay xs o s) := by
    simp only [rowB_list, Nat.add_zero, List.length_map]
    unfold rowB lay
    simp only [List.map_append, List.map_take, List.map_drop]
  rw [he] at hst
  simp only [Instr.storeAt, Instr.sureAddr, Sem.run_bind, Sem.run_pure, Result.andThen_ok]
  cases hq : P.info? ty with
  | none => simp [hq] at hi
  | some i =>
    have hs : (rowB s).size = i.size := by simp [hq] at hi; rw [rowB_size]; omega
    simp [storeVar, sizeOf, typeInfo, hq, Value.cells, hs, hst]
/-- a value of two fields: a number, an array -/
theorem fill_two (place : Nat → Option (Nat × Nat)) (z : Array Value) (x : Value) (C : Array Value) (h0 : place 0 = some (0, 1)) (h1 : place 1 = some (1, 128)) (hx : x.cells = #[x]) (hC : C.size = 128) (hz : z.size = 129) :
    Instr.fill place z [(0, x), (1, .agg C)] = some (#[x] ++ C) := by
  have e1 : Instr.fill place z [(0, x), (1, .agg C)] = Instr.fill place (z.setIfInBounds 0 x) [(1, .agg C)] := by
    conv => lhs; unfold Instr.fill
    rw [h0]
    simp [hx, hz]
  rw [e1]
  unfold Instr.fill
  rw [h1]
  have e2 : (Value.agg C).cells = C := rfl
  simp only [e2, hC, Array.size_setIfInBounds, hz]
  simp
  unfold Instr.fill
  congr 1
  obtain ⟨q1, q2⟩ := Great.foldl_set 1 C.toList 0 (z.setIfInBounds 0 x)
  have e3 : Array.foldl (fun cs (x : Value × Nat) => cs.setIfInBounds (1 + x.2) x.1) (z.setIfInBounds 0 x) C.zipIdx = (C.toList.zipIdx 0).foldl (fun cs (x : Value × Nat) => cs.setIfInBounds (1 + x.2) x.1) (z.setIfInBounds 0 x) := by
    rw [← Array.foldl_toList, Array.toList_zipIdx]
  apply Array.ext_getElem?
  intro k
  have q := q2 k
  rw [← e3] at q
  refine Eq.trans ?_ (q.trans ?_)
  · first | rfl | simp
  · simp only [Array.length_toList, hC, Array.size_setIfInBounds, hz, Nat.add_zero]
    by_cases hk : 1 ≤ k ∧ k < 1 + 128 ∧ k < 129
    · rw [if_pos hk, Array.getElem?_append_right (by simp; omega)]
      simp
    · rw [if_neg hk]
      by_cases h0 : k = 0
      · subst h0
        rw [Array.getElem?_append_left (by simp)]
        simp [hz]
      · rw [Array.getElem?_eq_none (by simp; omega), Array.getElem?_eq_none (by simp [hC]; omega)]
theorem wpList_storeB {P : Program} {ops : Array Oper} {rest : List Oper} {op : Oper} {a : Act} {w : World} {Q : Exit → Act → World → Prop} (hgd : op.guard = none) (ty : TypeId) (x y : Operand) (ho : op.op = .store ty x y)
    (g o : Nat) (xs s : List Int) (T : TypeId) (hx : a.eval x = .pointer (some ⟨g, o, none⟩)) (hy : a.eval y = .agg (rowB s)) (h : Blk w g (rowB xs) T) (hn : o + s.length ≤ xs.length) (hi : (P.info? ty).map (·.size) = some s.length)
    (hK : wpList P ops Q rest (a.put op.dst undef) (w.setRow g (rowB (lay xs o s)))) : wpList P ops Q (op :: rest) a w :=
  wpList_plain hgd fun K hK' => by
    have hst := store_row (P := P) (ty := ty) h hn hi
    unfold Oper.wp execOp
    simp only [ho, hx, hy, Sem.run_bind, hst, Result.andThen_ok]
    exact hK' _ _ hK
theorem range_own {α : Type} {E : Enc α} {w : World} {A : Addr} {c : Nat} {xs : List α} (h : E.Is w (.slice (some A) xs.length c) xs) {g : Nat} (hA : A = ⟨g, 0, none⟩) (k : Nat) (x : α) (hk : xs[k]? = some x) : w.rangeAt g (k * E.sz) (E.c x) := fun j v hv => by
  obtain ⟨_, _, e1, _, _, _, hat⟩ := h
  simp only [Value.slice.injEq] at e1
  obtain ⟨rfl, -, -⟩ := e1
  obtain ⟨ad, e, hc⟩ := hat k x hk
  injection e with e
  have := hc j v hv
  rw [← e, hA, addr_add0] at this
  exact this
/-- all that waits is kept -/
def flushI (img : List Int) (l : List (Nat × List Int)) : List Int := l.foldl (fun im p => lay im (128 * p.1) p.2) img
theorem flush_len {n : Nat} : ∀ (l : List (Nat × List Int)) (img : List Int), img.length = 128 * n → (∀ p ∈ l, p.1 < n ∧ p.2.length = 128 ∧ okB p.2) → (flushI img l).length = 128 * n
  | [], img, h, _ => h
  | p :: l, img, h, hl => by
    have hp := hl p (by simp)
    exact flush_len l _ (by rw [lay_len _ _ _ (by omega)]; exact h) (fun q hq => hl q (by simp [hq]))
theorem lay_ok {img s : List Int} (h : okB img) (k : okB s) (o : Nat) : okB (lay img o s) := ((h.take _).app k).app (h.drop _)
theorem flush_ok : ∀ (l : List (Nat × List Int)) (img : List Int), okB img → (∀ p ∈ l, okB p.2) → okB (flushI img l)
  | [], _, h, _ => h
  | p :: l, _, h, hl => flush_ok l _ (lay_ok h (hl p (by simp)) _) (fun q hq => hl q (by simp [hq]))
end Go.Ov
