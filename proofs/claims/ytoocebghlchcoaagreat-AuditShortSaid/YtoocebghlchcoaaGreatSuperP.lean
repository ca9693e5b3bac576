/- A row of bytes made of a constant string; regions walked state by state. No program in sight. -/
import Derived.Test.YtoocebghlchcoaaGreatByteP
import Derived.Test.YtoocebghlchcoaaGreatCanon
import Derived.Laws.Rows
namespace Go.Ov
open Go.RowKit

theorem way_start {P : Program} {ops : Array Oper} {Q : Exit → Act → World → Prop} {S : World → Prop} {y : Plan} {a : Act} {w : World} (h : ∀ W, W = wpWay P ops Q S → W y a w) : wpWay P ops Q S y a w := h _ rfl
theorem freeze_cell (w : World) (a ad : Addr) (n : Nat) : (w.freeze a n).cell? ad = w.cell? ad := by
  by_cases hn : n = 0
  · subst hn; rfl
  · have hh : (w.freeze a n).heap[ad.block]? = (if a.block = ad.block then (w.heap[ad.block]?).map (fun x => match x with
      | .cells c elem (lo, hi) => .cells c elem (if lo == hi then (a.off, a.off + n) else (min lo a.off, max hi (a.off + n)))
      | o => o) else w.heap[ad.block]?) := by
      unfold World.freeze
      rw [if_neg hn]
      simp only [Array.getElem?_modify]
      rfl
    unfold World.cell?
    rw [hh]
    by_cases e : a.block = ad.block
    · rw [if_pos e]
      cases w.heap[ad.block]? with
      | none => rfl
      | some o => cases o <;> rfl
    · rw [if_neg e]
theorem freeze_grown (w : World) (a : Addr) (n : Nat) : w.grownBy (w.freeze a n) (some a.block) := by
  unfold World.freeze
  split
  · exact World.grownBy.refl _ _
  · refine ⟨rfl, rfl, rfl, by simp, fun k _ hk => ?_⟩
    simp only [Array.getElem?_modify]
    rw [if_neg (fun e => hk (by rw [e]))]
theorem freeze_row {w : World} {N : Nat} {C : Array Value} {e : TypeId} {fr : Nat × Nat} (h : w.heap[N]? = some (.cells C e fr)) (k n : Nat) : ∃ fr', (w.freeze ⟨N, k, none⟩ n).heap[N]? = some (.cells C e fr') := by
  unfold World.freeze
  split
  · exact ⟨fr, h⟩
  · simp only [Array.getElem?_modify, if_true, h]
    exact ⟨_, rfl⟩
theorem run_markRow {P : Program} {w : World} {N : Nat} {C : Array Value} {e : TypeId} {fr : Nat × Nat} (t el : TypeId) (ht : P.underlying t = some (.slice el)) (he : P.underlying el = some (.int .u8)) (h : w.heap[N]? = some (.cells C e fr)) (n c : Nat) :
    (convert t t (.slice (some ⟨N, 0, none⟩) n c)).run P w = .ok (.slice (some ⟨N, 0, none⟩) n c) (w.freeze ⟨N, C.size, none⟩ 1) := by
  have hsh : w.shape? N = some (e, C.size) := by unfold World.shape?; rw [h]
  simp [convert, run_underlying ht, run_underlying he, markStringish, hsh]

/-- all blocks, or all but one -/
def mkN (a N : Nat) : Nat → Bool := fun b => decide (a = 0) || decide (b ≠ N)
def wordC : Array Value := #[.int .u8 111, .int .u8 118, .int .u8 101, .int .u8 114, .int .u8 100, .int .u8 117, .int .u8 98, .int .u8 49]
/-- what stands while a superblock's fields are made, in whatever order -/
structure SI (T : TypeId) (a b : Nat) (w0 w : World) (N : Nat) (v : Nat → Int) (x5 x6 : Value) (y : Nat → Value) : Prop where
  bl : Bl w0 w
  lit : 1 ≤ a → x5 = .slice (some ⟨N, 0, none⟩) 8 8 ∧ w0.heap.size ≤ N ∧ N < w.heap.size ∧ ∃ fr, w.heap[N]? = some (.cells wordC T fr)
  cv : 2 ≤ a → x6 = x5
  h : ∀ i, i < b → ∃ A c, y i = .slice A (putF (v i) 4).length c ∧ byteE.Is (only w (mkN a N)) (y i) (putF (v i) 4)
theorem SI.stepA0 {T : TypeId} {b : Nat} {w0 w : World} {N : Nat} {v : Nat → Int} {x5 x6 : Value} {y : Nat → Value} (h : SI T 0 b w0 w N v x5 x6 y) :
    SI T 1 b w0 (w.alloc (.cells wordC T)) w.heap.size v (.slice (some ⟨w.heap.size, 0, none⟩) 8 8) x6 y :=
  ⟨h.bl.alloc _, fun _ => ⟨rfl, h.bl.size, by simp, ⟨_, heap_alloc_new w _⟩⟩, fun q => by omega, fun i hi => by
    obtain ⟨A, c, e, hI⟩ := h.h i hi
    refine ⟨A, c, e, Sub.is (fun ad u q => ?_) hI⟩
    obtain ⟨_, h2⟩ := only_cell q
    have := World.block_lt_of_cell? w ad h2
    exact cell_only (by simp [mkN]; omega) (((Bl.refl w).alloc _).cell h2)⟩
theorem SI.stepA1 {T : TypeId} {b : Nat} {w0 w : World} {N : Nat} {v : Nat → Int} {x5 x6 : Value} {y : Nat → Value} (h : SI T 1 b w0 w N v x5 x6 y) :
    SI T 2 b w0 (w.freeze ⟨N, wordC.size, none⟩ 1) N v x5 x5 y := by
  obtain ⟨h1, h2, h3, fr, h4⟩ := h.lit (Nat.le_refl _)
  refine ⟨h.bl.grown (freeze_grown _ _ _) (fun k hk => by injection hk with hk; subst hk; exact h2), fun _ => ⟨h1, h2, Nat.lt_of_lt_of_le h3 (freeze_grown _ _ _).size, freeze_row h4 _ _⟩, fun _ => rfl, fun i hi => ?_⟩
  obtain ⟨A, c, e, hI⟩ := h.h i hi
  refine ⟨A, c, e, Sub.is (fun ad u q => ?_) hI⟩
  obtain ⟨q1, q2⟩ := only_cell q
  refine cell_only ?_ (by rw [freeze_cell]; exact q2)
  simp [mkN] at q1 ⊢
  exact q1
theorem SI.stepB {T : TypeId} {a b : Nat} {w0 w w' : World} {N : Nat} {v : Nat → Int} {x5 x6 u : Value} {y : Nat → Value} {Tb : TypeId} (h : SI T a b w0 w N v x5 x6 y) (hb : Bl w w') (ho : byteE.Own Tb w' w.heap.size u (putF (v b) 4)) :
    SI T a (b + 1) w0 w' N v x5 x6 (fun i => if i = b then u else y i) := by
  refine ⟨h.bl.bl hb, fun q => ?_, h.cv, fun i hi => ?_⟩
  · obtain ⟨h1, h2, h3, fr, h4⟩ := h.lit q
    exact ⟨h1, h2, Nat.lt_of_lt_of_le h3 hb.size, fr, (hb.block _ h3).trans h4⟩
  · by_cases e : i = b
    · subst e
      obtain ⟨A, c, e⟩ := ho.slice
      refine ⟨A, c, by rw [if_pos rfl]; exact e, ?_⟩
      rw [if_pos rfl]
      exact ho.isM fun k hk => by
        by_cases q : a = 0
        · simp [mkN, q]
        · have := (h.lit (by omega)).2.2.1
          simp [mkN]; omega
    · rw [if_neg e]
      obtain ⟨A, c, e, hI⟩ := h.h i (by omega)
      exact ⟨A, c, e, (Sub.bl (hb.only _)).is hI⟩
theorem results_cell3 {P : Program} {fn : Func} {p q r : Tmp} {ty : TypeId} (h : fn.results = #[.cell p ty, .tmp q, .tmp r]) (tmps : Array Value) {w : World} {g : Nat} {t : TypeId} {cs : Array Value} {d : TypeDesc}
    (hp : tmps.getD p undef = .pointer (some ⟨g, 0, none⟩)) (hg : Blk w g cs t)
    (hu : P.underlying ty = some d) (hd : (match d with | .struct _ | .array _ _ => true | _ => false) = true) (hi : (P.info? ty).map (·.size) = some cs.size) :
    (results fn tmps).run P w = .ok (.tuple #[.agg cs, tmps.getD q undef, tmps.getD r undef]) w := by
  have hp' : tmps[p]?.getD undef = .pointer (some ⟨g, 0, none⟩) := by simpa using hp
  simp [results, h, hp', asAddr, run_loadVar_row w g t ty cs (0, 0) d hg hu hd hi]
theorem results_cell4 {P : Program} {fn : Func} {p q r s : Tmp} {ty : TypeId} (h : fn.results = #[.cell p ty, .tmp q, .tmp r, .tmp s]) (tmps : Array Value) {w : World} {g : Nat} {t : TypeId} {cs : Array Value} {d : TypeDesc}
    (hp : tmps.getD p undef = .pointer (some ⟨g, 0, none⟩)) (hg : Blk w g cs t)
    (hu : P.underlying ty = some d) (hd : (match d with | .struct _ | .array _ _ => true | _ => false) = true) (hi : (P.info? ty).map (·.size) = some cs.size) :
    (results fn tmps).run P w = .ok (.tuple #[.agg cs, tmps.getD q undef, tmps.getD r undef, tmps.getD s undef]) w := by
  have hp' : tmps[p]?.getD undef = .pointer (some ⟨g, 0, none⟩) := by simpa using hp
  simp [results, h, hp', asAddr, run_loadVar_row w g t ty cs (0, 0) d hg hu hd hi]
theorem yields_build {P : Program} {ops : Array Oper} {S : World → Prop} {op : Oper} {a : Act} (hw : Region.wanted op (yielded ops a.tmps) = true) (t : TypeId) (parts : Array (Nat × Operand)) (ho : op.op = .build t parts)
    (cells : Array Value) (hf : P.built t (parts.map fun (i, x) => (i, a.eval x)).toList = some cells) : YieldsIf P ops S op (.agg cells) a :=
  .inl ⟨hw, fun w _ => by
    unfold execOp
    simp only [ho, Sem.run_bind, run_build w t _ cells hf, Result.andThen_ok]
    rfl⟩
end Go.Ov
