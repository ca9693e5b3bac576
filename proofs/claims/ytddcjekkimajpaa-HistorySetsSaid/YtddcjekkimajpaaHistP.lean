/- Histories as data; how they lie in memory; a store into a history's own block leaves states as they are. No program in sight. -/
import Derived.Test.YtddcjekkimajpaaFlagB
namespace Go.Ov
open Go.RowKit

/-- a pointer to a block's start -/
def ptrE : Enc Nat := ⟨1, fun b => [.pointer (some ⟨b, 0, none⟩)], fun _ => rfl, fun x u h => by simp at h; subst h; rfl⟩
structure HistM where
  now : StM
  undo : List StM
  redo : List StM
/-- a row of pointers to states -/
def SRows (w : World) (bs : List Nat) (ss : List StM) : Prop := bs.length = ss.length ∧ ∀ (i : Nat) (s : StM) (b : Nat), ss[i]? = some s → bs[i]? = some b → StateIs w (.pointer (some ⟨b, 0, none⟩)) s
def isI : Value → Bool
  | .int _ _ => true
  | _ => false
/-- the cells of a history -/
def histC (n : Nat) (u r : Head) : Array Value := #[.pointer (some ⟨n, 0, none⟩), u.v, r.v]
/-- every cell outside a block stays -/
def KeepO (B : Nat) (w w' : World) : Prop := ∀ a v, a.block ≠ B → w.cell? a = some v → w'.cell? a = some v
theorem keepO_set (w : World) (B j : Nat) (u : Value) : KeepO B w (w.setCell ⟨B, j, none⟩ u) := by
  intro a v hv ha
  rw [World.cell?_setCell_other (h := fun h => hv (by rw [← h]))]; exact ha
theorem KeepO.bl {B : Nat} {w w1 w2 : World} (h : KeepO B w w1) (hb : Bl w1 w2) : KeepO B w w2 := fun a v hv ha => hb.cell (h a v hv ha)
theorem KeepO.trans {B : Nat} {w w1 w2 : World} (h : KeepO B w w1) (h2 : KeepO B w1 w2) : KeepO B w w2 := fun a v hv ha => h2 a v hv (h a v hv ha)
theorem hist_cell {w : World} {B n : Nat} {u r : Head} {T : TypeId} (h : Blk w B (histC n u r) T) {a : Addr} {v : Value} (ha : w.cell? a = some v) (e : a.block = B) :
    (a.off = 0 ∧ v = .pointer (some ⟨n, 0, none⟩)) ∨ (a.off = 1 ∧ v = u.v) ∨ (a.off = 2 ∧ v = r.v) := by
  unfold World.cell? at ha
  rw [e] at ha
  unfold Blk at h
  rw [h] at ha
  dsimp only at ha
  split at ha
  · cases ha
  · rcases (show a.off = 0 ∨ a.off = 1 ∨ a.off = 2 ∨ 3 ≤ a.off by omega) with e | e | e | e
    · rw [e] at ha; exact .inl ⟨e, (Option.some.inj ha).symm⟩
    · rw [e] at ha; exact .inr (.inl ⟨e, (Option.some.inj ha).symm⟩)
    · rw [e] at ha; exact .inr (.inr ⟨e, (Option.some.inj ha).symm⟩)
    · rw [Array.getElem?_eq_none (by simp [histC]; omega)] at ha; cases ha
theorem add_block (a : Addr) (k : Nat) : (a.add k).block = a.block := by unfold Addr.add; split <;> rfl
theorem int_ne {w : World} {B n : Nat} {u r : Head} {T : TypeId} (h : Blk w B (histC n u r) T) {a : Addr} {k : IntKind} {x : Int} (ha : w.cell? a = some (.int k x)) : a.block ≠ B := fun e => by
  rcases hist_cell h ha e with ⟨_, q⟩ | ⟨_, q⟩ | ⟨_, q⟩ <;> cases q
theorem atI_kh {w w' : World} {B n : Nat} {u r : Head} {T : TypeId} (h : Blk w B (histC n u r) T) (hk : KeepO B w w') {α : Type} {E : Enc α} {A : Option Addr} {xs : List α} (hE : ∀ x, ∃ k y, (E.c x)[0]? = some (.int k y)) (hA : E.At w A xs) : E.At w' A xs := fun i x hx => by
  obtain ⟨ad, e, hc⟩ := hA i x hx
  obtain ⟨k, y, h0⟩ := hE x
  have hne := int_ne h (hc 0 _ h0)
  rw [add_block] at hne
  exact ⟨ad, e, fun j v hv => hk _ _ (by rw [add_block]; exact hne) (hc j v hv)⟩
theorem isI_kh {w w' : World} {B n : Nat} {u r : Head} {T : TypeId} (h : Blk w B (histC n u r) T) (hk : KeepO B w w') {α : Type} {E : Enc α} {v : Value} {xs : List α} (hE : ∀ x, ∃ k y, (E.c x)[0]? = some (.int k y)) (hA : E.Is w v xs) : E.Is w' v xs := by
  obtain ⟨A, c, e, hl, hm, hn, hA⟩ := hA
  exact ⟨A, c, e, hl, hm, hn, atI_kh h hk hE hA⟩
theorem node_kh {w w' : World} {B n : Nat} {u r : Head} {T : TypeId} (h : Blk w B (histC n u r) T) (hk : KeepO B w w') {v : Value} {xs : List NH} (hA : nodeE.Is w v xs) : nodeE.Is w' v xs := by
  obtain ⟨A, c, e, hl, hm, hn, hA⟩ := hA
  refine ⟨A, c, e, hl, hm, hn, fun i x hx => ?_⟩
  obtain ⟨ad, e, hc⟩ := hA i x hx
  have h0 := hc 0 _ rfl
  have h2 := hc 2 _ rfl
  have hne : ad.block ≠ B := fun e => by
    have a0 := hist_cell h h0 (by rw [add_block]; exact e)
    have a2 := hist_cell h h2 (by rw [add_block]; exact e)
    have o0 : (ad.add (i * nodeE.sz + 0)).off = ad.off + (i * nodeE.sz + 0) := by unfold Addr.add; split <;> simp_all
    have o2 : (ad.add (i * nodeE.sz + 2)).off = ad.off + (i * nodeE.sz + 2) := by unfold Addr.add; split <;> simp_all
    rw [o0] at a0
    rw [o2] at a2
    have hz : ad.off + (i * nodeE.sz + 0) = 0 := by omega
    rcases a0 with ⟨_, q⟩ | ⟨q, _⟩ | ⟨q, _⟩
    · unfold Head.v at q; cases q
    · omega
    · omega
  exact ⟨ad, e, fun j v hv => hk _ _ (by rw [add_block]; exact hne) (hc j v hv)⟩
theorem nodeR_kh {w w' : World} {B n : Nat} {u r : Head} {T : TypeId} (h : Blk w B (histC n u r) T) (hk : KeepO B w w') {m : NodeM} {p : NH} (hr : NodeR w m p) : NodeR w' m p := by
  induction hr with
  | mk l f p a b c hs h1 h2 h3 h4 _ ih => exact .mk l f p a b c hs (isI_kh h hk (fun x => ⟨_, _, rfl⟩) h1) (isI_kh h hk (fun x => ⟨_, _, rfl⟩) h2) (node_kh h hk h3) h4 ih
theorem slice0_ne {w : World} {B n : Nat} {u r : Head} {T : TypeId} (h : Blk w B (histC n u r) T) {b : Nat} {q : Head} (ha : w.cell? ⟨b, 0, none⟩ = some q.v) : b ≠ B := fun e => by
  rcases hist_cell h ha e with ⟨_, q⟩ | ⟨q, _⟩ | ⟨q, _⟩
  · unfold Head.v at q; cases q
  · cases q
  · cases q
theorem tree_kh {w w' : World} {B n : Nat} {u r : Head} {T : TypeId} (h : Blk w B (histC n u r) T) (hk : KeepO B w w') {v : Value} {t : TreeM} (ht : TreeIs w v t) : TreeIs w' v t := by
  obtain ⟨b, u, n, e, h0, h1, h2, h3, h4, h5⟩ := ht
  have hne := slice0_ne h h0
  exact ⟨b, u, n, e, hk _ _ hne h0, hk _ _ hne h1, hk _ _ hne h2, hk _ _ hne h3, isI_kh h hk (fun x => ⟨_, _, rfl⟩) h4, nodeR_kh h hk h5⟩
theorem state_kh {w w' : World} {B n : Nat} {u r : Head} {T : TypeId} (h : Blk w B (histC n u r) T) (hk : KeepO B w w') {v : Value} {s : StM} (hs : StateIs w v s) : StateIs w' v s := by
  obtain ⟨b, u, hs, e, h0, h1, h2⟩ := hs
  have hne := slice0_ne h h0
  exact ⟨b, u, hs, e, hk _ _ hne h0, isI_kh h hk (fun x => ⟨_, _, rfl⟩) h1, h2.1, fun i x y hx hy => ⟨(h2.2 i x y hx hy).1, tree_kh h hk (h2.2 i x y hx hy).2⟩⟩
theorem srows_kh {w w' : World} {B n : Nat} {u r : Head} {T : TypeId} (h : Blk w B (histC n u r) T) (hk : KeepO B w w') {bs : List Nat} {ss : List StM} (hs : SRows w bs ss) : SRows w' bs ss := ⟨hs.1, fun i s b hx hy => state_kh h hk (hs.2 i s b hx hy)⟩
theorem SRows.bl {w w' : World} {bs : List Nat} {ss : List StM} (h : SRows w bs ss) (hb : Bl w w') : SRows w' bs ss := ⟨h.1, fun i s b hx hy => (h.2 i s b hx hy).bl hb⟩
theorem SRows.nil (w : World) : SRows w [] [] := ⟨rfl, fun i s b hx => by simp at hx⟩
theorem SRows.take {w : World} {bs : List Nat} {ss : List StM} (h : SRows w bs ss) (k : Nat) : SRows w (bs.take k) (ss.take k) := by
  refine ⟨by simp [h.1], fun i x y hx hy => ?_⟩
  rw [List.getElem?_take] at hx hy
  split at hx
  · rename_i hi
    rw [if_pos hi] at hy
    exact h.2 i x y hx hy
  · cases hx
theorem SRows.drop {w : World} {bs : List Nat} {ss : List StM} (h : SRows w bs ss) (k : Nat) : SRows w (bs.drop k) (ss.drop k) :=
  ⟨by simp [h.1], fun i x y hx hy => h.2 (k + i) x y (by rw [List.getElem?_drop] at hx; exact hx) (by rw [List.getElem?_drop] at hy; exact hy)⟩
theorem SRows.snoc {w : World} {bs : List Nat} {ss : List StM} {b : Nat} {s : StM} (h : SRows w bs ss) (hs : StateIs w (.pointer (some ⟨b, 0, none⟩)) s) : SRows w (bs ++ [b]) (ss ++ [s]) := by
  refine ⟨by simp [h.1], fun i x y hx hy => ?_⟩
  have hl := h.1
  by_cases hi : i < ss.length
  · rw [List.getElem?_append_left hi] at hx
    rw [List.getElem?_append_left (by omega)] at hy
    exact h.2 i x y hx hy
  · rw [List.getElem?_append_right (by omega)] at hx hy
    have : i - ss.length = 0 := by
      have := (List.getElem?_eq_some_iff.1 hx).1
      simp at this; omega
    rw [this] at hx
    rw [show i - bs.length = 0 by omega] at hy
    simp at hx hy; subst hx; subst hy; exact hs
/-- what the package does -/
def pushL (l : List StM) (s : StM) : List StM := (l ++ [s]).drop (l.length + 1 - 4)
def lastOf (l : List StM) : StM := l.getLastD []
def undoH (h : HistM) : HistM × Int := if h.undo = [] then (h, 5) else (⟨lastOf h.undo, h.undo.dropLast, pushL h.redo h.now⟩, 0)
def redoH (h : HistM) : HistM × Int := if h.redo = [] then (h, 5) else (⟨lastOf h.redo, pushL h.undo h.now, h.redo.dropLast⟩, 0)
end Go.Ov
