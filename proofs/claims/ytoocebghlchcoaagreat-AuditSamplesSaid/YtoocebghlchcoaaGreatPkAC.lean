/- Several texts joined (see each one's head). -/
import Derived.Test.YtoocebghlchcoaaGreatPkAB
import Derived.Deep.AppendLies
import Derived.Test.YtoocebghlchcoaaGreatPkAA
/- Rows whose elements lead on: what stays true while a row grows in its place. No program in sight. -/
namespace Go.Ov
open Go.RowKit

/-- true, whatever is written into one block, and whatever is made -/
def Stab (w : World) (row : Option Nat) (P : World → Prop) : Prop := ∀ w', w.grownBy w' row → P w'
theorem Stab.here {w : World} {row : Option Nat} {P : World → Prop} (h : Stab w row P) : P w := h w (World.grownBy.refl w row)
theorem Stab.bl {w w1 : World} {row : Option Nat} {P : World → Prop} (h : Stab w row P) (hb : Bl w w1) : Stab w1 row P := fun w' hg =>
  h w' ⟨hg.os.trans hb.os, hg.tape.trans hb.tape, hg.output.trans hb.output, Nat.le_trans hb.size hg.size, fun k hk hr => (hg.block k (Nat.lt_of_lt_of_le hk hb.size) hr).trans (hb.block k hk)⟩
/-- the row is another one: the same block, or a new one -/
def Lies (w : World) (row row' : Option Nat) : Prop := row' = row ∨ ∃ g, row' = some g ∧ w.heap.size ≤ g
theorem Stab.grow {w w1 : World} {row row' : Option Nat} {P : World → Prop} (h : Stab w row P) (hg : w.grownBy w1 row) (hl : Lies w row row') : Stab w1 row' P := fun w' hg' =>
  h w' ⟨hg'.os.trans hg.os, hg'.tape.trans hg.tape, hg'.output.trans hg.output, Nat.le_trans hg.size hg'.size, fun k hk hr => by
    rw [hg'.block k (Nat.lt_of_lt_of_le hk hg.size) ?_, hg.block k hk hr]
    rcases hl with rfl | ⟨g, rfl, h1⟩
    · exact hr
    · intro e; injection e with e; omega⟩
theorem Stab.old {W w : World} {row : Option Nat} {P : World → Prop} (hP : ∀ {a b : World}, P a → Bl a b → P b) (h : P W) (hb : Bl W w) (hr : ∀ g, row = some g → W.heap.size ≤ g) : Stab w row P := fun w' hg =>
  hP h (Bl.grown hb hg hr)
theorem Stab.own {α : Type} {E : Enc α} {e : TypeId} {w : World} {base : Nat} {v : Value} {xs : List α} {row : Option Nat} (h : E.Own e w base v xs) (hr : ∀ g, row = some g → g < base) : Stab w row (fun w' => E.Own e w' base v xs) := fun _ hg =>
  h.grown hg (by
    cases hv : v.ownBlock with
    | none => exact .inl rfl
    | some k => refine .inr fun hk => ?_
                have := (h.lt k hv).1
                have := hr k hk.symm
                omega)
theorem Stab.mono {w : World} {row : Option Nat} {P Q : World → Prop} (h : Stab w row P) (hi : ∀ w', P w' → Q w') : Stab w row Q := fun w' hg => hi _ (h w' hg)
theorem Stab.and {w : World} {row : Option Nat} {P Q : World → Prop} (h : Stab w row P) (hi : Stab w row Q) : Stab w row (fun w' => P w' ∧ Q w') := fun w' hg => ⟨h w' hg, hi w' hg⟩
theorem Stab.drewN {w : World} {row : Option Nat} {P : World → Prop} (h : Stab w row P) (n : Nat) : Stab (w.drewN n) row P := h.bl ((Bl.refl w).drewN n)

theorem Stab.set {w : World} {g : Nat} {P : World → Prop} (h : Stab w (some g) P) (j : Nat) (u : Value) : Stab (w.setCell ⟨g, j, none⟩ u) (some g) P :=
  h.grow ⟨rfl, rfl, rfl, by simp [World.setCell], fun k _ hk => setCell_else _ _ _ _ _ (fun e => hk (by rw [e]))⟩ (.inl rfl)
/-- owned, two blocks aside -/
theorem Stab.own2 {α : Type} {E : Enc α} {e : TypeId} {w : World} {base : Nat} {v : Value} {xs : List α} {row : Option Nat} {B : Nat} (h : E.Own e w base v xs) (hr : ∀ g, row = some g → g < base) (hB : B < base) :
    Stab w row (fun w' => Stab w' (some B) fun w'' => E.Own e w'' base v xs) := (Stab.own h hr).mono fun w' h => Stab.own h (fun g hg => by injection hg with hg; omega)

section
variable {α : Type} {E : Enc α}
theorem Enc.Own.wpAppendL {P : Program} {w : World} {o : Oper} {a : Act} {K : Act → World → Prop} {Q : Exit → Act → World → Prop} (s x : Operand) (t : TypeId)
    (ho : o.op = .call { callee := .builtin .append, args := #[s, x], argTypes := #[t, t] })
    (base : Nat) (e : TypeId) (z : Value) (size bytes : Nat) (ht : P.underlying t = some (.slice e)) (hinfo : (P.info? e).map (fun i => (i.zero, i.size, i.bytes)) = some (some z, size, bytes))
    (hE : E.sz = size) (hzs : z.cells.size = size) (hsz : 0 < size) (hby : 0 < bytes)
    (v : Value) (xs : List α) (hs : a.eval s = v) (hown : E.Own e w base v xs)
    (u : Value) (ys : List α) (hx : a.eval x = u) (his : E.Is w u ys) (hne : ys ≠ [])
    (hlen : (xs.length + ys.length) * bytes ≤ 140737488355328) (hbase : base ≤ w.heap.size)
    (h : ∀ v' w', E.Own e w' base v' (xs ++ ys) → w.grownBy w' v.ownBlock → Lies w v.ownBlock v'.ownBlock → K (a.put o.dst v') w') : o.wp P a w K Q := by
  obtain ⟨i, hi, hz, hs1, hb1⟩ := info_parts hinfo
  obtain ⟨A, c, rfl, hc, _, hAn, hA⟩ := his
  have hmax : xs.length + ys.length ≤ maxLen := by
    have : (xs.length + ys.length) * 1 ≤ (xs.length + ys.length) * bytes := Nat.mul_le_mul_left _ hby
    unfold maxLen; omega
  obtain ⟨y, hy0⟩ : ∃ y, ys[0]? = some y := by cases ys with | nil => exact absurd rfl hne | cons y _ => exact ⟨y, rfl⟩
  obtain ⟨ad, rfl, _⟩ := hA 0 y hy0
  have hnews : ∀ j q, (ys.flatMap E.c)[j]? = some q → w.cell? (ad.add j) = some q := by
    intro j q hq
    have hj : j < ys.length * E.sz := by have := (List.getElem?_eq_some_iff.1 hq).1; rwa [flat_len] at this
    have hi' : j / E.sz < ys.length := by rw [Nat.div_lt_iff_lt_mul (by omega)]; exact hj
    obtain ⟨ad', e', hc'⟩ := hA (j / E.sz) ys[j / E.sz] (List.getElem?_eq_getElem hi')
    obtain rfl : ad = ad' := by injection e'
    have hm : j % E.sz < (E.c ys[j / E.sz]).length := by rw [E.len]; exact Nat.mod_lt _ (by omega)
    have hj2 : j = j / E.sz * E.sz + j % E.sz := by rw [Nat.mul_comm]; exact (Nat.div_add_mod j E.sz).symm
    have h1 := flat_get E ys (j / E.sz) _ (List.getElem?_eq_getElem hi') (j % E.sz) _ (List.getElem?_eq_getElem hm)
    rw [← hj2] at h1
    rw [h1] at hq
    have h2 := hc' (j % E.sz) _ (List.getElem?_eq_getElem hm)
    rw [← hj2] at h2
    rw [h2]; exact hq
  refine wp_append_lies w s x t ho base e i z size bytes ht hi hz hs1 hb1 hzs hsz v xs.length _ hs (by rw [← hE]; exact hown) ad ys.length c (ys.flatMap E.c) hx (by rw [flat_len, hE]) hnews (flat_one E ys) (List.length_pos_iff.2 hne) hmax hlen hbase w.heap.size rfl ?_
  intro g cap w' h1 h2 h3 h4
  refine h _ w' ?_ h2 ?_
  · unfold Enc.Own
    rw [List.flatMap_append, List.length_append, hE]; exact h1
  · rcases h3 with h3 | h3
    · left; rw [h3]; rfl
    · right; exact ⟨g, rfl, by omega⟩
/-- append of one element that stands in a block of its own; where the row lies then -/
theorem Enc.Own.append1L {P : Program} {w : World} {ops : Array Oper} {rest : List Oper} {o : Oper} {a : Act} {Q : Exit → Act → World → Prop} (hgd : o.guard = none) (s x : Operand) (t : TypeId)
    (ho : o.op = .call { callee := .builtin .append, args := #[s, x], argTypes := #[t, t] })
    (base : Nat) (e : TypeId) (z : Value) (size bytes : Nat) (ht : P.underlying t = some (.slice e)) (hinfo : (P.info? e).map (fun i => (i.zero, i.size, i.bytes)) = some (some z, size, bytes))
    (hE : E.sz = size) (hzs : z.cells.size = size) (hsz : 0 < size) (hby : 0 < bytes)
    (v : Value) (xs : List α) (hs : a.eval s = v) (hown : E.Own e w base v xs)
    (y : α) (cs : Array Value) (hcs : cs.toList = E.c y) {N : Nat} (hN : N = w.heap.size) (hx : a.eval x = .slice (some ⟨N, 0, none⟩) 1 1)
    (hlen : (xs.length + 1) * bytes ≤ 140737488355328) (hbase : base ≤ w.heap.size)
    (h : ∀ v' w', E.Own e w' base v' (xs ++ [y]) → (w.alloc (.cells cs e)).grownBy w' v.ownBlock → Lies (w.alloc (.cells cs e)) v.ownBlock v'.ownBlock → wpList P ops Q rest (a.put o.dst v') w') : wpList P ops Q (o :: rest) a (w.alloc (.cells cs e)) :=
  wpList_plain hgd fun _ hK => Enc.Own.wpAppendL s x t ho base e z size bytes ht hinfo hE hzs hsz hby v xs hs (hown.bl ((Bl.refl _).alloc _)) _ [y] hx
    (Enc.Own.lit (E := E) w 0 [y] cs (by simpa using hcs) 1 rfl (Nat.zero_le _) (by decide) hN).is (by simp) hlen (Nat.le_trans hbase ((Bl.refl w).alloc _).size) fun v' w' h1 h2 h3 => hK _ _ (h v' w' h1 h2 h3)
end
end Go.Ov

/- States as data; how they lie in memory. No program in sight. -/
namespace Go.Ov
open Go.RowKit

/-- how a track lies: its name, its tree's block -/
structure TH where
  id : Int
  b : Nat
def TH.v (h : TH) : Value := .agg #[.int .i64 h.id, .pointer (some ⟨h.b, 0, none⟩)]
def trackE : Enc TH := ⟨2, fun h => [.int .i64 h.id, .pointer (some ⟨h.b, 0, none⟩)], fun _ => rfl, fun x u h => by simp at h; rcases h with rfl | rfl <;> rfl⟩
instance : Inhabited TH := ⟨⟨0, 0⟩⟩
abbrev TrackM := Int × TreeM
abbrev StM := List TrackM
def TrackR (w : World) (t : TrackM) (h : TH) : Prop := h.id = t.1 ∧ TreeIs w (.pointer (some ⟨h.b, 0, none⟩)) t.2
def TRows (w : World) (hs : List TH) (s : StM) : Prop := hs.length = s.length ∧ ∀ (i : Nat) (x : TrackM) (h : TH), s[i]? = some x → hs[i]? = some h → TrackR w x h
theorem TrackR.bl {w w' : World} {t : TrackM} {h : TH} (hr : TrackR w t h) (hb : Bl w w') : TrackR w' t h := ⟨hr.1, hr.2.bl hb⟩
theorem TRows.bl {w w' : World} {hs : List TH} {s : StM} (h : TRows w hs s) (hb : Bl w w') : TRows w' hs s := ⟨h.1, fun i x y hx hy => (h.2 i x y hx hy).bl hb⟩
theorem TRows.nil (w : World) : TRows w [] [] := ⟨rfl, fun i x h hx => by simp at hx⟩
theorem TRows.at {w : World} {hs : List TH} {s : StM} (hr : TRows w hs s) (k : Nat) (h : k < s.length) : ∃ h' : k < hs.length, TrackR w s[k] hs[k] :=
  ⟨by rw [hr.1]; exact h, hr.2 k _ _ (List.getElem?_eq_getElem h) (List.getElem?_eq_getElem _)⟩
theorem TRows.cons {w : World} {hs : List TH} {s : StM} {h : TH} {t : TrackM} (h0 : TrackR w t h) (hr : TRows w hs s) : TRows w (h :: hs) (t :: s) := by
  refine ⟨by simp [hr.1], fun i x y hx hy => ?_⟩
  cases i with
  | zero => simp at hx hy; subst hx; subst hy; exact h0
  | succ i => simp at hx hy; exact hr.2 i x y hx hy
theorem TRows.uncons {w : World} {hs : List TH} {s : StM} {t : TrackM} (hr : TRows w hs (t :: s)) : ∃ h hs', hs = h :: hs' ∧ TrackR w t h ∧ TRows w hs' s := by
  cases hs with
  | nil => have := hr.1; simp at this
  | cons h hs =>
    refine ⟨h, hs, rfl, hr.2 0 t h rfl rfl, by have := hr.1; simpa using this, fun i x y hx hy => hr.2 (i + 1) x y (by simpa using hx) (by simpa using hy)⟩
theorem TRows.ids {w : World} : ∀ {s : StM} {hs : List TH}, TRows w hs s → hs.map TH.id = s.map (·.1)
  | [], hs, hr => by
    have : hs = [] := List.eq_nil_of_length_eq_zero hr.1
    subst this; rfl
  | t :: s, hs, hr => by
    obtain ⟨h, hs', rfl, h0, h1⟩ := hr.uncons
    rw [List.map_cons, List.map_cons, TRows.ids h1, h0.1]
theorem TRows.filter {w : World} (p : Int → Bool) : ∀ {s : StM} {hs : List TH}, TRows w hs s → TRows w (hs.filter fun h => p h.id) (s.filter fun t => p t.1)
  | [], hs, hr => by
    have : hs = [] := List.eq_nil_of_length_eq_zero hr.1
    subst this; exact TRows.nil w
  | t :: s, hs, hr => by
    obtain ⟨h, hs', rfl, h0, h1⟩ := hr.uncons
    have ih := TRows.filter p h1
    have e : h.id = t.1 := h0.1
    cases hp : p t.1 with
    | true => rw [List.filter_cons_of_pos (by simpa [e] using hp), List.filter_cons_of_pos (by simpa using hp)]; exact TRows.cons h0 ih
    | false => rw [List.filter_cons_of_neg (by simpa [e] using hp), List.filter_cons_of_neg (by simpa using hp)]; exact ih
theorem TRows.take {w : World} {hs : List TH} {s : StM} (hr : TRows w hs s) (k : Nat) : TRows w (hs.take k) (s.take k) := by
  refine ⟨by simp [hr.1], fun i x y hx hy => ?_⟩
  rw [List.getElem?_take] at hx hy
  split at hx
  · rename_i hi
    rw [if_pos hi] at hy
    exact hr.2 i x y hx hy
  · cases hx
theorem TRows.drop {w : World} {hs : List TH} {s : StM} (hr : TRows w hs s) (k : Nat) : TRows w (hs.drop k) (s.drop k) :=
  ⟨by simp [hr.1], fun i x y hx hy => hr.2 (k + i) x y (by rw [List.getElem?_drop] at hx; exact hx) (by rw [List.getElem?_drop] at hy; exact hy)⟩
theorem TRows.append {w : World} : ∀ {s : StM} {hs : List TH} {s2 : StM} {hs2 : List TH}, TRows w hs s → TRows w hs2 s2 → TRows w (hs ++ hs2) (s ++ s2)
  | [], hs, s2, hs2, hr, h2 => by
    have : hs = [] := List.eq_nil_of_length_eq_zero hr.1
    subst this; exact h2
  | t :: s, hs, s2, hs2, hr, h2 => by
    obtain ⟨h, hs', rfl, h0, h1⟩ := hr.uncons
    exact TRows.cons h0 (TRows.append h1 h2)

theorem track_at {w : World} {A : Option Addr} {xs : List TH} (h : trackE.At w A xs) (k : Nat) (hk : k < xs.length) :
    ∃ ad, A = some ad ∧ w.cell? (ad.add (k * 2)) = some (.int .i64 xs[k].id) ∧ w.cell? ⟨(ad.add (k * 2)).block, (ad.add (k * 2)).off + 1, none⟩ = some (.pointer (some ⟨xs[k].b, 0, none⟩)) := by
  obtain ⟨ad, e, hc⟩ := h k _ (List.getElem?_eq_getElem hk)
  refine ⟨ad, e, ?_, ?_⟩
  · exact hc 0 _ rfl
  · rw [← add_at _ _ 1 (by decide)]; exact hc 1 _ rfl

/-- a state: a block with one cell, the row of tracks -/
def StateIs (w : World) (v : Value) (s : StM) : Prop := ∃ (b : Nat) (u : Head) (hs : List TH), v = .pointer (some ⟨b, 0, none⟩) ∧ w.cell? ⟨b, 0, none⟩ = some u.v ∧ trackE.Is w u.v hs ∧ TRows w hs s
theorem StateIs.bl {w w' : World} {v : Value} {s : StM} (h : StateIs w v s) (hb : Bl w w') : StateIs w' v s := by
  obtain ⟨b, u, hs, e, h0, h1, h2⟩ := h
  exact ⟨b, u, hs, e, hb.cell h0, h1.bl hb, h2.bl hb⟩

/-- the place of a track, from number k on (-1: there is none) -/
def idxFrom (id : Int) : Nat → List Int → Int
  | _, [] => -1
  | k, x :: l => if x = id then k else idxFrom id (k + 1) l
def findS (s : StM) (id : Int) : Int := idxFrom id 0 (s.map (·.1))
def withoutS (s : StM) (id : Int) : StM := s.filter fun t => t.1 != id
def below (id : Int) : StM → Nat
  | [] => 0
  | t :: s => if t.1 < id then below id s + 1 else 0
def insertS (s : StM) (id : Int) (t : TreeM) : StM := s.take (below id s) ++ (id, t) :: s.drop (below id s)
def putL (s : StM) (id : Int) (t : TreeM) : StM := insertS (withoutS s id) id t
end Go.Ov

/- Worlds of which only some blocks are seen: what lies in these blocks alone. No program in sight. -/
namespace Go.Ov
open Go.RowKit

/-- a world of which only some blocks are seen -/
def only (w : World) (G : Nat → Bool) : World := { w with heap := w.heap.mapIdx fun i o => if G i then o else .cells #[] 0 (0, 0) }
theorem only_size (w : World) (G : Nat → Bool) : (only w G).heap.size = w.heap.size := by simp [only]
theorem only_get (w : World) (G : Nat → Bool) (b : Nat) (h : G b = true) : (only w G).heap[b]? = w.heap[b]? := by
  simp only [only, Array.getElem?_mapIdx, h, if_true]
  cases w.heap[b]? <;> rfl
theorem only_cell {w : World} {G : Nat → Bool} {a : Addr} {v : Value} (h : (only w G).cell? a = some v) : G a.block = true ∧ w.cell? a = some v := by
  cases hg : G a.block with
  | true =>
    refine ⟨rfl, ?_⟩
    unfold World.cell? at h ⊢
    rwa [only_get w G a.block hg] at h
  | false =>
    unfold World.cell? at h
    have : (only w G).heap[a.block]? = (w.heap[a.block]?).map fun _ => .cells #[] 0 (0, 0) := by
      simp only [only, Array.getElem?_mapIdx, hg]
      cases w.heap[a.block]? <;> rfl
    rw [this] at h
    cases hh : w.heap[a.block]? with
    | none => rw [hh] at h; cases h
    | some o =>
      rw [hh] at h
      simp at h
theorem cell_only {w : World} {G : Nat → Bool} {a : Addr} {v : Value} (hg : G a.block = true) (h : w.cell? a = some v) : (only w G).cell? a = some v := by
  unfold World.cell? at h ⊢
  rwa [only_get w G a.block hg]
/-- every cell of the one is there in the other -/
def Sub (a b : World) : Prop := ∀ ad v, a.cell? ad = some v → b.cell? ad = some v
theorem Sub.refl (a : World) : Sub a a := fun _ _ h => h
theorem Sub.trans {a b c : World} (h : Sub a b) (k : Sub b c) : Sub a c := fun _ _ q => k _ _ (h _ _ q)
theorem Sub.bl {a b : World} (h : Bl a b) : Sub a b := fun _ _ q => h.cell q
theorem Sub.un (w : World) (G : Nat → Bool) : Sub (only w G) w := fun _ _ h => (only_cell h).2
theorem Sub.mono {w : World} {G G' : Nat → Bool} (h : ∀ b, G b = true → G' b = true) : Sub (only w G) (only w G') := fun _ _ q => cell_only (h _ (only_cell q).1) (only_cell q).2
theorem Bl.only {a b : World} (h : Bl a b) (G : Nat → Bool) : Bl (only a G) (only b G) := ⟨h.os, h.tape, h.output, by rw [only_size, only_size]; exact h.size, fun k hk => by
  rw [only_size] at hk
  have := h.block k hk
  simp only [Go.Ov.only, Array.getElem?_mapIdx, this]⟩
theorem Sub.grown {a b : World} {row : Option Nat} (h : a.grownBy b row) {G : Nat → Bool} (hg : ∀ k, row = some k → G k = false) : Sub (only a G) (only b G) := fun ad v q => by
  obtain ⟨h1, h2⟩ := only_cell q
  refine cell_only h1 ?_
  have hlt := World.block_lt_of_cell? a ad h2
  unfold World.cell? at h2 ⊢
  rw [h.block ad.block hlt (fun e => by rw [hg _ e.symm] at h1; cases h1)]; exact h2
theorem Sub.at {a b : World} (h : Sub a b) {α : Type} {E : Enc α} {A : Option Addr} {xs : List α} (hA : E.At a A xs) : E.At b A xs := fun i x hx => by
  obtain ⟨ad, e, hc⟩ := hA i x hx
  exact ⟨ad, e, fun j u hu => h _ _ (hc j u hu)⟩
theorem Sub.is {a b : World} (h : Sub a b) {α : Type} {E : Enc α} {v : Value} {xs : List α} (hA : E.Is a v xs) : E.Is b v xs := by
  obtain ⟨A, c, e, hl, hm, hn, hA⟩ := hA
  exact ⟨A, c, e, hl, hm, hn, h.at hA⟩
theorem Sub.node {a b : World} (h : Sub a b) {n : NodeM} {p : NH} (hr : NodeR a n p) : NodeR b n p := by
  induction hr with
  | mk l f q x y z hs h1 h2 h3 h4 _ ih => exact .mk l f q x y z hs (h.is h1) (h.is h2) (h.is h3) h4 ih
theorem Sub.nodes {a b : World} (h : Sub a b) {hs : List NH} {ns : List NodeM} (hr : NRows a hs ns) : NRows b hs ns := ⟨hr.1, fun i x y hx hy => h.node (hr.2 i x y hx hy)⟩
theorem Sub.tree {a b : World} (h : Sub a b) {v : Value} {t : TreeM} (ht : TreeIs a v t) : TreeIs b v t := by
  obtain ⟨b', u, n, e, h0, h1, h2, h3, h4, h5⟩ := ht
  exact ⟨b', u, n, e, h _ _ h0, h _ _ h1, h _ _ h2, h _ _ h3, h.is h4, h.node h5⟩
theorem Sub.trows {a b : World} (h : Sub a b) {hs : List TH} {s : StM} (hr : TRows a hs s) : TRows b hs s := ⟨hr.1, fun i x y hx hy => ⟨(hr.2 i x y hx hy).1, h.tree (hr.2 i x y hx hy).2⟩⟩
theorem Sub.state {a b : World} (h : Sub a b) {v : Value} {s : StM} (hs : StateIs a v s) : StateIs b v s := by
  obtain ⟨b', u, hs, e, h0, h1, h2⟩ := hs
  exact ⟨b', u, hs, e, h _ _ h0, h.is h1, h.trows h2⟩
/-- new blocks -/
def fr (w : World) : Nat → Bool := fun b => decide (w.heap.size ≤ b)
/-- these, and new ones -/
def gor (G : Nat → Bool) (w : World) : Nat → Bool := fun b => G b || decide (w.heap.size ≤ b)
theorem fr_le {w w' : World} (h : w.heap.size ≤ w'.heap.size) (b : Nat) (hb : fr w' b = true) : fr w b = true := by simp [fr] at *; omega
theorem fr_gor (G : Nat → Bool) (w : World) (b : Nat) (h : fr w b = true) : gor G w b = true := by simp [fr, gor] at *; exact .inr h
theorem gor_l (G : Nat → Bool) (w : World) (b : Nat) (h : G b = true) : gor G w b = true := by simp [gor, h]
theorem gor_le {G : Nat → Bool} {w w' : World} (h : w.heap.size ≤ w'.heap.size) (b : Nat) (hb : gor G w' b = true) : gor G w b = true := by
  simp [gor] at *
  rcases hb with hb | hb
  · exact .inl hb
  · exact .inr (by omega)
theorem gor_gor {G : Nat → Bool} {w w' : World} (h : w.heap.size ≤ w'.heap.size) (b : Nat) (hb : gor (gor G w) w' b = true) : gor G w b = true := by
  simp [gor] at *
  rcases hb with (hb | hb) | hb
  · exact .inl hb
  · exact .inr hb
  · exact .inr (by omega)
theorem fr_ge {w : World} {k base : Nat} (h : w.heap.size ≤ base) (hk : base ≤ k) : fr w k = true := by simp [fr]; omega
theorem Enc.Own.isM {α : Type} {E : Enc α} {e : TypeId} {w : World} {base : Nat} {v : Value} {xs : List α} (h : E.Own e w base v xs) {G : Nat → Bool} (hG : ∀ k, base ≤ k → G k = true) : E.Is (only w G) v xs := by
  have hl := h.lt
  obtain ⟨A, c, rfl, h1, h2, h3, h4⟩ := h.is
  refine ⟨A, c, rfl, h1, h2, h3, fun i x hx => ?_⟩
  obtain ⟨ad, rfl, hc⟩ := h4 i x hx
  refine ⟨ad, rfl, fun j u hu => cell_only ?_ (hc j u hu)⟩
  have hb : ∀ k, (ad.add k).block = ad.block := fun k => by unfold Addr.add; split <;> rfl
  rw [hb]
  exact hG _ (hl ad.block (by simp [Value.ownBlock])).1
theorem Blk.only {w : World} {b : Nat} {cs : Array Value} {T : TypeId} (h : Blk w b cs T) {G : Nat → Bool} (hG : G b = true) : Blk (only w G) b cs T := by
  unfold Blk at *; rw [only_get w G b hG]; exact h
end Go.Ov
