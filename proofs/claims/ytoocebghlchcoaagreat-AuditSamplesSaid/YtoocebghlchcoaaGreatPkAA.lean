/- Several texts joined (see each one's head). -/
import Derived.WalkKit
import Derived.WalkSpells
import Derived.WalkLawsBesides
import Derived.BigQuiet
import Derived.Deep.QuietTactic
import Derived.Deep.DeepCutAuto
import Derived.Deep.LoopGhost
import Derived.Lib.Hide
import Derived.OwnWalk
import Derived.Laws.OwnMore
import Derived.Lib.MinMax
/- Slices as lists: what a slice reads as, what a call owns, append; small words for walks. No program in sight. -/
namespace Go.Ov
open Go.RowKit

theorem ret_int {k : IntKind} {a b : Int} (h : a = b) : Ending.returned (.int k a) = .returned (.int k b) := by rw [h]
theorem ret_bool {a b : Bool} (h : a = b) : Ending.returned (.bool a) = .returned (.bool b) := by rw [h]

theorem wrap_id {a : Int} (h1 : -9223372036854775808 ≤ a) (h2 : a ≤ 9223372036854775807) : wrap64 a = a := by unfold wrap64; omega
theorem wrap_wrap_add (a b : Int) : wrap64 (wrap64 a + b) = wrap64 (a + b) := by unfold wrap64; omega

/-- any number as one from 0 to n - 1 -/
def within (v n : Int) : Int := if n < 1 then 0 else v % n

theorem tmod_lt0 (v n : Int) (hn : 1 ≤ n) (h : Int.tmod v n < 0) : Int.tmod v n + n = v % n := by
  rw [Int.tmod_eq_emod] at h ⊢
  have := Int.emod_nonneg v (show n ≠ 0 by omega)
  split at h <;> split <;> simp_all <;> omega
theorem tmod_ge0 (v n : Int) (hn : 1 ≤ n) (h : 0 ≤ Int.tmod v n) : Int.tmod v n = v % n := by
  rw [Int.tmod_eq_emod] at h ⊢
  have := Int.emod_lt_of_pos v (show 0 < n by omega)
  split at h <;> split <;> simp_all <;> omega
theorem within_bd (v n : Int) (hn : 1 ≤ n) : 0 ≤ within v n ∧ within v n < n := by
  unfold within; rw [if_neg (by omega)]; exact ⟨Int.emod_nonneg _ (by omega), Int.emod_lt_of_pos _ (by omega)⟩

/-- the sum of a list's beginning -/
def psum {α : Type} (f : α → Int) (l : List α) (k : Nat) : Int := ((l.take k).map f).sum
theorem psum_zero {α : Type} (f : α → Int) (l : List α) : psum f l 0 = 0 := rfl
theorem psum_succ {α : Type} (f : α → Int) (l : List α) (k : Nat) (h : k < l.length) : psum f l (k + 1) = psum f l k + f l[k] := by
  unfold psum; rw [List.take_succ_eq_append_getElem h, List.map_append, List.sum_append]; simp
theorem psum_all {α : Type} (f : α → Int) (l : List α) (k : Nat) (h : l.length ≤ k) : psum f l k = (l.map f).sum := by
  unfold psum; rw [List.take_of_length_le h]

/-- a list's beginning, mapped -/
def pmap {α β : Type} (f : α → β) (l : List α) (k : Nat) : List β := (l.take k).map f
theorem pmap_zero {α β : Type} (f : α → β) (l : List α) : pmap f l 0 = [] := rfl
theorem pmap_succ {α β : Type} (f : α → β) (l : List α) (k : Nat) (h : k < l.length) : pmap f l (k + 1) = pmap f l k ++ [f l[k]] := by
  unfold pmap; rw [List.take_succ_eq_append_getElem h, List.map_append]; rfl
theorem pmap_all {α β : Type} (f : α → β) (l : List α) (k : Nat) (h : l.length ≤ k) : pmap f l k = l.map f := by
  unfold pmap; rw [List.take_of_length_le h]
theorem pmap_len {α β : Type} (f : α → β) (l : List α) (k : Nat) (h : k ≤ l.length) : (pmap f l k).length = k := by
  unfold pmap; rw [List.length_map, List.length_take]; omega

/-- nothing that was there has turned -/
abbrev Bl (w w' : World) : Prop := Below w.heap.size w w'
theorem Bl.trans {a b c : World} (h : Bl a b) (k : Bl b c) : Bl a c := Below.trans h (Below.mono k h.size)
theorem Bl.alloc {a b : World} (h : Bl a b) (o : Obj) : Bl a (b.alloc o) := Below.alloc h h.size o
theorem Bl.drewN {a b : World} (h : Bl a b) (n : Nat) : Bl a (b.drewN n) := ⟨h.os, h.tape, h.output, h.size, h.block⟩
theorem Bl.drew {a b : World} (h : Bl a b) : Bl a b.drew := Below.drew h
theorem Bl.bl {a b c : World} (h : Bl a b) (k : Bl b c) : Bl a c := Bl.trans h k
theorem Bl.refl (a : World) : Bl a a := Below.refl _ _
theorem Bl.cell {w w1 : World} (h : Bl w w1) {a : Addr} {v : Value} (hc : w.cell? a = some v) : w1.cell? a = some v := (Below.cell h (World.block_lt_of_cell? w a hc)).trans hc
theorem Bl.grown {a b c : World} {row : Option Nat} (h : Bl a b) (hg : b.grownBy c row) (hr : ∀ k, row = some k → a.heap.size ≤ k) : Bl a c := Below.grown h hg h.size hr

/-- how a datum lies in cells -/
structure Enc (α : Type) where
  sz : Nat
  c : α → List Value
  len : ∀ x, (c x).length = sz
  one : ∀ x u, u ∈ c x → u.oneCell' = true

def intE : Enc Int := ⟨1, fun x => [.int .i64 x], fun _ => rfl, fun x u h => by simp at h; subst h; rfl⟩
/-- a slice's head -/
structure Head where
  A : Option Addr
  n : Nat
  cap : Nat
def Head.v (h : Head) : Value := .slice h.A h.n h.cap
def headE : Enc Head := ⟨1, fun h => [h.v], fun _ => rfl, fun x u h => by simp at h; subst h; rfl⟩

section
variable {α : Type} (E : Enc α)

def Enc.At (w : World) (A : Option Addr) (xs : List α) : Prop :=
  ∀ i x, xs[i]? = some x → ∃ ad, A = some ad ∧ ∀ j u, (E.c x)[j]? = some u → w.cell? (ad.add (i * E.sz + j)) = some u
def Enc.Is (w : World) (v : Value) (xs : List α) : Prop := ∃ A c, v = .slice A xs.length c ∧ xs.length ≤ c ∧ c ≤ maxLen ∧ (A = none → c = 0) ∧ E.At w A xs
def Enc.Own (e : TypeId) (w : World) (base : Nat) (v : Value) (xs : List α) : Prop := w.ownsRow base e E.sz v xs.length (xs.flatMap E.c)

variable {E}
theorem Enc.At.nil (w : World) (A : Option Addr) : E.At w A [] := fun i x h => by simp at h
theorem Enc.Is.nil (w : World) : E.Is w (.slice none 0 0) [] := ⟨none, 0, rfl, Nat.le_refl _, Nat.zero_le _, fun _ => rfl, Enc.At.nil w _⟩
theorem Enc.At.bl {w w' : World} {A : Option Addr} {xs : List α} (h : E.At w A xs) (hb : Bl w w') : E.At w' A xs := fun i x hx => by
  obtain ⟨ad, e, hc⟩ := h i x hx
  exact ⟨ad, e, fun j u hu => hb.cell (hc j u hu)⟩
theorem Enc.Is.bl {w w' : World} {v : Value} {xs : List α} (h : E.Is w v xs) (hb : Bl w w') : E.Is w' v xs := by
  obtain ⟨A, c, e, hl, hm, hn, hA⟩ := h
  exact ⟨A, c, e, hl, hm, hn, hA.bl hb⟩
theorem flat_get (E : Enc α) (xs : List α) (i : Nat) (x : α) (hx : xs[i]? = some x) (j : Nat) (u : Value) (hu : (E.c x)[j]? = some u) : (xs.flatMap E.c)[i * E.sz + j]? = some u := by
  induction xs generalizing i with
  | nil => simp at hx
  | cons y ys ih =>
    rw [List.flatMap_cons]
    cases i with
    | zero =>
      simp at hx; subst hx
      have hj : j < (E.c y).length := (List.getElem?_eq_some_iff.1 hu).1
      rw [Nat.zero_mul, Nat.zero_add, List.getElem?_append_left hj]; exact hu
    | succ i =>
      simp at hx
      rw [List.getElem?_append_right (by rw [E.len, Nat.succ_mul]; omega), E.len, show (i + 1) * E.sz + j - E.sz = i * E.sz + j by rw [Nat.succ_mul]; omega]
      exact ih i hx
theorem flat_len (E : Enc α) (xs : List α) : (xs.flatMap E.c).length = xs.length * E.sz := by
  induction xs with
  | nil => simp
  | cons y ys ih => rw [List.flatMap_cons, List.length_append, ih, E.len, List.length_cons, Nat.succ_mul, Nat.add_comm]
theorem flat_one (E : Enc α) (xs : List α) : ∀ u ∈ xs.flatMap E.c, u.oneCell' = true := by
  intro u hu
  obtain ⟨x, _, hx⟩ := List.mem_flatMap.1 hu
  exact E.one x u hx
theorem Enc.Own.nil (e : TypeId) (w : World) (base : Nat) : E.Own e w base (.slice none 0 0) [] := ⟨by simp, .inl ⟨rfl, rfl⟩⟩
theorem Enc.Own.lt {e : TypeId} {w : World} {base : Nat} {v : Value} {xs : List α} (h : E.Own e w base v xs) (k : Nat) (hk : v.ownBlock = some k) : base ≤ k ∧ k < w.heap.size := World.ownsRow.lt h k hk
theorem Enc.Own.is {e : TypeId} {w : World} {base : Nat} {v : Value} {xs : List α} (h : E.Own e w base v xs) : E.Is w v xs := by
  have hc := fun g (hg : v.ownBlock = some g) => World.ownsRow.cells h hg
  rcases h.2 with ⟨rfl, hn⟩ | ⟨g, cap, cur, rfl, _, _, hl, hm, _, _⟩
  · have : xs = [] := List.eq_nil_of_length_eq_zero hn
    subst this; exact Enc.Is.nil w
  · exact ⟨_, cap, rfl, hl, hm, (fun h => by cases h), fun i x hx => ⟨_, rfl, fun j u hu => hc g rfl _ u (flat_get E xs i x hx j u hu)⟩⟩
theorem Enc.Own.bl {e : TypeId} {w w' : World} {base : Nat} {v : Value} {xs : List α} (h : E.Own e w base v xs) (hb : Bl w w') : E.Own e w' base v xs :=
  World.ownsRow.kept (row := none) h ⟨hb.os, hb.tape, hb.output, hb.size, fun k hk _ => hb.block k hk⟩ (by cases v.ownBlock <;> simp)
theorem Enc.Own.grown {e : TypeId} {w w' : World} {base : Nat} {v : Value} {xs : List α} {row : Option Nat} (h : E.Own e w base v xs) (hg : w.grownBy w' row) (hne : v.ownBlock = none ∨ v.ownBlock ≠ row) : E.Own e w' base v xs := World.ownsRow.kept h hg hne
theorem Enc.Own.slice {e : TypeId} {w : World} {base : Nat} {v : Value} {xs : List α} (h : E.Own e w base v xs) : ∃ A c, v = .slice A xs.length c := by
  obtain ⟨A, c, e, _⟩ := h.is; exact ⟨A, c, e⟩
theorem Enc.Own.low {e : TypeId} {w : World} {base base' : Nat} {v : Value} {xs : List α} (h : E.Own e w base v xs) (hb : base' ≤ base) : E.Own e w base' v xs := by
  refine ⟨h.1, ?_⟩
  rcases h.2 with h | ⟨g, cap, cur, h1, h2, h3⟩
  · exact .inl h
  · exact .inr ⟨g, cap, cur, h1, Nat.le_trans hb h2, h3⟩

/-- a new block, written out: a slice of all of it -/
theorem Enc.Own.lit {e : TypeId} (w : World) (base : Nat) (xs : List α) (cs : Array Value) (hcs : cs.toList = xs.flatMap E.c) (n : Nat) (hn : n = xs.length) (hb : base ≤ w.heap.size) (hm : n ≤ maxLen) {N : Nat} (hN : N = w.heap.size) :
    E.Own e (w.alloc (.cells cs e)) base (.slice (some ⟨N, 0, none⟩) n n) xs := by
  subst hn
  subst hN
  refine ⟨flat_len E xs, .inr ⟨w.heap.size, xs.length, cs, rfl, hb, heap_alloc_new w _, Nat.le_refl _, hm, ?_, ?_⟩⟩
  · rw [← Array.length_toList, hcs, flat_len]
  · rw [hcs, List.take_of_length_le (by rw [flat_len]; exact Nat.le_refl _)]

theorem Enc.Own.wpAppend {P : Program} {w : World} {o : Oper} {a : Act} {K : Act → World → Prop} {Q : Exit → Act → World → Prop} (s x : Operand) (t : TypeId)
    (ho : o.op = .call { callee := .builtin .append, args := #[s, x], argTypes := #[t, t] })
    (base : Nat) (e : TypeId) (z : Value) (size bytes : Nat) (ht : P.underlying t = some (.slice e)) (hinfo : (P.info? e).map (fun i => (i.zero, i.size, i.bytes)) = some (some z, size, bytes))
    (hE : E.sz = size) (hzs : z.cells.size = size) (hsz : 0 < size) (hby : 0 < bytes)
    (v : Value) (xs : List α) (hs : a.eval s = v) (hown : E.Own e w base v xs)
    (u : Value) (ys : List α) (hx : a.eval x = u) (his : E.Is w u ys)
    (hlen : (xs.length + ys.length) * bytes ≤ 140737488355328) (hbase : base ≤ w.heap.size)
    (h : ∀ v' w', E.Own e w' base v' (xs ++ ys) → w.grownBy w' v.ownBlock → K (a.put o.dst v') w') : o.wp P a w K Q := by
  obtain ⟨i, hi, hz, hs1, hb1⟩ := info_parts hinfo
  obtain ⟨A, c, rfl, hc, _, hAn, hA⟩ := his
  have hmax : xs.length + ys.length ≤ maxLen := by
    have : (xs.length + ys.length) * 1 ≤ (xs.length + ys.length) * bytes := Nat.mul_le_mul_left _ hby
    unfold maxLen; omega
  by_cases hy : ys = []
  · subst hy
    have hrun : ∃ v' w', (Builtin.append_ #[t, t] o.type #[v, .slice A 0 c]).run P w = .ok v' w' ∧ E.Own e w' base v' xs ∧ w.grownBy w' v.ownBlock := by
      cases A with
      | none =>
        exact ⟨v, w, (by rw [hAn rfl]; exact run_append_owned_none (P := P) w base t o.type e i E.sz ht hi _ _ _ hown), hown, World.grownBy.refl w _⟩
      | some ad =>
        obtain ⟨v', w', r1, r2, r3, _⟩ := run_append_own (P := P) w base t o.type e i z size bytes ht hi hz hs1 hb1 hzs hsz v xs.length _ (by rw [← hE]; exact hown) ad 0 c [] (by simp) (by simp) (by simp) hmax hlen hbase
        exact ⟨v', w', r1, by rw [← hE] at r2; simpa [Enc.Own] using r2, r3⟩
    obtain ⟨v', w', hr, h2, h3⟩ := hrun
    unfold Oper.wp execOp
    simp only [ho, resolve, invoke, builtin, Sem.run_bind, Sem.run_pure, Result.andThen_ok, List.map_toArray, List.map_cons, List.map_nil, hs, hx, List.length_nil, hr]
    exact h v' w' (by simpa using h2) h3
  · obtain ⟨y, hy0⟩ : ∃ y, ys[0]? = some y := by cases ys with | nil => exact absurd rfl hy | cons y _ => exact ⟨y, rfl⟩
    obtain ⟨ad, rfl, _⟩ := hA 0 y hy0
    have hnews : ∀ j q, (ys.flatMap E.c)[j]? = some q → w.cell? (ad.add j) = some q := by
      intro j q hq
      have hj : j < ys.length * E.sz := by have := (List.getElem?_eq_some_iff.1 hq).1; rwa [flat_len] at this
      have hi' : j / E.sz < ys.length := by rw [Nat.div_lt_iff_lt_mul (by omega)]; exact hj
      obtain ⟨ad', e', hc'⟩ := hA (j / E.sz) ys[j / E.sz] (List.getElem?_eq_getElem hi')
      obtain rfl : ad = ad' := by injection e'
      have hm : j % E.sz < (E.c ys[j / E.sz]).length := by rw [E.len]; exact Nat.mod_lt _ (by omega)
      have hj2 : j = j / E.sz * E.sz + j % E.sz := by rw [Nat.mul_comm]; exact (Nat.div_add_mod j E.sz).symm
      have h1 := flat_get E ys (j / E.sz) _ (List.getElem?_eq_getElem hi') (j % E.sz) _ (List.getElem?_eq_getElem hm)
      rw [← hj2] at h1
      rw [h1] at hq
      have h2 := hc' (j % E.sz) _ (List.getElem?_eq_getElem hm)
      rw [← hj2] at h2
      rw [h2]; exact hq
    refine wp_append_own w s x t ho base e i z size bytes ht hi hz hs1 hb1 hzs hsz v xs.length _ hs (by rw [← hE]; exact hown) ad ys.length c (ys.flatMap E.c) hx (by rw [flat_len, hE]) hnews (flat_one E ys) hmax hlen hbase ?_
    intro v' w' h1 h2 _
    refine h v' w' ?_ h2
    unfold Enc.Own
    rw [List.flatMap_append, List.length_append, hE]; exact h1
theorem Enc.Own.append {P : Program} {w : World} {ops : Array Oper} {rest : List Oper} {o : Oper} {a : Act} {Q : Exit → Act → World → Prop} (hgd : o.guard = none) (s x : Operand) (t : TypeId)
    (ho : o.op = .call { callee := .builtin .append, args := #[s, x], argTypes := #[t, t] })
    (base : Nat) (e : TypeId) (z : Value) (size bytes : Nat) (ht : P.underlying t = some (.slice e)) (hinfo : (P.info? e).map (fun i => (i.zero, i.size, i.bytes)) = some (some z, size, bytes))
    (hE : E.sz = size) (hzs : z.cells.size = size) (hsz : 0 < size) (hby : 0 < bytes)
    (v : Value) (xs : List α) (hs : a.eval s = v) (hown : E.Own e w base v xs)
    (u : Value) (ys : List α) (hx : a.eval x = u) (his : E.Is w u ys)
    (hlen : (xs.length + ys.length) * bytes ≤ 140737488355328) (hbase : base ≤ w.heap.size)
    (h : ∀ v' w', E.Own e w' base v' (xs ++ ys) → w.grownBy w' v.ownBlock → wpList P ops Q rest (a.put o.dst v') w') : wpList P ops Q (o :: rest) a w :=
  wpList_plain hgd fun _ hK => Enc.Own.wpAppend s x t ho base e z size bytes ht hinfo hE hzs hsz hby v xs hs hown u ys hx his hlen hbase fun v' w' h1 h2 => hK _ _ (h v' w' h1 h2)

/-- at a step of a region that draws its order: append -/
theorem Enc.Own.stepAppend {P : Program} {w : World} {ops : Array Oper} {o : Oper} {a : Act} {K : Act → World → Prop} {Q : Exit → Act → World → Prop} {F : Prop} (hgd : o.guard = none) (s x : Operand) (t : TypeId)
    (ho : o.op = .call { callee := .builtin .append, args := #[s, x], argTypes := #[t, t] })
    (base : Nat) (e : TypeId) (z : Value) (size bytes : Nat) (ht : P.underlying t = some (.slice e)) (hinfo : (P.info? e).map (fun i => (i.zero, i.size, i.bytes)) = some (some z, size, bytes))
    (hE : E.sz = size) (hzs : z.cells.size = size) (hsz : 0 < size) (hby : 0 < bytes)
    (v : Value) (xs : List α) (hs : a.eval s = v) (hown : E.Own e w base v xs)
    (u : Value) (ys : List α) (hx : a.eval x = u) (his : E.Is w u ys)
    (hlen : (xs.length + ys.length) * bytes ≤ 140737488355328) (hbase : base ≤ w.heap.size)
    (h : ∀ v' w', E.Own e w' base v' (xs ++ ys) → w.grownBy w' v.ownBlock → K (a.put o.dst v') w') :
    if Region.wanted o (yielded ops a.tmps) = true then Oper.wp P o a w K Q else F := by
  have hw : Region.wanted o (yielded ops a.tmps) = true := by simp [Region.wanted, hgd]
  rw [if_pos hw]
  exact Enc.Own.wpAppend s x t ho base e z size bytes ht hinfo hE hzs hsz hby v xs hs hown u ys hx his hlen hbase h

/-- at a step of a region that draws its order: append of one element that stands in a block of its own -/
theorem Enc.Own.stepAppend1 {P : Program} {w : World} {ops : Array Oper} {o : Oper} {a : Act} {K : Act → World → Prop} {Q : Exit → Act → World → Prop} {F : Prop} (hgd : o.guard = none) (s x : Operand) (t : TypeId)
    (ho : o.op = .call { callee := .builtin .append, args := #[s, x], argTypes := #[t, t] })
    (base : Nat) (e : TypeId) (z : Value) (size bytes : Nat) (ht : P.underlying t = some (.slice e)) (hinfo : (P.info? e).map (fun i => (i.zero, i.size, i.bytes)) = some (some z, size, bytes))
    (hE : E.sz = size) (hzs : z.cells.size = size) (hsz : 0 < size) (hby : 0 < bytes)
    (v : Value) (xs : List α) (hs : a.eval s = v) (hown : E.Own e w base v xs)
    (y : α) (cs : Array Value) (hcs : cs.toList = E.c y) {N : Nat} (hN : N = w.heap.size) (hx : a.eval x = .slice (some ⟨N, 0, none⟩) 1 1)
    (hlen : (xs.length + 1) * bytes ≤ 140737488355328) (hbase : base ≤ w.heap.size)
    (h : ∀ v' w', E.Own e w' base v' (xs ++ [y]) → ((w.alloc (.cells cs e)).drew).grownBy w' v.ownBlock → K (a.put o.dst v') w') :
    if Region.wanted o (yielded ops a.tmps) = true then Oper.wp P o a ((w.alloc (.cells cs e)).drew) K Q else F := by
  have hw : Region.wanted o (yielded ops a.tmps) = true := by simp [Region.wanted, hgd]
  rw [if_pos hw]
  exact Enc.Own.wpAppend s x t ho base e z size bytes ht hinfo hE hzs hsz hby v xs hs (hown.bl ((Bl.refl _).alloc _).drew) _ [y] hx
    ((Enc.Own.lit (E := E) w 0 [y] cs (by simpa using hcs) 1 rfl (Nat.zero_le _) (by decide) hN).is.bl (Bl.refl _).drew) hlen (Nat.le_trans hbase ((Bl.refl w).alloc _).size) h

/-- append of one element that stands in a block of its own -/
theorem Enc.Own.append1 {P : Program} {w : World} {ops : Array Oper} {rest : List Oper} {o : Oper} {a : Act} {Q : Exit → Act → World → Prop} (hgd : o.guard = none) (s x : Operand) (t : TypeId)
    (ho : o.op = .call { callee := .builtin .append, args := #[s, x], argTypes := #[t, t] })
    (base : Nat) (e : TypeId) (z : Value) (size bytes : Nat) (ht : P.underlying t = some (.slice e)) (hinfo : (P.info? e).map (fun i => (i.zero, i.size, i.bytes)) = some (some z, size, bytes))
    (hE : E.sz = size) (hzs : z.cells.size = size) (hsz : 0 < size) (hby : 0 < bytes)
    (v : Value) (xs : List α) (hs : a.eval s = v) (hown : E.Own e w base v xs)
    (y : α) (cs : Array Value) (hcs : cs.toList = E.c y) {N : Nat} (hN : N = w.heap.size) (hx : a.eval x = .slice (some ⟨N, 0, none⟩) 1 1)
    (hlen : (xs.length + 1) * bytes ≤ 140737488355328) (hbase : base ≤ w.heap.size)
    (h : ∀ v' w', E.Own e w' base v' (xs ++ [y]) → (w.alloc (.cells cs e)).grownBy w' v.ownBlock → wpList P ops Q rest (a.put o.dst v') w') : wpList P ops Q (o :: rest) a (w.alloc (.cells cs e)) :=
  Enc.Own.append hgd s x t ho base e z size bytes ht hinfo hE hzs hsz hby v xs hs (hown.bl ((Bl.refl _).alloc _)) _ [y] hx
    (Enc.Own.lit (E := E) w 0 [y] cs (by simpa using hcs) 1 rfl (Nat.zero_le _) (by decide) hN).is hlen (Nat.le_trans hbase ((Bl.refl w).alloc _).size) h
/-- append of one element that stands in a block of its own, draws behind -/
theorem Enc.Own.append1d {P : Program} {w : World} {ops : Array Oper} {rest : List Oper} {o : Oper} {a : Act} {Q : Exit → Act → World → Prop} (hgd : o.guard = none) (s x : Operand) (t : TypeId)
    (ho : o.op = .call { callee := .builtin .append, args := #[s, x], argTypes := #[t, t] })
    (base : Nat) (e : TypeId) (z : Value) (size bytes : Nat) (ht : P.underlying t = some (.slice e)) (hinfo : (P.info? e).map (fun i => (i.zero, i.size, i.bytes)) = some (some z, size, bytes))
    (hE : E.sz = size) (hzs : z.cells.size = size) (hsz : 0 < size) (hby : 0 < bytes)
    (v : Value) (xs : List α) (hs : a.eval s = v) (hown : E.Own e w base v xs)
    (y : α) (cs : Array Value) (hcs : cs.toList = E.c y) {N : Nat} (hN : N = w.heap.size) (hx : a.eval x = .slice (some ⟨N, 0, none⟩) 1 1)
    (hlen : (xs.length + 1) * bytes ≤ 140737488355328) (hbase : base ≤ w.heap.size)
    (m : Nat) (h : ∀ v' w', E.Own e w' base v' (xs ++ [y]) → ((w.alloc (.cells cs e)).drewN m).grownBy w' v.ownBlock → wpList P ops Q rest (a.put o.dst v') w') : wpList P ops Q (o :: rest) a ((w.alloc (.cells cs e)).drewN m) :=
  Enc.Own.append hgd s x t ho base e z size bytes ht hinfo hE hzs hsz hby v xs hs (hown.bl (((Bl.refl _).alloc _).drewN _)) _ [y] hx
    ((Enc.Own.lit (E := E) w 0 [y] cs (by simpa using hcs) 1 rfl (Nat.zero_le _) (by decide) hN).is.bl ((Bl.refl _).drewN m)) hlen (Nat.le_trans hbase ((Bl.refl w).alloc _).size) h
end

theorem Enc.At.lit {α : Type} {E : Enc α} {e : TypeId} (w : World) (xs : List α) (cs : Array Value) (hcs : cs.toList = xs.flatMap E.c) {N : Nat} (hN : N = w.heap.size) : E.At (w.alloc (.cells cs e)) (some ⟨N, 0, none⟩) xs := fun i x hx => by
  subst hN
  refine ⟨_, rfl, fun j u hu => ?_⟩
  have h := flat_get E xs i x hx j u hu
  have hadd : (⟨w.heap.size, 0, none⟩ : Addr).add (i * E.sz + j) = ⟨w.heap.size, i * E.sz + j, none⟩ := by unfold Addr.add; split <;> simp_all
  rw [hadd, cell_of_row (w.alloc (.cells cs e)) w.heap.size _ cs e (0, 0) (heap_alloc_new w _), ← Array.getElem?_toList, hcs]
  exact h
section
variable {α : Type} {E : Enc α} {P : Program}
theorem Enc.Is.sub {w : World} {A : Option Addr} {c : Nat} {xs : List α} (h : E.Is w (.slice A xs.length c) xs) (lo hi : Nat) (h1 : lo ≤ hi) (h2 : hi ≤ xs.length) :
    E.Is w (sliced A lo hi c E.sz) ((xs.take hi).drop lo) := by
  obtain ⟨A', c', e, g1, g2, g3, g4⟩ := h
  simp at e
  obtain ⟨rfl, rfl⟩ := e
  have hl : ((xs.take hi).drop lo).length = hi - lo := by rw [List.length_drop, List.length_take]; omega
  unfold sliced
  by_cases hc : c = lo
  · have hz : hi - lo = 0 := by omega
    rw [hz] at hl
    have hnil : (xs.take hi).drop lo = [] := List.eq_nil_of_length_eq_zero hl
    rw [hnil, hz, if_pos hc]
    exact ⟨A, _, rfl, by simp, by omega, fun h => by have := g3 h; omega, Enc.At.nil _ _⟩
  · rw [if_neg hc]
    refine ⟨_, _, by rw [hl], by rw [hl]; omega, by omega, fun h => ?_, fun i x hx => ?_⟩
    · cases A with
      | none => have := g3 rfl; omega
      | some a => simp at h
    · rw [List.getElem?_drop, List.getElem?_take] at hx
      split at hx
      · obtain ⟨ad, rfl, hq⟩ := g4 (lo + i) x hx
        refine ⟨ad.add (lo * E.sz), rfl, fun j u hu => ?_⟩
        have := hq j u hu
        rw [Nat.add_mul, Nat.add_assoc] at this
        rw [show (ad.add (lo * E.sz)).add (i * E.sz + j) = ad.add (lo * E.sz + (i * E.sz + j)) from ?_]
        · exact this
        · unfold Addr.add; split <;> split <;> simp_all [Nat.add_assoc]
      · cases hx

/-- 'x[lo:hi]', 'x[lo:]', 'x[:hi]': what the operation gives, under one name, in whatever world -/
theorem slice_lh {t : TypeId} (ht : P.underlying t = some (.slice (P.elem t))) (hs : ∀ w, (sizeOf (P.elem t)).run P w = .ok E.sz w) (A : Option Addr) (c : Nat) (xs : List α) (lo hi : Int) (h0 : 0 ≤ lo) (h1 : lo ≤ hi) (h2 : hi ≤ xs.length) (hc : xs.length ≤ c) :
    ∃ V, (∀ w, (Instr.slice t (.slice A xs.length c) (some (.int .i64 lo)) (some (.int .i64 hi)) none).run P w = .ok V w) ∧ ∀ w, E.Is w (.slice A xs.length c) xs → E.Is w V ((xs.take hi.toNat).drop lo.toNat) :=
  ⟨sliced A lo.toNat hi.toNat c E.sz, fun w => by rw [run_slice_lh w t A xs.length c ht .i64 .i64 lo hi h0 h1 (by omega), hs, Result.andThen_ok], fun _ h => h.sub _ _ (by omega) (by omega)⟩
theorem slice_l {t : TypeId} (ht : P.underlying t = some (.slice (P.elem t))) (hs : ∀ w, (sizeOf (P.elem t)).run P w = .ok E.sz w) (A : Option Addr) (c : Nat) (xs : List α) (lo : Int) (h0 : 0 ≤ lo) (h1 : lo ≤ xs.length) :
    ∃ V, (∀ w, (Instr.slice t (.slice A xs.length c) (some (.int .i64 lo)) none none).run P w = .ok V w) ∧ ∀ w, E.Is w (.slice A xs.length c) xs → E.Is w V (xs.drop lo.toNat) :=
  ⟨sliced A lo.toNat xs.length c E.sz, fun w => by rw [run_slice_l w t A xs.length c ht .i64 lo h0 h1, hs, Result.andThen_ok], fun _ h => by have := h.sub lo.toNat xs.length (by omega) (Nat.le_refl _); rwa [List.take_length] at this⟩
theorem slice_h {t : TypeId} (ht : P.underlying t = some (.slice (P.elem t))) (hs : ∀ w, (sizeOf (P.elem t)).run P w = .ok E.sz w) (A : Option Addr) (c : Nat) (xs : List α) (hi : Int) (h0 : 0 ≤ hi) (h2 : hi ≤ xs.length) (hc : xs.length ≤ c) :
    ∃ V, (∀ w, (Instr.slice t (.slice A xs.length c) none (some (.int .i64 hi)) none).run P w = .ok V w) ∧ ∀ w, E.Is w (.slice A xs.length c) xs → E.Is w V (xs.take hi.toNat) :=
  ⟨sliced A 0 hi.toNat c E.sz, fun w => by rw [run_slice_h w t A xs.length c ht .i64 hi h0 (by omega), hs, Result.andThen_ok], fun _ h => by have := h.sub 0 hi.toNat (Nat.zero_le _) (by omega); rwa [List.drop_zero] at this⟩
end

theorem int_at {w : World} {A : Option Addr} {xs : List Int} (h : intE.At w A xs) (k : Nat) (hk : k < xs.length) : ∃ ad, A = some ad ∧ w.cell? (ad.add k) = some (.int .i64 xs[k]) := by
  obtain ⟨ad, e, hc⟩ := h k _ (List.getElem?_eq_getElem hk)
  refine ⟨ad, e, ?_⟩
  have := hc 0 _ rfl
  rwa [Nat.add_zero, show intE.sz = 1 from rfl, Nat.mul_one] at this
theorem head_at {w : World} {A : Option Addr} {xs : List Head} (h : headE.At w A xs) (k : Nat) (hk : k < xs.length) : ∃ ad, A = some ad ∧ w.cell? (ad.add k) = some xs[k].v := by
  obtain ⟨ad, e, hc⟩ := h k _ (List.getElem?_eq_getElem hk)
  refine ⟨ad, e, ?_⟩
  have := hc 0 _ rfl
  rwa [Nat.add_zero, show headE.sz = 1 from rfl, Nat.mul_one] at this

/-- rows of numbers -/
def IRows (w : World) (hs : List Head) (ls : List (List Int)) : Prop := hs.length = ls.length ∧ ∀ (i : Nat) h l, hs[i]? = some h → ls[i]? = some l → h.n = l.length ∧ l.length ≤ h.cap ∧ h.cap ≤ maxLen ∧ (h.A = none → h.cap = 0) ∧ intE.At w h.A l
theorem IRows.bl {w w' : World} {hs : List Head} {ls : List (List Int)} (h : IRows w hs ls) (hb : Bl w w') : IRows w' hs ls := ⟨h.1, fun i x l hx hl => by
  obtain ⟨a1, a2, a3, a4, a5⟩ := h.2 i x l hx hl; exact ⟨a1, a2, a3, a4, a5.bl hb⟩⟩
theorem IRows.nil (w : World) : IRows w [] [] := ⟨rfl, fun i h l hh => by simp at hh⟩
theorem IRows.cons {w : World} {hs : List Head} {ls : List (List Int)} {A : Option Addr} {n c : Nat} {l : List Int} (hn : n = l.length) (hc : l.length ≤ c) (hm : c ≤ maxLen) (h0 : A = none → c = 0) (hA : intE.At w A l) (h : IRows w hs ls) : IRows w (⟨A, n, c⟩ :: hs) (l :: ls) := by
  refine ⟨by simp [h.1], fun i x y hx hy => ?_⟩
  cases i with
  | zero => simp at hx hy; subst hx; subst hy; exact ⟨hn, hc, hm, h0, hA⟩
  | succ i => simp at hx hy; exact h.2 i x y hx hy
end Go.Ov

/- Extents as data: the model's rows of extents, the document's functions on them. No program in sight. -/
namespace Go.Ov
open Go.RowKit

structure Ext where
  at_ : Int
  sector : Int
  count : Int
  skip : Int
  take : Int
  deriving DecidableEq

def Ext.vals (e : Ext) : List Value := [.int .i64 e.at_, .int .i64 e.sector, .int .i64 e.count, .int .i64 e.skip, .int .i64 e.take]
def Ext.v (e : Ext) : Value := .agg #[.int .i64 e.at_, .int .i64 e.sector, .int .i64 e.count, .int .i64 e.skip, .int .i64 e.take]
def extE : Enc Ext := ⟨5, Ext.vals, fun _ => rfl, fun x u h => by simp [Ext.vals] at h; rcases h with rfl | rfl | rfl | rfl | rfl <;> rfl⟩
instance : Inhabited Ext := ⟨⟨0, 0, 0, 0, 0⟩⟩

theorem add_at (ad : Addr) (m j : Nat) (hj : 0 < j) : ad.add (m + j) = ⟨(ad.add m).block, (ad.add m).off + j, none⟩ := by
  unfold Addr.add
  rw [if_neg (by omega)]
  split
  · rename_i h; subst h; simp
  · simp [Nat.add_assoc]

theorem ext_at {w : World} {A : Option Addr} {xs : List Ext} (h : extE.At w A xs) (k : Nat) (hk : k < xs.length) :
    ∃ ad, A = some ad ∧ w.cell? (ad.add (k * 5)) = some (.int .i64 xs[k].at_) ∧ w.cell? ⟨(ad.add (k * 5)).block, (ad.add (k * 5)).off + 1, none⟩ = some (.int .i64 xs[k].sector) ∧
      w.cell? ⟨(ad.add (k * 5)).block, (ad.add (k * 5)).off + 2, none⟩ = some (.int .i64 xs[k].count) ∧ w.cell? ⟨(ad.add (k * 5)).block, (ad.add (k * 5)).off + 3, none⟩ = some (.int .i64 xs[k].skip) ∧
      w.cell? ⟨(ad.add (k * 5)).block, (ad.add (k * 5)).off + 4, none⟩ = some (.int .i64 xs[k].take) := by
  obtain ⟨ad, e, hc⟩ := h k _ (List.getElem?_eq_getElem hk)
  refine ⟨ad, e, ?_, ?_, ?_, ?_, ?_⟩
  · exact hc 0 _ rfl
  · rw [← add_at _ _ 1 (by decide)]; exact hc 1 _ rfl
  · rw [← add_at _ _ 2 (by decide)]; exact hc 2 _ rfl
  · rw [← add_at _ _ 3 (by decide)]; exact hc 3 _ rfl
  · rw [← add_at _ _ 4 (by decide)]; exact hc 4 _ rfl

def oneB (e : Ext) : Bool := decide (1 ≤ e.sector) && decide (e.sector < 4096) && decide (e.count ≤ 64) && decide (0 ≤ e.skip) && decide (e.skip < e.count) && decide (1 ≤ e.take) && decide (e.take ≤ e.count - e.skip)
/-- a row from a place on -/
def validFrom (at_ : Int) : List Ext → Bool
  | [] => true
  | e :: l => oneB e && (e.at_ == at_) && decide (e.take ≤ 1000 - at_) && validFrom (at_ + e.take) l
def shiftE (by_ : Int) (e : Ext) : Ext := ⟨wrap64 (e.at_ + by_), e.sector, e.count, e.skip, e.take⟩
def shiftM (by_ : Int) (l : List Ext) : List Ext := l.map (shiftE by_)
/-- an extent's part from a to b -/
def cutE (a b : Int) (e : Ext) : List Ext :=
  if max e.at_ a < min (wrap64 (e.at_ + e.take)) b then [⟨max e.at_ a, e.sector, e.count, wrap64 (wrap64 (e.skip + max e.at_ a) - e.at_), wrap64 (min (wrap64 (e.at_ + e.take)) b - max e.at_ a)⟩] else []
def cutM (a b : Int) (l : List Ext) : List Ext := l.flatMap (cutE a b)
theorem cutE_len (a b : Int) (e : Ext) : (cutE a b e).length ≤ 1 := by unfold cutE; split <;> simp
def endM (l : List Ext) : Int := (l.map Ext.take).sum

theorem validFrom_bd : ∀ (l : List Ext) (a : Int), a ≤ 1000 → validFrom a l = true → (l.length : Int) ≤ endM l ∧ a + endM l ≤ 1000
  | [], a, h, _ => by simp [endM]; exact h
  | e :: l, a, h, hv => by
    simp only [validFrom, Bool.and_eq_true, decide_eq_true_eq] at hv
    obtain ⟨⟨⟨h1, _⟩, h3⟩, h4⟩ := hv
    have := validFrom_bd l (a + e.take) (by omega) h4
    have ht : 1 ≤ e.take := by simp [oneB] at h1; omega
    simp only [endM, List.map_cons, List.sum_cons, List.length_cons] at this ⊢
    omega
theorem flat1_len {α β : Type} (f : α → List β) (hf : ∀ x, (f x).length ≤ 1) : ∀ l : List α, (l.flatMap f).length ≤ l.length
  | [] => by simp
  | x :: l => by rw [List.flatMap_cons, List.length_append, List.length_cons]; have := flat1_len f hf l; have := hf x; omega
theorem cutM_len (a b : Int) (l : List Ext) : (cutM a b l).length ≤ l.length := flat1_len _ (cutE_len a b) l
theorem shiftM_len (b : Int) (l : List Ext) : (shiftM b l).length = l.length := List.length_map ..

/-- which error a splice has (0: none) -/
def spliceBad (l : List Ext) (fr tt : Int) (new : List Ext) : Bool := !validFrom 0 new || decide (fr < 0) || decide (tt < fr) || decide (endM l < fr)
def spliceL (l : List Ext) (fr tt : Int) (new : List Ext) : List Ext :=
  (cutM 0 fr l ++ shiftM fr new) ++ shiftM (fr + endM new - min tt (endM l)) (cutM (min tt (endM l)) (endM l) l)
def spliceLong (l : List Ext) (fr tt : Int) (new : List Ext) : Bool := decide (1000 < fr + endM new + endM l - min tt (endM l))
def spliceM (l : List Ext) (fr tt : Int) (new : List Ext) : List Ext × Int :=
  if spliceBad l fr tt new then ([], 1) else if spliceLong l fr tt new then ([], 4) else (spliceL l fr tt new, 0)

def rowGo (a : Int) : List Ext → List Ext
  | [] => []
  | e :: l =>
    if 1000 - a < 1 + within e.take (1 + within e.count 64 - within e.skip (1 + within e.count 64)) then []
    else ⟨a, 1 + within e.sector 4095, 1 + within e.count 64, within e.skip (1 + within e.count 64), 1 + within e.take (1 + within e.count 64 - within e.skip (1 + within e.count 64))⟩ ::
      rowGo (a + (1 + within e.take (1 + within e.count 64 - within e.skip (1 + within e.count 64)))) l
def rowM (l : List Ext) (most : Nat) : List Ext := rowGo 0 (l.take most)
theorem rowGo_valid : ∀ (l : List Ext) (a : Int), validFrom a (rowGo a l) = true
  | [], _ => rfl
  | e :: l, a => by
    unfold rowGo
    split
    · rfl
    · rename_i h
      have h1 := within_bd e.count 64 (by decide)
      have h2 := within_bd e.skip (1 + within e.count 64) (by omega)
      have h3 := within_bd e.take (1 + within e.count 64 - within e.skip (1 + within e.count 64)) (by omega)
      have h4 := within_bd e.sector 4095 (by decide)
      simp only [validFrom, rowGo_valid l _, Bool.and_true, beq_self_eq_true, Bool.and_eq_true, decide_eq_true_eq]
      refine ⟨?_, by omega⟩
      simp [oneB]; omega
theorem rowM_valid (l : List Ext) (m : Nat) : validFrom 0 (rowM l m) = true := rowGo_valid _ _
theorem rowGo_len : ∀ (l : List Ext) (a : Int), (rowGo a l).length ≤ l.length
  | [], _ => Nat.le_refl _
  | e :: l, a => by
    unfold rowGo
    split
    · exact Nat.zero_le _
    · simp only [List.length_cons]; have := rowGo_len l (a + (1 + within e.take (1 + within e.count 64 - within e.skip (1 + within e.count 64)))); omega
theorem rowM_len (l : List Ext) (m : Nat) : (rowM l m).length ≤ m := Nat.le_trans (rowGo_len _ _) (by rw [List.length_take]; omega)
end Go.Ov

/- Trees as data: nodes, the tree over a row; how they lie in memory. No program in sight. -/
namespace Go.Ov
open Go.RowKit

inductive NodeM where
  | mk (leaf : List Ext) (first : List Int) (parts : List NodeM)
def NodeM.nil : NodeM := .mk [] [] []
instance : Inhabited NodeM := ⟨.nil⟩
def NodeM.leaf : NodeM → List Ext | .mk l _ _ => l
def NodeM.firsts : NodeM → List Int | .mk _ f _ => f
def NodeM.parts : NodeM → List NodeM | .mk _ _ p => p
/-- the sample at which a node begins -/
def NodeM.first1 : NodeM → Int
  | .mk [] _ [] => 0
  | .mk (e :: _) _ [] => e.at_
  | .mk _ _ (p :: _) => p.first1
def NodeM.hasFirst : NodeM → Bool
  | .mk l _ [] => !l.isEmpty
  | .mk _ _ (p :: _) => p.hasFirst
mutual
def NodeM.count : NodeM → Nat
  | .mk _ _ p => 1 + countL p
def countL : List NodeM → Nat
  | [] => 0
  | n :: l => n.count + countL l
end
theorem count_mk (l : List Ext) (f : List Int) (p : List NodeM) : (NodeM.mk l f p).count = 1 + countL p := by simp [NodeM.count]
theorem first1_cons (l : List Ext) (f : List Int) (x : NodeM) (p : List NodeM) : (NodeM.mk l f (x :: p)).first1 = x.first1 := by cases l <;> simp [NodeM.first1]
theorem countL_cons (x : NodeM) (p : List NodeM) : countL (x :: p) = x.count + countL p := by simp [countL]
theorem count_mem : ∀ (l : List NodeM) (i : Nat) (h : i < l.length), l[i].count ≤ countL l
  | n :: l, 0, _ => by simp [countL]
  | n :: l, i + 1, h => by
    have := count_mem l i (by simpa using h)
    simp [countL]; omega
theorem countL_take : ∀ (l : List NodeM) (k : Nat) (h : k < l.length), countL (l.take (k + 1)) = countL (l.take k) + l[k].count
  | n :: l, 0, _ => by simp [countL]
  | n :: l, k + 1, h => by
    have := countL_take l k (by simpa using h)
    simp [countL, this]; omega
theorem countL_append : ∀ (a b : List NodeM), countL (a ++ b) = countL a + countL b
  | [], b => by simp [countL]
  | n :: a, b => by simp [countL, countL_append a b]; omega
theorem countL_le (l : List NodeM) (k : Nat) : countL (l.take k) ≤ countL l := by
  have := countL_append (l.take k) (l.drop k)
  rw [List.take_append_drop] at this; omega

/-- cut into groups -/
def preM (n g i : Nat) : Nat := i * (n / g) + min i (n % g)
def sizeM (n g i : Nat) : Nat := n / g + if i < n % g then 1 else 0
def grp (n : Nat) : Nat := (n + 7) / 8
theorem preM_zero (n g : Nat) : preM n g 0 = 0 := by simp [preM]
theorem preM_succ (n g i : Nat) : preM n g (i + 1) = preM n g i + sizeM n g i := by
  unfold preM sizeM
  rw [Nat.succ_mul]
  split <;> omega
theorem preM_all (n g : Nat) (hg : 0 < g) : preM n g g = n := by
  unfold preM
  have := Nat.mod_lt n hg
  have := Nat.div_add_mod n g
  rw [Nat.min_eq_right (by omega)]; exact this
theorem preM_mono (n g i j : Nat) (h : i ≤ j) : preM n g i ≤ preM n g j := by
  unfold preM
  have := Nat.mul_le_mul_right (n / g) h
  omega
theorem preM_le (n g i : Nat) (h : i ≤ g) : preM n g i ≤ n := by
  rcases Nat.eq_zero_or_pos g with rfl | hg
  · have : i = 0 := by omega
    subst this; rw [preM_zero]; omega
  · have := preM_mono n g i g h
    rw [preM_all n g hg] at this; exact this
theorem preM_size (n g i : Nat) (h : i < g) : preM n g i + sizeM n g i ≤ n := by
  rw [← preM_succ]; exact preM_le n g (i + 1) h
theorem size_pos (n g i : Nat) (hg : 0 < g) (h : g ≤ n) : 1 ≤ sizeM n g i := by
  have : 1 ≤ n / g := by rw [Nat.le_div_iff_mul_le hg]; omega
  unfold sizeM; omega
theorem size_le (n g i : Nat) (hg : 0 < g) (h : n ≤ g * 8) : sizeM n g i ≤ 8 := by
  unfold sizeM
  have h1 := Nat.div_add_mod n g
  have h2 := Nat.mod_lt n hg
  by_cases h8 : n / g < 8
  · split <;> omega
  · have : g * 8 ≤ g * (n / g) := Nat.mul_le_mul_left g (by omega)
    have h3 : n / g ≤ 8 := by
      by_cases h9 : n / g ≤ 8
      · exact h9
      · have : g * 9 ≤ g * (n / g) := Nat.mul_le_mul_left g (by omega)
        omega
    have : n % g = 0 := by omega
    rw [this, if_neg (by omega)]; omega
def partM {α : Type} (l : List α) (g i : Nat) : List α := (l.drop (preM l.length g i)).take (sizeM l.length g i)
theorem partM_len {α : Type} (l : List α) (g i : Nat) (h : i < g) : (partM l g i).length = sizeM l.length g i := by
  have := preM_size l.length g i h
  unfold partM; rw [List.length_take, List.length_drop]; omega
theorem grp_le (n : Nat) (h : 1 < n) : grp n < n := by unfold grp; omega
def leafM (l : List Ext) (i : Nat) : NodeM := .mk (partM l (grp l.length) i) [] []
def leavesM (l : List Ext) : List NodeM := (List.range (grp l.length)).map (leafM l)
def nodeM (r : List NodeM) (i : Nat) : NodeM := .mk [] ((partM r (grp r.length) i).map NodeM.first1) (partM r (grp r.length) i)
def upM (r : List NodeM) : List NodeM := (List.range (grp r.length)).map (nodeM r)
theorem upM_len (r : List NodeM) : (upM r).length = grp r.length := by simp [upM]
theorem leavesM_len (l : List Ext) : (leavesM l).length = grp l.length := by simp [leavesM]
def topM (r : List NodeM) : NodeM := if _h : 1 < r.length then topM (upM r) else r.headD .nil
  termination_by r.length
  decreasing_by rw [upM_len]; exact grp_le _ _h
def madeM (l : List Ext) : NodeM := topM (leavesM l)
theorem topM_up (r : List NodeM) (h : 1 < r.length) : topM r = topM (upM r) := by
  conv => lhs; unfold topM
  rw [dif_pos h]
theorem topM_one (r : List NodeM) (h : ¬ 1 < r.length) : topM r = r.headD .nil := by
  unfold topM
  rw [dif_neg h]

theorem part_first (r : List NodeM) (g i : Nat) (hi : i < g) (hg : g ≤ r.length) (h : ∀ x ∈ r, x.hasFirst = true) :
    (∀ x ∈ partM r g i, x.hasFirst = true) ∧ ∃ x p, partM r g i = x :: p := by
  constructor
  · intro x hx
    exact h x (List.mem_of_mem_drop (List.mem_of_mem_take hx))
  · have h1 := partM_len r g i hi
    have h2 := size_pos r.length g i (by omega) hg
    cases e : partM r g i with
    | nil => rw [e] at h1; simp at h1; omega
    | cons x p => exact ⟨x, p, rfl⟩
theorem leaves_first (l : List Ext) : ∀ x ∈ leavesM l, x.hasFirst = true := by
  intro x hx
  unfold leavesM at hx
  obtain ⟨i, hi, rfl⟩ := List.mem_map.1 hx
  have hi' : i < grp l.length := by simpa using hi
  have h1 := partM_len l (grp l.length) i hi'
  have h2 := size_pos l.length (grp l.length) i (by omega) (by unfold grp at *; omega)
  unfold leafM NodeM.hasFirst
  cases e : partM l (grp l.length) i with
  | nil => rw [e] at h1; simp at h1; omega
  | cons x p => rfl
theorem up_first (r : List NodeM) (h : ∀ x ∈ r, x.hasFirst = true) : ∀ x ∈ upM r, x.hasFirst = true := by
  intro x hx
  unfold upM at hx
  obtain ⟨i, hi, rfl⟩ := List.mem_map.1 hx
  have hi' : i < grp r.length := by simpa using hi
  obtain ⟨h1, y, p, e⟩ := part_first r (grp r.length) i hi' (by unfold grp at *; omega) h
  unfold nodeM
  rw [e]
  unfold NodeM.hasFirst
  exact h1 y (by rw [e]; simp)

/-- how a node lies: three slices' heads -/
structure NH where
  a : Head
  b : Head
  c : Head
def NH.v (h : NH) : Value := .agg #[h.a.v, h.b.v, h.c.v]
def nodeE : Enc NH := ⟨3, fun n => [n.a.v, n.b.v, n.c.v], fun _ => rfl, fun x u h => by simp at h; rcases h with rfl | rfl | rfl <;> rfl⟩
inductive NodeR (w : World) : NodeM → NH → Prop
  | mk (l : List Ext) (f : List Int) (p : List NodeM) (a b c : Head) (hs : List NH) : extE.Is w a.v l → intE.Is w b.v f → nodeE.Is w c.v hs → hs.length = p.length →
      (∀ (i : Nat) (x : NodeM) (h : NH), p[i]? = some x → hs[i]? = some h → NodeR w x h) → NodeR w (.mk l f p) ⟨a, b, c⟩
def NRows (w : World) (hs : List NH) (ns : List NodeM) : Prop := hs.length = ns.length ∧ ∀ (i : Nat) (x : NodeM) (h : NH), ns[i]? = some x → hs[i]? = some h → NodeR w x h
theorem NodeR.bl {w w' : World} {n : NodeM} {h : NH} (hr : NodeR w n h) (hb : Bl w w') : NodeR w' n h := by
  induction hr with
  | mk l f p a b c hs h1 h2 h3 h4 _ ih => exact .mk l f p a b c hs (h1.bl hb) (h2.bl hb) (h3.bl hb) h4 ih
theorem NodeR.inv {w : World} {l : List Ext} {f : List Int} {p : List NodeM} {h : NH} (hr : NodeR w (.mk l f p) h) :
    extE.Is w h.a.v l ∧ intE.Is w h.b.v f ∧ ∃ hs, nodeE.Is w h.c.v hs ∧ NRows w hs p := by
  cases hr with
  | mk _ _ _ a b c hs h1 h2 h3 h4 h5 => exact ⟨h1, h2, hs, h3, h4, h5⟩
theorem NodeR.mk' {w : World} {l : List Ext} {f : List Int} {p : List NodeM} {h : NH} {hs : List NH} (h1 : extE.Is w h.a.v l) (h2 : intE.Is w h.b.v f) (h3 : nodeE.Is w h.c.v hs) (h4 : NRows w hs p) : NodeR w (.mk l f p) h := by
  obtain ⟨a, b, c⟩ := h
  exact .mk l f p a b c hs h1 h2 h3 h4.1 h4.2
theorem NRows.bl {w w' : World} {hs : List NH} {ns : List NodeM} (h : NRows w hs ns) (hb : Bl w w') : NRows w' hs ns := ⟨h.1, fun i x y hx hy => (h.2 i x y hx hy).bl hb⟩
theorem NRows.nil (w : World) : NRows w [] [] := ⟨rfl, fun i x h hx => by simp at hx⟩
theorem NRows.snoc {w : World} {hs : List NH} {ns : List NodeM} {h : NH} {n : NodeM} (hr : NRows w hs ns) (hn : NodeR w n h) : NRows w (hs ++ [h]) (ns ++ [n]) := by
  refine ⟨by simp [hr.1], fun i x y hx hy => ?_⟩
  by_cases hi : i < ns.length
  · rw [List.getElem?_append_left hi] at hx
    rw [List.getElem?_append_left (by rw [hr.1]; exact hi)] at hy
    exact hr.2 i x y hx hy
  · have hl := hr.1
    rw [List.getElem?_append_right (by omega)] at hx
    rw [List.getElem?_append_right (by omega), hl] at hy
    obtain ⟨hx1, hx2⟩ := List.getElem?_eq_some_iff.1 hx
    obtain ⟨hy1, hy2⟩ := List.getElem?_eq_some_iff.1 hy
    have hz : i - ns.length = 0 := by simp at hx1; omega
    simp [hz] at hx2 hy2
    subst hx2; subst hy2; exact hn
theorem NRows.drop {w : World} {hs : List NH} {ns : List NodeM} (hr : NRows w hs ns) (k : Nat) : NRows w (hs.drop k) (ns.drop k) :=
  ⟨by simp [hr.1], fun i x y hx hy => hr.2 (k + i) x y (by rw [List.getElem?_drop] at hx; exact hx) (by rw [List.getElem?_drop] at hy; exact hy)⟩
theorem NRows.take {w : World} {hs : List NH} {ns : List NodeM} (hr : NRows w hs ns) (k : Nat) : NRows w (hs.take k) (ns.take k) := by
  refine ⟨by simp [hr.1], fun i x y hx hy => ?_⟩
  rw [List.getElem?_take] at hx hy
  split at hx
  · rename_i hi
    rw [if_pos hi] at hy
    exact hr.2 i x y hx hy
  · cases hx
theorem NRows.at {w : World} {hs : List NH} {ns : List NodeM} (hr : NRows w hs ns) (k : Nat) (h : k < ns.length) : ∃ h' : k < hs.length, NodeR w ns[k] hs[k] :=
  ⟨by rw [hr.1]; exact h, hr.2 k _ _ (List.getElem?_eq_getElem h) (List.getElem?_eq_getElem _)⟩

theorem node_at {w : World} {A : Option Addr} {xs : List NH} (h : nodeE.At w A xs) (k : Nat) (hk : k < xs.length) :
    ∃ ad, A = some ad ∧ w.cell? (ad.add (k * 3)) = some xs[k].a.v ∧ w.cell? ⟨(ad.add (k * 3)).block, (ad.add (k * 3)).off + 1, none⟩ = some xs[k].b.v ∧
      w.cell? ⟨(ad.add (k * 3)).block, (ad.add (k * 3)).off + 2, none⟩ = some xs[k].c.v := by
  obtain ⟨ad, e, hc⟩ := h k _ (List.getElem?_eq_getElem hk)
  refine ⟨ad, e, ?_, ?_, ?_⟩
  · exact hc 0 _ rfl
  · rw [← add_at _ _ 1 (by decide)]; exact hc 1 _ rfl
  · rw [← add_at _ _ 2 (by decide)]; exact hc 2 _ rfl

theorem add0 (ad : Addr) : ad.add 0 = ad := by unfold Addr.add; simp
theorem ext_at0 {w : World} {A : Option Addr} {xs : List Ext} (h : extE.At w A xs) (hk : 0 < xs.length) : ∃ ad, A = some ad ∧ w.cell? ad = some (.int .i64 xs[0].at_) := by
  obtain ⟨ad, e, hc, _⟩ := ext_at h 0 hk
  rw [Nat.zero_mul, add0] at hc
  exact ⟨ad, e, hc⟩
theorem node_at0 {w : World} {A : Option Addr} {xs : List NH} (h : nodeE.At w A xs) (hk : 0 < xs.length) :
    ∃ ad, A = some ad ∧ w.cell? ad = some xs[0].a.v ∧ w.cell? ⟨ad.block, ad.off + 1, none⟩ = some xs[0].b.v ∧ w.cell? ⟨ad.block, ad.off + 2, none⟩ = some xs[0].c.v := by
  obtain ⟨ad, e, hc⟩ := node_at h 0 hk
  rw [Nat.zero_mul, add0] at hc
  exact ⟨ad, e, hc⟩

structure TreeM where
  row : List Ext
  top : NodeM
def treeM (l : List Ext) : TreeM := ⟨l, madeM l⟩
def TreeIs (w : World) (v : Value) (t : TreeM) : Prop := ∃ (b : Nat) (u : Head) (h : NH), v = .pointer (some ⟨b, 0, none⟩) ∧ w.cell? ⟨b, 0, none⟩ = some u.v ∧ w.cell? ⟨b, 1, none⟩ = some h.a.v ∧
  w.cell? ⟨b, 2, none⟩ = some h.b.v ∧ w.cell? ⟨b, 3, none⟩ = some h.c.v ∧ extE.Is w u.v t.row ∧ NodeR w t.top h
theorem TreeIs.bl {w w' : World} {v : Value} {t : TreeM} (h : TreeIs w v t) (hb : Bl w w') : TreeIs w' v t := by
  obtain ⟨b, u, n, e, h0, h1, h2, h3, h4, h5⟩ := h
  exact ⟨b, u, n, e, hb.cell h0, hb.cell h1, hb.cell h2, hb.cell h3, h4.bl hb, h5.bl hb⟩
end Go.Ov
