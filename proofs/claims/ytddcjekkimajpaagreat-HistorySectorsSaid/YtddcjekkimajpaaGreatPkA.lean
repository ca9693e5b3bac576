/- Several texts joined (see each one's head). -/
import Derived.WalkKit
import Derived.WalkSpells
import Derived.WalkLawsBesides
import Derived.BigQuiet
import Derived.Deep.QuietTactic
import Derived.Deep.DeepCutAuto
import Derived.Deep.LoopGhost
import Derived.Lib.Hide
import Derived.OwnWalk
import Derived.Laws.OwnMore
import Derived.Lib.MinMax
import Derived.Deep.AppendLies
import Derived.Test.YtddcjekkimajpaaGreatProg
/- Slices as lists: what a slice reads as, what a call owns, append; small words for walks. No program in sight. -/
namespace Go.Ov
open Go.RowKit

theorem ret_int {k : IntKind} {a b : Int} (h : a = b) : Ending.returned (.int k a) = .returned (.int k b) := by rw [h]
theorem ret_bool {a b : Bool} (h : a = b) : Ending.returned (.bool a) = .returned (.bool b) := by rw [h]

theorem wrap_id {a : Int} (h1 : -9223372036854775808 ≤ a) (h2 : a ≤ 9223372036854775807) : wrap64 a = a := by unfold wrap64; omega
theorem wrap_wrap_add (a b : Int) : wrap64 (wrap64 a + b) = wrap64 (a + b) := by unfold wrap64; omega

/-- any number as one from 0 to n - 1 -/
def within (v n : Int) : Int := if n < 1 then 0 else v % n

theorem tmod_lt0 (v n : Int) (hn : 1 ≤ n) (h : Int.tmod v n < 0) : Int.tmod v n + n = v % n := by
  rw [Int.tmod_eq_emod] at h ⊢
  have := Int.emod_nonneg v (show n ≠ 0 by omega)
  split at h <;> split <;> simp_all <;> omega
theorem tmod_ge0 (v n : Int) (hn : 1 ≤ n) (h : 0 ≤ Int.tmod v n) : Int.tmod v n = v % n := by
  rw [Int.tmod_eq_emod] at h ⊢
  have := Int.emod_lt_of_pos v (show 0 < n by omega)
  split at h <;> split <;> simp_all <;> omega
theorem within_bd (v n : Int) (hn : 1 ≤ n) : 0 ≤ within v n ∧ within v n < n := by
  unfold within; rw [if_neg (by omega)]; exact ⟨Int.emod_nonneg _ (by omega), Int.emod_lt_of_pos _ (by omega)⟩

/-- the sum of a list's beginning -/
def psum {α : Type} (f : α → Int) (l : List α) (k : Nat) : Int := ((l.take k).map f).sum
theorem psum_zero {α : Type} (f : α → Int) (l : List α) : psum f l 0 = 0 := rfl
theorem psum_succ {α : Type} (f : α → Int) (l : List α) (k : Nat) (h : k < l.length) : psum f l (k + 1) = psum f l k + f l[k] := by
  unfold psum; rw [List.take_succ_eq_append_getElem h, List.map_append, List.sum_append]; simp
theorem psum_all {α : Type} (f : α → Int) (l : List α) (k : Nat) (h : l.length ≤ k) : psum f l k = (l.map f).sum := by
  unfold psum; rw [List.take_of_length_le h]

/-- a list's beginning, mapped -/
def pmap {α β : Type} (f : α → β) (l : List α) (k : Nat) : List β := (l.take k).map f
theorem pmap_zero {α β : Type} (f : α → β) (l : List α) : pmap f l 0 = [] := rfl
theorem pmap_succ {α β : Type} (f : α → β) (l : List α) (k : Nat) (h : k < l.length) : pmap f l (k + 1) = pmap f l k ++ [f l[k]] := by
  unfold pmap; rw [List.take_succ_eq_append_getElem h, List.map_append]; rfl
theorem pmap_all {α β : Type} (f : α → β) (l : List α) (k : Nat) (h : l.length ≤ k) : pmap f l k = l.map f := by
  unfold pmap; rw [List.take_of_length_le h]
theorem pmap_len {α β : Type} (f : α → β) (l : List α) (k : Nat) (h : k ≤ l.length) : (pmap f l k).length = k := by
  unfold pmap; rw [List.length_map, List.length_take]; omega

/-- nothing that was there has turned -/
abbrev Bl (w w' : World) : Prop := Below w.heap.size w w'
theorem Bl.trans {a b c : World} (h : Bl a b) (k : Bl b c) : Bl a c := Below.trans h (Below.mono k h.size)
theorem Bl.alloc {a b : World} (h : Bl a b) (o : Obj) : Bl a (b.alloc o) := Below.alloc h h.size o
theorem Bl.drewN {a b : World} (h : Bl a b) (n : Nat) : Bl a (b.drewN n) := ⟨h.os, h.tape, h.output, h.size, h.block⟩
theorem Bl.drew {a b : World} (h : Bl a b) : Bl a b.drew := Below.drew h
theorem Bl.bl {a b c : World} (h : Bl a b) (k : Bl b c) : Bl a c := Bl.trans h k
theorem Bl.refl (a : World) : Bl a a := Below.refl _ _
theorem Bl.cell {w w1 : World} (h : Bl w w1) {a : Addr} {v : Value} (hc : w.cell? a = some v) : w1.cell? a = some v := (Below.cell h (World.block_lt_of_cell? w a hc)).trans hc
theorem Bl.grown {a b c : World} {row : Option Nat} (h : Bl a b) (hg : b.grownBy c row) (hr : ∀ k, row = some k → a.heap.size ≤ k) : Bl a c := Below.grown h hg h.size hr

/-- how a datum lies in cells -/
structure Enc (α : Type) where
  sz : Nat
  c : α → List Value
  len : ∀ x, (c x).length = sz
  one : ∀ x u, u ∈ c x → u.oneCell' = true

def intE : Enc Int := ⟨1, fun x => [.int .i64 x], fun _ => rfl, fun x u h => by simp at h; subst h; rfl⟩
/-- a slice's head -/
structure Head where
  A : Option Addr
  n : Nat
  cap : Nat
def Head.v (h : Head) : Value := .slice h.A h.n h.cap
def headE : Enc Head := ⟨1, fun h => [h.v], fun _ => rfl, fun x u h => by simp at h; subst h; rfl⟩

section
variable {α : Type} (E : Enc α)

def Enc.At (w : World) (A : Option Addr) (xs : List α) : Prop :=
  ∀ i x, xs[i]? = some x → ∃ ad, A = some ad ∧ ∀ j u, (E.c x)[j]? = some u → w.cell? (ad.add (i * E.sz + j)) = some u
def Enc.Is (w : World) (v : Value) (xs : List α) : Prop := ∃ A c, v = .slice A xs.length c ∧ xs.length ≤ c ∧ c ≤ maxLen ∧ (A = none → c = 0) ∧ E.At w A xs
def Enc.Own (e : TypeId) (w : World) (base : Nat) (v : Value) (xs : List α) : Prop := w.ownsRow base e E.sz v xs.length (xs.flatMap E.c)

variable {E}
theorem Enc.At.nil (w : World) (A : Option Addr) : E.At w A [] := fun i x h => by simp at h
theorem Enc.Is.nil (w : World) : E.Is w (.slice none 0 0) [] := ⟨none, 0, rfl, Nat.le_refl _, Nat.zero_le _, fun _ => rfl, Enc.At.nil w _⟩
theorem Enc.At.bl {w w' : World} {A : Option Addr} {xs : List α} (h : E.At w A xs) (hb : Bl w w') : E.At w' A xs := fun i x hx => by
  obtain ⟨ad, e, hc⟩ := h i x hx
  exact ⟨ad, e, fun j u hu => hb.cell (hc j u hu)⟩
theorem Enc.Is.bl {w w' : World} {v : Value} {xs : List α} (h : E.Is w v xs) (hb : Bl w w') : E.Is w' v xs := by
  obtain ⟨A, c, e, hl, hm, hn, hA⟩ := h
  exact ⟨A, c, e, hl, hm, hn, hA.bl hb⟩
theorem flat_get (E : Enc α) (xs : List α) (i : Nat) (x : α) (hx : xs[i]? = some x) (j : Nat) (u : Value) (hu : (E.c x)[j]? = some u) : (xs.flatMap E.c)[i * E.sz + j]? = some u := by
  induction xs generalizing i with
  | nil => simp at hx
  | cons y ys ih =>
    rw [List.flatMap_cons]
    cases i with
    | zero =>
      simp at hx; subst hx
      have hj : j < (E.c y).length := (List.getElem?_eq_some_iff.1 hu).1
      rw [Nat.zero_mul, Nat.zero_add, List.getElem?_append_left hj]; exact hu
    | succ i =>
      simp at hx
      rw [List.getElem?_append_right (by rw [E.len, Nat.succ_mul]; omega), E.len, show (i + 1) * E.sz + j - E.sz = i * E.sz + j by rw [Nat.succ_mul]; omega]
      exact ih i hx
theorem flat_len (E : Enc α) (xs : List α) : (xs.flatMap E.c).length = xs.length * E.sz := by
  induction xs with
  | nil => simp
  | cons y ys ih => rw [List.flatMap_cons, List.length_append, ih, E.len, List.length_cons, Nat.succ_mul, Nat.add_comm]
theorem flat_one (E : Enc α) (xs : List α) : ∀ u ∈ xs.flatMap E.c, u.oneCell' = true := by
  intro u hu
  obtain ⟨x, _, hx⟩ := List.mem_flatMap.1 hu
  exact E.one x u hx
theorem Enc.Own.nil (e : TypeId) (w : World) (base : Nat) : E.Own e w base (.slice none 0 0) [] := ⟨by simp, .inl ⟨rfl, rfl⟩⟩
theorem Enc.Own.lt {e : TypeId} {w : World} {base : Nat} {v : Value} {xs : List α} (h : E.Own e w base v xs) (k : Nat) (hk : v.ownBlock = some k) : base ≤ k ∧ k < w.heap.size := World.ownsRow.lt h k hk
theorem Enc.Own.is {e : TypeId} {w : World} {base : Nat} {v : Value} {xs : List α} (h : E.Own e w base v xs) : E.Is w v xs := by
  have hc := fun g (hg : v.ownBlock = some g) => World.ownsRow.cells h hg
  rcases h.2 with ⟨rfl, hn⟩ | ⟨g, cap, cur, rfl, _, _, hl, hm, _, _⟩
  · have : xs = [] := List.eq_nil_of_length_eq_zero hn
    subst this; exact Enc.Is.nil w
  · exact ⟨_, cap, rfl, hl, hm, (fun h => by cases h), fun i x hx => ⟨_, rfl, fun j u hu => hc g rfl _ u (flat_get E xs i x hx j u hu)⟩⟩
theorem Enc.Own.bl {e : TypeId} {w w' : World} {base : Nat} {v : Value} {xs : List α} (h : E.Own e w base v xs) (hb : Bl w w') : E.Own e w' base v xs :=
  World.ownsRow.kept (row := none) h ⟨hb.os, hb.tape, hb.output, hb.size, fun k hk _ => hb.block k hk⟩ (by cases v.ownBlock <;> simp)
theorem Enc.Own.grown {e : TypeId} {w w' : World} {base : Nat} {v : Value} {xs : List α} {row : Option Nat} (h : E.Own e w base v xs) (hg : w.grownBy w' row) (hne : v.ownBlock = none ∨ v.ownBlock ≠ row) : E.Own e w' base v xs := World.ownsRow.kept h hg hne
theorem Enc.Own.slice {e : TypeId} {w : World} {base : Nat} {v : Value} {xs : List α} (h : E.Own e w base v xs) : ∃ A c, v = .slice A xs.length c := by
  obtain ⟨A, c, e, _⟩ := h.is; exact ⟨A, c, e⟩
theorem Enc.Own.low {e : TypeId} {w : World} {base base' : Nat} {v : Value} {xs : List α} (h : E.Own e w base v xs) (hb : base' ≤ base) : E.Own e w base' v xs := by
  refine ⟨h.1, ?_⟩
  rcases h.2 with h | ⟨g, cap, cur, h1, h2, h3⟩
  · exact .inl h
  · exact .inr ⟨g, cap, cur, h1, Nat.le_trans hb h2, h3⟩

/-- a new block, written out: a slice of all of it -/
theorem Enc.Own.lit {e : TypeId} (w : World) (base : Nat) (xs : List α) (cs : Array Value) (hcs : cs.toList = xs.flatMap E.c) (n : Nat) (hn : n = xs.length) (hb : base ≤ w.heap.size) (hm : n ≤ maxLen) {N : Nat} (hN : N = w.heap.size) :
    E.Own e (w.alloc (.cells cs e)) base (.slice (some ⟨N, 0, none⟩) n n) xs := by
  subst hn
  subst hN
  refine ⟨flat_len E xs, .inr ⟨w.heap.size, xs.length, cs, rfl, hb, heap_alloc_new w _, Nat.le_refl _, hm, ?_, ?_⟩⟩
  · rw [← Array.length_toList, hcs, flat_len]
  · rw [hcs, List.take_of_length_le (by rw [flat_len]; exact Nat.le_refl _)]

theorem Enc.Own.wpAppend {P : Program} {w : World} {o : Oper} {a : Act} {K : Act → World → Prop} {Q : Exit → Act → World → Prop} (s x : Operand) (t : TypeId)
    (ho : o.op = .call { callee := .builtin .append, args := #[s, x], argTypes := #[t, t] })
    (base : Nat) (e : TypeId) (z : Value) (size bytes : Nat) (ht : P.underlying t = some (.slice e)) (hinfo : (P.info? e).map (fun i => (i.zero, i.size, i.bytes)) = some (some z, size, bytes))
    (hE : E.sz = size) (hzs : z.cells.size = size) (hsz : 0 < size) (hby : 0 < bytes)
    (v : Value) (xs : List α) (hs : a.eval s = v) (hown : E.Own e w base v xs)
    (u : Value) (ys : List α) (hx : a.eval x = u) (his : E.Is w u ys)
    (hlen : (xs.length + ys.length) * bytes ≤ 140737488355328) (hbase : base ≤ w.heap.size)
    (h : ∀ v' w', E.Own e w' base v' (xs ++ ys) → w.grownBy w' v.ownBlock → K (a.put o.dst v') w') : o.wp P a w K Q := by
  obtain ⟨i, hi, hz, hs1, hb1⟩ := info_parts hinfo
  obtain ⟨A, c, rfl, hc, _, hAn, hA⟩ := his
  have hmax : xs.length + ys.length ≤ maxLen := by
    have : (xs.length + ys.length) * 1 ≤ (xs.length + ys.length) * bytes := Nat.mul_le_mul_left _ hby
    unfold maxLen; omega
  by_cases hy : ys = []
  · subst hy
    have hrun : ∃ v' w', (Builtin.append_ #[t, t] o.type #[v, .slice A 0 c]).run P w = .ok v' w' ∧ E.Own e w' base v' xs ∧ w.grownBy w' v.ownBlock := by
      cases A with
      | none =>
        exact ⟨v, w, (by rw [hAn rfl]; exact run_append_owned_none (P := P) w base t o.type e i E.sz ht hi _ _ _ hown), hown, World.grownBy.refl w _⟩
      | some ad =>
        obtain ⟨v', w', r1, r2, r3, _⟩ := run_append_own (P := P) w base t o.type e i z size bytes ht hi hz hs1 hb1 hzs hsz v xs.length _ (by rw [← hE]; exact hown) ad 0 c [] (by simp) (by simp) (by simp) hmax hlen hbase
        exact ⟨v', w', r1, by rw [← hE] at r2; simpa [Enc.Own] using r2, r3⟩
    obtain ⟨v', w', hr, h2, h3⟩ := hrun
    unfold Oper.wp execOp
    simp only [ho, resolve, invoke, builtin, Sem.run_bind, Sem.run_pure, Result.andThen_ok, List.map_toArray, List.map_cons, List.map_nil, hs, hx, List.length_nil, hr]
    exact h v' w' (by simpa using h2) h3
  · obtain ⟨y, hy0⟩ : ∃ y, ys[0]? = some y := by cases ys with | nil => exact absurd rfl hy | cons y _ => exact ⟨y, rfl⟩
    obtain ⟨ad, rfl, _⟩ := hA 0 y hy0
    have hnews : ∀ j q, (ys.flatMap E.c)[j]? = some q → w.cell? (ad.add j) = some q := by
      intro j q hq
      have hj : j < ys.length * E.sz := by have := (List.getElem?_eq_some_iff.1 hq).1; rwa [flat_len] at this
      have hi' : j / E.sz < ys.length := by rw [Nat.div_lt_iff_lt_mul (by omega)]; exact hj
      obtain ⟨ad', e', hc'⟩ := hA (j / E.sz) ys[j / E.sz] (List.getElem?_eq_getElem hi')
      obtain rfl : ad = ad' := by injection e'
      have hm : j % E.sz < (E.c ys[j / E.sz]).length := by rw [E.len]; exact Nat.mod_lt _ (by omega)
      have hj2 : j = j / E.sz * E.sz + j % E.sz := by rw [Nat.mul_comm]; exact (Nat.div_add_mod j E.sz).symm
      have h1 := flat_get E ys (j / E.sz) _ (List.getElem?_eq_getElem hi') (j % E.sz) _ (List.getElem?_eq_getElem hm)
      rw [← hj2] at h1
      rw [h1] at hq
      have h2 := hc' (j % E.sz) _ (List.getElem?_eq_getElem hm)
      rw [← hj2] at h2
      rw [h2]; exact hq
    refine wp_append_own w s x t ho base e i z size bytes ht hi hz hs1 hb1 hzs hsz v xs.length _ hs (by rw [← hE]; exact hown) ad ys.length c (ys.flatMap E.c) hx (by rw [flat_len, hE]) hnews (flat_one E ys) hmax hlen hbase ?_
    intro v' w' h1 h2 _
    refine h v' w' ?_ h2
    unfold Enc.Own
    rw [List.flatMap_append, List.length_append, hE]; exact h1
theorem Enc.Own.append {P : Program} {w : World} {ops : Array Oper} {rest : List Oper} {o : Oper} {a : Act} {Q : Exit → Act → World → Prop} (hgd : o.guard = none) (s x : Operand) (t : TypeId)
    (ho : o.op = .call { callee := .builtin .append, args := #[s, x], argTypes := #[t, t] })
    (base : Nat) (e : TypeId) (z : Value) (size bytes : Nat) (ht : P.underlying t = some (.slice e)) (hinfo : (P.info? e).map (fun i => (i.zero, i.size, i.bytes)) = some (some z, size, bytes))
    (hE : E.sz = size) (hzs : z.cells.size = size) (hsz : 0 < size) (hby : 0 < bytes)
    (v : Value) (xs : List α) (hs : a.eval s = v) (hown : E.Own e w base v xs)
    (u : Value) (ys : List α) (hx : a.eval x = u) (his : E.Is w u ys)
    (hlen : (xs.length + ys.length) * bytes ≤ 140737488355328) (hbase : base ≤ w.heap.size)
    (h : ∀ v' w', E.Own e w' base v' (xs ++ ys) → w.grownBy w' v.ownBlock → wpList P ops Q rest (a.put o.dst v') w') : wpList P ops Q (o :: rest) a w :=
  wpList_plain hgd fun _ hK => Enc.Own.wpAppend s x t ho base e z size bytes ht hinfo hE hzs hsz hby v xs hs hown u ys hx his hlen hbase fun v' w' h1 h2 => hK _ _ (h v' w' h1 h2)

/-- at a step of a region that draws its order: append -/
theorem Enc.Own.stepAppend {P : Program} {w : World} {ops : Array Oper} {o : Oper} {a : Act} {K : Act → World → Prop} {Q : Exit → Act → World → Prop} {F : Prop} (hgd : o.guard = none) (s x : Operand) (t : TypeId)
    (ho : o.op = .call { callee := .builtin .append, args := #[s, x], argTypes := #[t, t] })
    (base : Nat) (e : TypeId) (z : Value) (size bytes : Nat) (ht : P.underlying t = some (.slice e)) (hinfo : (P.info? e).map (fun i => (i.zero, i.size, i.bytes)) = some (some z, size, bytes))
    (hE : E.sz = size) (hzs : z.cells.size = size) (hsz : 0 < size) (hby : 0 < bytes)
    (v : Value) (xs : List α) (hs : a.eval s = v) (hown : E.Own e w base v xs)
    (u : Value) (ys : List α) (hx : a.eval x = u) (his : E.Is w u ys)
    (hlen : (xs.length + ys.length) * bytes ≤ 140737488355328) (hbase : base ≤ w.heap.size)
    (h : ∀ v' w', E.Own e w' base v' (xs ++ ys) → w.grownBy w' v.ownBlock → K (a.put o.dst v') w') :
    if Region.wanted o (yielded ops a.tmps) = true then Oper.wp P o a w K Q else F := by
  have hw : Region.wanted o (yielded ops a.tmps) = true := by simp [Region.wanted, hgd]
  rw [if_pos hw]
  exact Enc.Own.wpAppend s x t ho base e z size bytes ht hinfo hE hzs hsz hby v xs hs hown u ys hx his hlen hbase h

/-- at a step of a region that draws its order: append of one element that stands in a block of its own -/
theorem Enc.Own.stepAppend1 {P : Program} {w : World} {ops : Array Oper} {o : Oper} {a : Act} {K : Act → World → Prop} {Q : Exit → Act → World → Prop} {F : Prop} (hgd : o.guard = none) (s x : Operand) (t : TypeId)
    (ho : o.op = .call { callee := .builtin .append, args := #[s, x], argTypes := #[t, t] })
    (base : Nat) (e : TypeId) (z : Value) (size bytes : Nat) (ht : P.underlying t = some (.slice e)) (hinfo : (P.info? e).map (fun i => (i.zero, i.size, i.bytes)) = some (some z, size, bytes))
    (hE : E.sz = size) (hzs : z.cells.size = size) (hsz : 0 < size) (hby : 0 < bytes)
    (v : Value) (xs : List α) (hs : a.eval s = v) (hown : E.Own e w base v xs)
    (y : α) (cs : Array Value) (hcs : cs.toList = E.c y) {N : Nat} (hN : N = w.heap.size) (hx : a.eval x = .slice (some ⟨N, 0, none⟩) 1 1)
    (hlen : (xs.length + 1) * bytes ≤ 140737488355328) (hbase : base ≤ w.heap.size)
    (h : ∀ v' w', E.Own e w' base v' (xs ++ [y]) → ((w.alloc (.cells cs e)).drew).grownBy w' v.ownBlock → K (a.put o.dst v') w') :
    if Region.wanted o (yielded ops a.tmps) = true then Oper.wp P o a ((w.alloc (.cells cs e)).drew) K Q else F := by
  have hw : Region.wanted o (yielded ops a.tmps) = true := by simp [Region.wanted, hgd]
  rw [if_pos hw]
  exact Enc.Own.wpAppend s x t ho base e z size bytes ht hinfo hE hzs hsz hby v xs hs (hown.bl ((Bl.refl _).alloc _).drew) _ [y] hx
    ((Enc.Own.lit (E := E) w 0 [y] cs (by simpa using hcs) 1 rfl (Nat.zero_le _) (by decide) hN).is.bl (Bl.refl _).drew) hlen (Nat.le_trans hbase ((Bl.refl w).alloc _).size) h

/-- append of one element that stands in a block of its own -/
theorem Enc.Own.append1 {P : Program} {w : World} {ops : Array Oper} {rest : List Oper} {o : Oper} {a : Act} {Q : Exit → Act → World → Prop} (hgd : o.guard = none) (s x : Operand) (t : TypeId)
    (ho : o.op = .call { callee := .builtin .append, args := #[s, x], argTypes := #[t, t] })
    (base : Nat) (e : TypeId) (z : Value) (size bytes : Nat) (ht : P.underlying t = some (.slice e)) (hinfo : (P.info? e).map (fun i => (i.zero, i.size, i.bytes)) = some (some z, size, bytes))
    (hE : E.sz = size) (hzs : z.cells.size = size) (hsz : 0 < size) (hby : 0 < bytes)
    (v : Value) (xs : List α) (hs : a.eval s = v) (hown : E.Own e w base v xs)
    (y : α) (cs : Array Value) (hcs : cs.toList = E.c y) {N : Nat} (hN : N = w.heap.size) (hx : a.eval x = .slice (some ⟨N, 0, none⟩) 1 1)
    (hlen : (xs.length + 1) * bytes ≤ 140737488355328) (hbase : base ≤ w.heap.size)
    (h : ∀ v' w', E.Own e w' base v' (xs ++ [y]) → (w.alloc (.cells cs e)).grownBy w' v.ownBlock → wpList P ops Q rest (a.put o.dst v') w') : wpList P ops Q (o :: rest) a (w.alloc (.cells cs e)) :=
  Enc.Own.append hgd s x t ho base e z size bytes ht hinfo hE hzs hsz hby v xs hs (hown.bl ((Bl.refl _).alloc _)) _ [y] hx
    (Enc.Own.lit (E := E) w 0 [y] cs (by simpa using hcs) 1 rfl (Nat.zero_le _) (by decide) hN).is hlen (Nat.le_trans hbase ((Bl.refl w).alloc _).size) h
/-- append of one element that stands in a block of its own, draws behind -/
theorem Enc.Own.append1d {P : Program} {w : World} {ops : Array Oper} {rest : List Oper} {o : Oper} {a : Act} {Q : Exit → Act → World → Prop} (hgd : o.guard = none) (s x : Operand) (t : TypeId)
    (ho : o.op = .call { callee := .builtin .append, args := #[s, x], argTypes := #[t, t] })
    (base : Nat) (e : TypeId) (z : Value) (size bytes : Nat) (ht : P.underlying t = some (.slice e)) (hinfo : (P.info? e).map (fun i => (i.zero, i.size, i.bytes)) = some (some z, size, bytes))
    (hE : E.sz = size) (hzs : z.cells.size = size) (hsz : 0 < size) (hby : 0 < bytes)
    (v : Value) (xs : List α) (hs : a.eval s = v) (hown : E.Own e w base v xs)
    (y : α) (cs : Array Value) (hcs : cs.toList = E.c y) {N : Nat} (hN : N = w.heap.size) (hx : a.eval x = .slice (some ⟨N, 0, none⟩) 1 1)
    (hlen : (xs.length + 1) * bytes ≤ 140737488355328) (hbase : base ≤ w.heap.size)
    (m : Nat) (h : ∀ v' w', E.Own e w' base v' (xs ++ [y]) → ((w.alloc (.cells cs e)).drewN m).grownBy w' v.ownBlock → wpList P ops Q rest (a.put o.dst v') w') : wpList P ops Q (o :: rest) a ((w.alloc (.cells cs e)).drewN m) :=
  Enc.Own.append hgd s x t ho base e z size bytes ht hinfo hE hzs hsz hby v xs hs (hown.bl (((Bl.refl _).alloc _).drewN _)) _ [y] hx
    ((Enc.Own.lit (E := E) w 0 [y] cs (by simpa using hcs) 1 rfl (Nat.zero_le _) (by decide) hN).is.bl ((Bl.refl _).drewN m)) hlen (Nat.le_trans hbase ((Bl.refl w).alloc _).size) h
end

theorem Enc.At.lit {α : Type} {E : Enc α} {e : TypeId} (w : World) (xs : List α) (cs : Array Value) (hcs : cs.toList = xs.flatMap E.c) {N : Nat} (hN : N = w.heap.size) : E.At (w.alloc (.cells cs e)) (some ⟨N, 0, none⟩) xs := fun i x hx => by
  subst hN
  refine ⟨_, rfl, fun j u hu => ?_⟩
  have h := flat_get E xs i x hx j u hu
  have hadd : (⟨w.heap.size, 0, none⟩ : Addr).add (i * E.sz + j) = ⟨w.heap.size, i * E.sz + j, none⟩ := by unfold Addr.add; split <;> simp_all
  rw [hadd, cell_of_row (w.alloc (.cells cs e)) w.heap.size _ cs e (0, 0) (heap_alloc_new w _), ← Array.getElem?_toList, hcs]
  exact h
section
variable {α : Type} {E : Enc α} {P : Program}
theorem Enc.Is.sub {w : World} {A : Option Addr} {c : Nat} {xs : List α} (h : E.Is w (.slice A xs.length c) xs) (lo hi : Nat) (h1 : lo ≤ hi) (h2 : hi ≤ xs.length) :
    E.Is w (sliced A lo hi c E.sz) ((xs.take hi).drop lo) := by
  obtain ⟨A', c', e, g1, g2, g3, g4⟩ := h
  simp at e
  obtain ⟨rfl, rfl⟩ := e
  have hl : ((xs.take hi).drop lo).length = hi - lo := by rw [List.length_drop, List.length_take]; omega
  unfold sliced
  by_cases hc : c = lo
  · have hz : hi - lo = 0 := by omega
    rw [hz] at hl
    have hnil : (xs.take hi).drop lo = [] := List.eq_nil_of_length_eq_zero hl
    rw [hnil, hz, if_pos hc]
    exact ⟨A, _, rfl, by simp, by omega, fun h => by have := g3 h; omega, Enc.At.nil _ _⟩
  · rw [if_neg hc]
    refine ⟨_, _, by rw [hl], by rw [hl]; omega, by omega, fun h => ?_, fun i x hx => ?_⟩
    · cases A with
      | none => have := g3 rfl; omega
      | some a => simp at h
    · rw [List.getElem?_drop, List.getElem?_take] at hx
      split at hx
      · obtain ⟨ad, rfl, hq⟩ := g4 (lo + i) x hx
        refine ⟨ad.add (lo * E.sz), rfl, fun j u hu => ?_⟩
        have := hq j u hu
        rw [Nat.add_mul, Nat.add_assoc] at this
        rw [show (ad.add (lo * E.sz)).add (i * E.sz + j) = ad.add (lo * E.sz + (i * E.sz + j)) from ?_]
        · exact this
        · unfold Addr.add; split <;> split <;> simp_all [Nat.add_assoc]
      · cases hx

/-- 'x[lo:hi]', 'x[lo:]', 'x[:hi]': what the operation gives, under one name, in whatever world -/
theorem slice_lh {t : TypeId} (ht : P.underlying t = some (.slice (P.elem t))) (hs : ∀ w, (sizeOf (P.elem t)).run P w = .ok E.sz w) (A : Option Addr) (c : Nat) (xs : List α) (lo hi : Int) (h0 : 0 ≤ lo) (h1 : lo ≤ hi) (h2 : hi ≤ xs.length) (hc : xs.length ≤ c) :
    ∃ V, (∀ w, (Instr.slice t (.slice A xs.length c) (some (.int .i64 lo)) (some (.int .i64 hi)) none).run P w = .ok V w) ∧ ∀ w, E.Is w (.slice A xs.length c) xs → E.Is w V ((xs.take hi.toNat).drop lo.toNat) :=
  ⟨sliced A lo.toNat hi.toNat c E.sz, fun w => by rw [run_slice_lh w t A xs.length c ht .i64 .i64 lo hi h0 h1 (by omega), hs, Result.andThen_ok], fun _ h => h.sub _ _ (by omega) (by omega)⟩
theorem slice_l {t : TypeId} (ht : P.underlying t = some (.slice (P.elem t))) (hs : ∀ w, (sizeOf (P.elem t)).run P w = .ok E.sz w) (A : Option Addr) (c : Nat) (xs : List α) (lo : Int) (h0 : 0 ≤ lo) (h1 : lo ≤ xs.length) :
    ∃ V, (∀ w, (Instr.slice t (.slice A xs.length c) (some (.int .i64 lo)) none none).run P w = .ok V w) ∧ ∀ w, E.Is w (.slice A xs.length c) xs → E.Is w V (xs.drop lo.toNat) :=
  ⟨sliced A lo.toNat xs.length c E.sz, fun w => by rw [run_slice_l w t A xs.length c ht .i64 lo h0 h1, hs, Result.andThen_ok], fun _ h => by have := h.sub lo.toNat xs.length (by omega) (Nat.le_refl _); rwa [List.take_length] at this⟩
theorem slice_h {t : TypeId} (ht : P.underlying t = some (.slice (P.elem t))) (hs : ∀ w, (sizeOf (P.elem t)).run P w = .ok E.sz w) (A : Option Addr) (c : Nat) (xs : List α) (hi : Int) (h0 : 0 ≤ hi) (h2 : hi ≤ xs.length) (hc : xs.length ≤ c) :
    ∃ V, (∀ w, (Instr.slice t (.slice A xs.length c) none (some (.int .i64 hi)) none).run P w = .ok V w) ∧ ∀ w, E.Is w (.slice A xs.length c) xs → E.Is w V (xs.take hi.toNat) :=
  ⟨sliced A 0 hi.toNat c E.sz, fun w => by rw [run_slice_h w t A xs.length c ht .i64 hi h0 (by omega), hs, Result.andThen_ok], fun _ h => by have := h.sub 0 hi.toNat (Nat.zero_le _) (by omega); rwa [List.drop_zero] at this⟩
end

theorem int_at {w : World} {A : Option Addr} {xs : List Int} (h : intE.At w A xs) (k : Nat) (hk : k < xs.length) : ∃ ad, A = some ad ∧ w.cell? (ad.add k) = some (.int .i64 xs[k]) := by
  obtain ⟨ad, e, hc⟩ := h k _ (List.getElem?_eq_getElem hk)
  refine ⟨ad, e, ?_⟩
  have := hc 0 _ rfl
  rwa [Nat.add_zero, show intE.sz = 1 from rfl, Nat.mul_one] at this
theorem head_at {w : World} {A : Option Addr} {xs : List Head} (h : headE.At w A xs) (k : Nat) (hk : k < xs.length) : ∃ ad, A = some ad ∧ w.cell? (ad.add k) = some xs[k].v := by
  obtain ⟨ad, e, hc⟩ := h k _ (List.getElem?_eq_getElem hk)
  refine ⟨ad, e, ?_⟩
  have := hc 0 _ rfl
  rwa [Nat.add_zero, show headE.sz = 1 from rfl, Nat.mul_one] at this

/-- rows of numbers -/
def IRows (w : World) (hs : List Head) (ls : List (List Int)) : Prop := hs.length = ls.length ∧ ∀ (i : Nat) h l, hs[i]? = some h → ls[i]? = some l → h.n = l.length ∧ l.length ≤ h.cap ∧ h.cap ≤ maxLen ∧ (h.A = none → h.cap = 0) ∧ intE.At w h.A l
theorem IRows.bl {w w' : World} {hs : List Head} {ls : List (List Int)} (h : IRows w hs ls) (hb : Bl w w') : IRows w' hs ls := ⟨h.1, fun i x l hx hl => by
  obtain ⟨a1, a2, a3, a4, a5⟩ := h.2 i x l hx hl; exact ⟨a1, a2, a3, a4, a5.bl hb⟩⟩
theorem IRows.nil (w : World) : IRows w [] [] := ⟨rfl, fun i h l hh => by simp at hh⟩
theorem IRows.cons {w : World} {hs : List Head} {ls : List (List Int)} {A : Option Addr} {n c : Nat} {l : List Int} (hn : n = l.length) (hc : l.length ≤ c) (hm : c ≤ maxLen) (h0 : A = none → c = 0) (hA : intE.At w A l) (h : IRows w hs ls) : IRows w (⟨A, n, c⟩ :: hs) (l :: ls) := by
  refine ⟨by simp [h.1], fun i x y hx hy => ?_⟩
  cases i with
  | zero => simp at hx hy; subst hx; subst hy; exact ⟨hn, hc, hm, h0, hA⟩
  | succ i => simp at hx hy; exact h.2 i x y hx hy
end Go.Ov

/- Extents as data: the model's rows of extents, the document's functions on them. No program in sight. -/
namespace Go.Ov
open Go.RowKit

structure Ext where
  at_ : Int
  sector : Int
  count : Int
  skip : Int
  take : Int
  deriving DecidableEq

def Ext.vals (e : Ext) : List Value := [.int .i64 e.at_, .int .i64 e.sector, .int .i64 e.count, .int .i64 e.skip, .int .i64 e.take]
def Ext.v (e : Ext) : Value := .agg #[.int .i64 e.at_, .int .i64 e.sector, .int .i64 e.count, .int .i64 e.skip, .int .i64 e.take]
def extE : Enc Ext := ⟨5, Ext.vals, fun _ => rfl, fun x u h => by simp [Ext.vals] at h; rcases h with rfl | rfl | rfl | rfl | rfl <;> rfl⟩
instance : Inhabited Ext := ⟨⟨0, 0, 0, 0, 0⟩⟩

theorem add_at (ad : Addr) (m j : Nat) (hj : 0 < j) : ad.add (m + j) = ⟨(ad.add m).block, (ad.add m).off + j, none⟩ := by
  unfold Addr.add
  rw [if_neg (by omega)]
  split
  · rename_i h; subst h; simp
  · simp [Nat.add_assoc]

theorem ext_at {w : World} {A : Option Addr} {xs : List Ext} (h : extE.At w A xs) (k : Nat) (hk : k < xs.length) :
    ∃ ad, A = some ad ∧ w.cell? (ad.add (k * 5)) = some (.int .i64 xs[k].at_) ∧ w.cell? ⟨(ad.add (k * 5)).block, (ad.add (k * 5)).off + 1, none⟩ = some (.int .i64 xs[k].sector) ∧
      w.cell? ⟨(ad.add (k * 5)).block, (ad.add (k * 5)).off + 2, none⟩ = some (.int .i64 xs[k].count) ∧ w.cell? ⟨(ad.add (k * 5)).block, (ad.add (k * 5)).off + 3, none⟩ = some (.int .i64 xs[k].skip) ∧
      w.cell? ⟨(ad.add (k * 5)).block, (ad.add (k * 5)).off + 4, none⟩ = some (.int .i64 xs[k].take) := by
  obtain ⟨ad, e, hc⟩ := h k _ (List.getElem?_eq_getElem hk)
  refine ⟨ad, e, ?_, ?_, ?_, ?_, ?_⟩
  · exact hc 0 _ rfl
  · rw [← add_at _ _ 1 (by decide)]; exact hc 1 _ rfl
  · rw [← add_at _ _ 2 (by decide)]; exact hc 2 _ rfl
  · rw [← add_at _ _ 3 (by decide)]; exact hc 3 _ rfl
  · rw [← add_at _ _ 4 (by decide)]; exact hc 4 _ rfl

def oneB (e : Ext) : Bool := decide (1 ≤ e.sector) && decide (e.sector < 4096) && decide (e.count ≤ 64) && decide (0 ≤ e.skip) && decide (e.skip < e.count) && decide (1 ≤ e.take) && decide (e.take ≤ e.count - e.skip)
/-- a row from a place on -/
def validFrom (at_ : Int) : List Ext → Bool
  | [] => true
  | e :: l => oneB e && (e.at_ == at_) && decide (e.take ≤ 1000 - at_) && validFrom (at_ + e.take) l
def shiftE (by_ : Int) (e : Ext) : Ext := ⟨wrap64 (e.at_ + by_), e.sector, e.count, e.skip, e.take⟩
def shiftM (by_ : Int) (l : List Ext) : List Ext := l.map (shiftE by_)
/-- an extent's part from a to b -/
def cutE (a b : Int) (e : Ext) : List Ext :=
  if max e.at_ a < min (wrap64 (e.at_ + e.take)) b then [⟨max e.at_ a, e.sector, e.count, wrap64 (wrap64 (e.skip + max e.at_ a) - e.at_), wrap64 (min (wrap64 (e.at_ + e.take)) b - max e.at_ a)⟩] else []
def cutM (a b : Int) (l : List Ext) : List Ext := l.flatMap (cutE a b)
theorem cutE_len (a b : Int) (e : Ext) : (cutE a b e).length ≤ 1 := by unfold cutE; split <;> simp
def endM (l : List Ext) : Int := (l.map Ext.take).sum

theorem validFrom_bd : ∀ (l : List Ext) (a : Int), a ≤ 1000 → validFrom a l = true → (l.length : Int) ≤ endM l ∧ a + endM l ≤ 1000
  | [], a, h, _ => by simp [endM]; exact h
  | e :: l, a, h, hv => by
    simp only [validFrom, Bool.and_eq_true, decide_eq_true_eq] at hv
    obtain ⟨⟨⟨h1, _⟩, h3⟩, h4⟩ := hv
    have := validFrom_bd l (a + e.take) (by omega) h4
    have ht : 1 ≤ e.take := by simp [oneB] at h1; omega
    simp only [endM, List.map_cons, List.sum_cons, List.length_cons] at this ⊢
    omega
theorem flat1_len {α β : Type} (f : α → List β) (hf : ∀ x, (f x).length ≤ 1) : ∀ l : List α, (l.flatMap f).length ≤ l.length
  | [] => by simp
  | x :: l => by rw [List.flatMap_cons, List.length_append, List.length_cons]; have := flat1_len f hf l; have := hf x; omega
theorem cutM_len (a b : Int) (l : List Ext) : (cutM a b l).length ≤ l.length := flat1_len _ (cutE_len a b) l
theorem shiftM_len (b : Int) (l : List Ext) : (shiftM b l).length = l.length := List.length_map ..

/-- which error a splice has (0: none) -/
def spliceBad (l : List Ext) (fr tt : Int) (new : List Ext) : Bool := !validFrom 0 new || decide (fr < 0) || decide (tt < fr) || decide (endM l < fr)
def spliceL (l : List Ext) (fr tt : Int) (new : List Ext) : List Ext :=
  (cutM 0 fr l ++ shiftM fr new) ++ shiftM (fr + endM new - min tt (endM l)) (cutM (min tt (endM l)) (endM l) l)
def spliceLong (l : List Ext) (fr tt : Int) (new : List Ext) : Bool := decide (1000 < fr + endM new + endM l - min tt (endM l))
def spliceM (l : List Ext) (fr tt : Int) (new : List Ext) : List Ext × Int :=
  if spliceBad l fr tt new then ([], 1) else if spliceLong l fr tt new then ([], 4) else (spliceL l fr tt new, 0)

def rowGo (a : Int) : List Ext → List Ext
  | [] => []
  | e :: l =>
    if 1000 - a < 1 + within e.take (1 + within e.count 64 - within e.skip (1 + within e.count 64)) then []
    else ⟨a, 1 + within e.sector 4095, 1 + within e.count 64, within e.skip (1 + within e.count 64), 1 + within e.take (1 + within e.count 64 - within e.skip (1 + within e.count 64))⟩ ::
      rowGo (a + (1 + within e.take (1 + within e.count 64 - within e.skip (1 + within e.count 64)))) l
def rowM (l : List Ext) (most : Nat) : List Ext := rowGo 0 (l.take most)
theorem rowGo_valid : ∀ (l : List Ext) (a : Int), validFrom a (rowGo a l) = true
  | [], _ => rfl
  | e :: l, a => by
    unfold rowGo
    split
    · rfl
    · rename_i h
      have h1 := within_bd e.count 64 (by decide)
      have h2 := within_bd e.skip (1 + within e.count 64) (by omega)
      have h3 := within_bd e.take (1 + within e.count 64 - within e.skip (1 + within e.count 64)) (by omega)
      have h4 := within_bd e.sector 4095 (by decide)
      simp only [validFrom, rowGo_valid l _, Bool.and_true, beq_self_eq_true, Bool.and_eq_true, decide_eq_true_eq]
      refine ⟨?_, by omega⟩
      simp [oneB]; omega
theorem rowM_valid (l : List Ext) (m : Nat) : validFrom 0 (rowM l m) = true := rowGo_valid _ _
theorem rowGo_len : ∀ (l : List Ext) (a : Int), (rowGo a l).length ≤ l.length
  | [], _ => Nat.le_refl _
  | e :: l, a => by
    unfold rowGo
    split
    · exact Nat.zero_le _
    · simp only [List.length_cons]; have := rowGo_len l (a + (1 + within e.take (1 + within e.count 64 - within e.skip (1 + within e.count 64)))); omega
theorem rowM_len (l : List Ext) (m : Nat) : (rowM l m).length ≤ m := Nat.le_trans (rowGo_len _ _) (by rw [List.length_take]; omega)
end Go.Ov

/- Trees as data: nodes, the tree over a row; how they lie in memory. No program in sight. -/
namespace Go.Ov
open Go.RowKit

inductive NodeM where
  | mk (leaf : List Ext) (first : List Int) (parts : List NodeM)
def NodeM.nil : NodeM := .mk [] [] []
instance : Inhabited NodeM := ⟨.nil⟩
def NodeM.leaf : NodeM → List Ext | .mk l _ _ => l
def NodeM.firsts : NodeM → List Int | .mk _ f _ => f
def NodeM.parts : NodeM → List NodeM | .mk _ _ p => p
/-- the sample at which a node begins -/
def NodeM.first1 : NodeM → Int
  | .mk [] _ [] => 0
  | .mk (e :: _) _ [] => e.at_
  | .mk _ _ (p :: _) => p.first1
def NodeM.hasFirst : NodeM → Bool
  | .mk l _ [] => !l.isEmpty
  | .mk _ _ (p :: _) => p.hasFirst
mutual
def NodeM.count : NodeM → Nat
  | .mk _ _ p => 1 + countL p
def countL : List NodeM → Nat
  | [] => 0
  | n :: l => n.count + countL l
end
theorem count_mk (l : List Ext) (f : List Int) (p : List NodeM) : (NodeM.mk l f p).count = 1 + countL p := by simp [NodeM.count]
theorem first1_cons (l : List Ext) (f : List Int) (x : NodeM) (p : List NodeM) : (NodeM.mk l f (x :: p)).first1 = x.first1 := by cases l <;> simp [NodeM.first1]
theorem countL_cons (x : NodeM) (p : List NodeM) : countL (x :: p) = x.count + countL p := by simp [countL]
theorem count_mem : ∀ (l : List NodeM) (i : Nat) (h : i < l.length), l[i].count ≤ countL l
  | n :: l, 0, _ => by simp [countL]
  | n :: l, i + 1, h => by
    have := count_mem l i (by simpa using h)
    simp [countL]; omega
theorem countL_take : ∀ (l : List NodeM) (k : Nat) (h : k < l.length), countL (l.take (k + 1)) = countL (l.take k) + l[k].count
  | n :: l, 0, _ => by simp [countL]
  | n :: l, k + 1, h => by
    have := countL_take l k (by simpa using h)
    simp [countL, this]; omega
theorem countL_append : ∀ (a b : List NodeM), countL (a ++ b) = countL a + countL b
  | [], b => by simp [countL]
  | n :: a, b => by simp [countL, countL_append a b]; omega
theorem countL_le (l : List NodeM) (k : Nat) : countL (l.take k) ≤ countL l := by
  have := countL_append (l.take k) (l.drop k)
  rw [List.take_append_drop] at this; omega

/-- cut into groups -/
def preM (n g i : Nat) : Nat := i * (n / g) + min i (n % g)
def sizeM (n g i : Nat) : Nat := n / g + if i < n % g then 1 else 0
def grp (n : Nat) : Nat := (n + 7) / 8
theorem preM_zero (n g : Nat) : preM n g 0 = 0 := by simp [preM]
theorem preM_succ (n g i : Nat) : preM n g (i + 1) = preM n g i + sizeM n g i := by
  unfold preM sizeM
  rw [Nat.succ_mul]
  split <;> omega
theorem preM_all (n g : Nat) (hg : 0 < g) : preM n g g = n := by
  unfold preM
  have := Nat.mod_lt n hg
  have := Nat.div_add_mod n g
  rw [Nat.min_eq_right (by omega)]; exact this
theorem preM_mono (n g i j : Nat) (h : i ≤ j) : preM n g i ≤ preM n g j := by
  unfold preM
  have := Nat.mul_le_mul_right (n / g) h
  omega
theorem preM_le (n g i : Nat) (h : i ≤ g) : preM n g i ≤ n := by
  rcases Nat.eq_zero_or_pos g with rfl | hg
  · have : i = 0 := by omega
    subst this; rw [preM_zero]; omega
  · have := preM_mono n g i g h
    rw [preM_all n g hg] at this; exact this
theorem preM_size (n g i : Nat) (h : i < g) : preM n g i + sizeM n g i ≤ n := by
  rw [← preM_succ]; exact preM_le n g (i + 1) h
theorem size_pos (n g i : Nat) (hg : 0 < g) (h : g ≤ n) : 1 ≤ sizeM n g i := by
  have : 1 ≤ n / g := by rw [Nat.le_div_iff_mul_le hg]; omega
  unfold sizeM; omega
theorem size_le (n g i : Nat) (hg : 0 < g) (h : n ≤ g * 8) : sizeM n g i ≤ 8 := by
  unfold sizeM
  have h1 := Nat.div_add_mod n g
  have h2 := Nat.mod_lt n hg
  by_cases h8 : n / g < 8
  · split <;> omega
  · have : g * 8 ≤ g * (n / g) := Nat.mul_le_mul_left g (by omega)
    have h3 : n / g ≤ 8 := by
      by_cases h9 : n / g ≤ 8
      · exact h9
      · have : g * 9 ≤ g * (n / g) := Nat.mul_le_mul_left g (by omega)
        omega
    have : n % g = 0 := by omega
    rw [this, if_neg (by omega)]; omega
def partM {α : Type} (l : List α) (g i : Nat) : List α := (l.drop (preM l.length g i)).take (sizeM l.length g i)
theorem partM_len {α : Type} (l : List α) (g i : Nat) (h : i < g) : (partM l g i).length = sizeM l.length g i := by
  have := preM_size l.length g i h
  unfold partM; rw [List.length_take, List.length_drop]; omega
theorem grp_le (n : Nat) (h : 1 < n) : grp n < n := by unfold grp; omega
def leafM (l : List Ext) (i : Nat) : NodeM := .mk (partM l (grp l.length) i) [] []
def leavesM (l : List Ext) : List NodeM := (List.range (grp l.length)).map (leafM l)
def nodeM (r : List NodeM) (i : Nat) : NodeM := .mk [] ((partM r (grp r.length) i).map NodeM.first1) (partM r (grp r.length) i)
def upM (r : List NodeM) : List NodeM := (List.range (grp r.length)).map (nodeM r)
theorem upM_len (r : List NodeM) : (upM r).length = grp r.length := by simp [upM]
theorem leavesM_len (l : List Ext) : (leavesM l).length = grp l.length := by simp [leavesM]
def topM (r : List NodeM) : NodeM := if _h : 1 < r.length then topM (upM r) else r.headD .nil
  termination_by r.length
  decreasing_by rw [upM_len]; exact grp_le _ _h
def madeM (l : List Ext) : NodeM := topM (leavesM l)
theorem topM_up (r : List NodeM) (h : 1 < r.length) : topM r = topM (upM r) := by
  conv => lhs; unfold topM
  rw [dif_pos h]
theorem topM_one (r : List NodeM) (h : ¬ 1 < r.length) : topM r = r.headD .nil := by
  unfold topM
  rw [dif_neg h]

theorem part_first (r : List NodeM) (g i : Nat) (hi : i < g) (hg : g ≤ r.length) (h : ∀ x ∈ r, x.hasFirst = true) :
    (∀ x ∈ partM r g i, x.hasFirst = true) ∧ ∃ x p, partM r g i = x :: p := by
  constructor
  · intro x hx
    exact h x (List.mem_of_mem_drop (List.mem_of_mem_take hx))
  · have h1 := partM_len r g i hi
    have h2 := size_pos r.length g i (by omega) hg
    cases e : partM r g i with
    | nil => rw [e] at h1; simp at h1; omega
    | cons x p => exact ⟨x, p, rfl⟩
theorem leaves_first (l : List Ext) : ∀ x ∈ leavesM l, x.hasFirst = true := by
  intro x hx
  unfold leavesM at hx
  obtain ⟨i, hi, rfl⟩ := List.mem_map.1 hx
  have hi' : i < grp l.length := by simpa using hi
  have h1 := partM_len l (grp l.length) i hi'
  have h2 := size_pos l.length (grp l.length) i (by omega) (by unfold grp at *; omega)
  unfold leafM NodeM.hasFirst
  cases e : partM l (grp l.length) i with
  | nil => rw [e] at h1; simp at h1; omega
  | cons x p => rfl
theorem up_first (r : List NodeM) (h : ∀ x ∈ r, x.hasFirst = true) : ∀ x ∈ upM r, x.hasFirst = true := by
  intro x hx
  unfold upM at hx
  obtain ⟨i, hi, rfl⟩ := List.mem_map.1 hx
  have hi' : i < grp r.length := by simpa using hi
  obtain ⟨h1, y, p, e⟩ := part_first r (grp r.length) i hi' (by unfold grp at *; omega) h
  unfold nodeM
  rw [e]
  unfold NodeM.hasFirst
  exact h1 y (by rw [e]; simp)

/-- how a node lies: three slices' heads -/
structure NH where
  a : Head
  b : Head
  c : Head
def NH.v (h : NH) : Value := .agg #[h.a.v, h.b.v, h.c.v]
def nodeE : Enc NH := ⟨3, fun n => [n.a.v, n.b.v, n.c.v], fun _ => rfl, fun x u h => by simp at h; rcases h with rfl | rfl | rfl <;> rfl⟩
inductive NodeR (w : World) : NodeM → NH → Prop
  | mk (l : List Ext) (f : List Int) (p : List NodeM) (a b c : Head) (hs : List NH) : extE.Is w a.v l → intE.Is w b.v f → nodeE.Is w c.v hs → hs.length = p.length →
      (∀ (i : Nat) (x : NodeM) (h : NH), p[i]? = some x → hs[i]? = some h → NodeR w x h) → NodeR w (.mk l f p) ⟨a, b, c⟩
def NRows (w : World) (hs : List NH) (ns : List NodeM) : Prop := hs.length = ns.length ∧ ∀ (i : Nat) (x : NodeM) (h : NH), ns[i]? = some x → hs[i]? = some h → NodeR w x h
theorem NodeR.bl {w w' : World} {n : NodeM} {h : NH} (hr : NodeR w n h) (hb : Bl w w') : NodeR w' n h := by
  induction hr with
  | mk l f p a b c hs h1 h2 h3 h4 _ ih => exact .mk l f p a b c hs (h1.bl hb) (h2.bl hb) (h3.bl hb) h4 ih
theorem NodeR.inv {w : World} {l : List Ext} {f : List Int} {p : List NodeM} {h : NH} (hr : NodeR w (.mk l f p) h) :
    extE.Is w h.a.v l ∧ intE.Is w h.b.v f ∧ ∃ hs, nodeE.Is w h.c.v hs ∧ NRows w hs p := by
  cases hr with
  | mk _ _ _ a b c hs h1 h2 h3 h4 h5 => exact ⟨h1, h2, hs, h3, h4, h5⟩
theorem NodeR.mk' {w : World} {l : List Ext} {f : List Int} {p : List NodeM} {h : NH} {hs : List NH} (h1 : extE.Is w h.a.v l) (h2 : intE.Is w h.b.v f) (h3 : nodeE.Is w h.c.v hs) (h4 : NRows w hs p) : NodeR w (.mk l f p) h := by
  obtain ⟨a, b, c⟩ := h
  exact .mk l f p a b c hs h1 h2 h3 h4.1 h4.2
theorem NRows.bl {w w' : World} {hs : List NH} {ns : List NodeM} (h : NRows w hs ns) (hb : Bl w w') : NRows w' hs ns := ⟨h.1, fun i x y hx hy => (h.2 i x y hx hy).bl hb⟩
theorem NRows.nil (w : World) : NRows w [] [] := ⟨rfl, fun i x h hx => by simp at hx⟩
theorem NRows.snoc {w : World} {hs : List NH} {ns : List NodeM} {h : NH} {n : NodeM} (hr : NRows w hs ns) (hn : NodeR w n h) : NRows w (hs ++ [h]) (ns ++ [n]) := by
  refine ⟨by simp [hr.1], fun i x y hx hy => ?_⟩
  by_cases hi : i < ns.length
  · rw [List.getElem?_append_left hi] at hx
    rw [List.getElem?_append_left (by rw [hr.1]; exact hi)] at hy
    exact hr.2 i x y hx hy
  · have hl := hr.1
    rw [List.getElem?_append_right (by omega)] at hx
    rw [List.getElem?_append_right (by omega), hl] at hy
    obtain ⟨hx1, hx2⟩ := List.getElem?_eq_some_iff.1 hx
    obtain ⟨hy1, hy2⟩ := List.getElem?_eq_some_iff.1 hy
    have hz : i - ns.length = 0 := by simp at hx1; omega
    simp [hz] at hx2 hy2
    subst hx2; subst hy2; exact hn
theorem NRows.drop {w : World} {hs : List NH} {ns : List NodeM} (hr : NRows w hs ns) (k : Nat) : NRows w (hs.drop k) (ns.drop k) :=
  ⟨by simp [hr.1], fun i x y hx hy => hr.2 (k + i) x y (by rw [List.getElem?_drop] at hx; exact hx) (by rw [List.getElem?_drop] at hy; exact hy)⟩
theorem NRows.take {w : World} {hs : List NH} {ns : List NodeM} (hr : NRows w hs ns) (k : Nat) : NRows w (hs.take k) (ns.take k) := by
  refine ⟨by simp [hr.1], fun i x y hx hy => ?_⟩
  rw [List.getElem?_take] at hx hy
  split at hx
  · rename_i hi
    rw [if_pos hi] at hy
    exact hr.2 i x y hx hy
  · cases hx
theorem NRows.at {w : World} {hs : List NH} {ns : List NodeM} (hr : NRows w hs ns) (k : Nat) (h : k < ns.length) : ∃ h' : k < hs.length, NodeR w ns[k] hs[k] :=
  ⟨by rw [hr.1]; exact h, hr.2 k _ _ (List.getElem?_eq_getElem h) (List.getElem?_eq_getElem _)⟩

theorem node_at {w : World} {A : Option Addr} {xs : List NH} (h : nodeE.At w A xs) (k : Nat) (hk : k < xs.length) :
    ∃ ad, A = some ad ∧ w.cell? (ad.add (k * 3)) = some xs[k].a.v ∧ w.cell? ⟨(ad.add (k * 3)).block, (ad.add (k * 3)).off + 1, none⟩ = some xs[k].b.v ∧
      w.cell? ⟨(ad.add (k * 3)).block, (ad.add (k * 3)).off + 2, none⟩ = some xs[k].c.v := by
  obtain ⟨ad, e, hc⟩ := h k _ (List.getElem?_eq_getElem hk)
  refine ⟨ad, e, ?_, ?_, ?_⟩
  · exact hc 0 _ rfl
  · rw [← add_at _ _ 1 (by decide)]; exact hc 1 _ rfl
  · rw [← add_at _ _ 2 (by decide)]; exact hc 2 _ rfl

theorem add0 (ad : Addr) : ad.add 0 = ad := by unfold Addr.add; simp
theorem ext_at0 {w : World} {A : Option Addr} {xs : List Ext} (h : extE.At w A xs) (hk : 0 < xs.length) : ∃ ad, A = some ad ∧ w.cell? ad = some (.int .i64 xs[0].at_) := by
  obtain ⟨ad, e, hc, _⟩ := ext_at h 0 hk
  rw [Nat.zero_mul, add0] at hc
  exact ⟨ad, e, hc⟩
theorem node_at0 {w : World} {A : Option Addr} {xs : List NH} (h : nodeE.At w A xs) (hk : 0 < xs.length) :
    ∃ ad, A = some ad ∧ w.cell? ad = some xs[0].a.v ∧ w.cell? ⟨ad.block, ad.off + 1, none⟩ = some xs[0].b.v ∧ w.cell? ⟨ad.block, ad.off + 2, none⟩ = some xs[0].c.v := by
  obtain ⟨ad, e, hc⟩ := node_at h 0 hk
  rw [Nat.zero_mul, add0] at hc
  exact ⟨ad, e, hc⟩

structure TreeM where
  row : List Ext
  top : NodeM
def treeM (l : List Ext) : TreeM := ⟨l, madeM l⟩
def TreeIs (w : World) (v : Value) (t : TreeM) : Prop := ∃ (b : Nat) (u : Head) (h : NH), v = .pointer (some ⟨b, 0, none⟩) ∧ w.cell? ⟨b, 0, none⟩ = some u.v ∧ w.cell? ⟨b, 1, none⟩ = some h.a.v ∧
  w.cell? ⟨b, 2, none⟩ = some h.b.v ∧ w.cell? ⟨b, 3, none⟩ = some h.c.v ∧ extE.Is w u.v t.row ∧ NodeR w t.top h
theorem TreeIs.bl {w w' : World} {v : Value} {t : TreeM} (h : TreeIs w v t) (hb : Bl w w') : TreeIs w' v t := by
  obtain ⟨b, u, n, e, h0, h1, h2, h3, h4, h5⟩ := h
  exact ⟨b, u, n, e, hb.cell h0, hb.cell h1, hb.cell h2, hb.cell h3, h4.bl hb, h5.bl hb⟩
end Go.Ov

/- Rows of extents, sample by sample: cut, shifted, spliced rows. No program in sight. -/
namespace Go.Ov
open Go.RowKit

def spotE (e : Ext) : List (Int × Int) := (List.range e.take.toNat).map fun k => (e.sector, e.skip + (k : Nat))
def spotsM (l : List Ext) : List (Int × Int) := l.flatMap spotE

theorem range_cut {β : Type} (f : Nat → β) (n p q : Nat) : (((List.range n).map f).drop p).take q = (List.range (min (n - p) q)).map fun k => f (p + k) := by
  apply List.ext_getElem
  · simp; omega
  · intro i h1 h2
    simp at h1 h2 ⊢

/-- what a valid row's first extent tells -/
theorem valid_cons {a : Int} {e : Ext} {l : List Ext} (h : validFrom a (e :: l) = true) :
    e.at_ = a ∧ 1 ≤ e.sector ∧ e.sector < 4096 ∧ e.count ≤ 64 ∧ 0 ≤ e.skip ∧ e.skip < e.count ∧ 1 ≤ e.take ∧ e.take ≤ e.count - e.skip ∧ a + e.take ≤ 1000 ∧ validFrom (a + e.take) l = true := by
  simp only [validFrom, oneB, Bool.and_eq_true, decide_eq_true_eq, beq_iff_eq] at h
  obtain ⟨⟨⟨h1, h2⟩, h3⟩, h4⟩ := h
  exact ⟨h2, h1.1.1.1.1.1.1, h1.1.1.1.1.1.2, h1.1.1.1.1.2, h1.1.1.1.2, h1.1.1.2, h1.1.2, h1.2, by omega, h4⟩
theorem valid_mk {a : Int} {e : Ext} {l : List Ext} (h0 : e.at_ = a) (h1 : 1 ≤ e.sector) (h2 : e.sector < 4096) (h3 : e.count ≤ 64) (h4 : 0 ≤ e.skip) (h5 : e.skip < e.count) (h6 : 1 ≤ e.take) (h7 : e.take ≤ e.count - e.skip)
    (h8 : a + e.take ≤ 1000) (h9 : validFrom (a + e.take) l = true) : validFrom a (e :: l) = true := by
  simp only [validFrom, oneB, h9, Bool.and_true, Bool.and_eq_true, decide_eq_true_eq, beq_iff_eq]
  exact ⟨⟨⟨⟨⟨⟨⟨⟨h1, h2⟩, h3⟩, h4⟩, h5⟩, h6⟩, h7⟩, h0⟩, by omega⟩

theorem endM_cons (e : Ext) (l : List Ext) : endM (e :: l) = e.take + endM l := rfl
theorem endM_append (l m : List Ext) : endM (l ++ m) = endM l + endM m := by unfold endM; rw [List.map_append, List.sum_append]
theorem spotsM_append (l m : List Ext) : spotsM (l ++ m) = spotsM l ++ spotsM m := by unfold spotsM; rw [List.flatMap_append]
theorem spotsM_cons (e : Ext) (l : List Ext) : spotsM (e :: l) = spotE e ++ spotsM l := by unfold spotsM; rw [List.flatMap_cons]
theorem spotE_len (e : Ext) : (spotE e).length = e.take.toNat := by simp [spotE]
theorem spotsM_len : ∀ (l : List Ext) (a : Int), validFrom a l = true → ((spotsM l).length : Int) = endM l
  | [], _, _ => rfl
  | e :: l, a, h => by
    obtain ⟨_, _, _, _, _, _, h6, _, _, h9⟩ := valid_cons h
    have := spotsM_len l _ h9
    rw [spotsM_cons, List.length_append, spotE_len, endM_cons]; omega
theorem valid_append : ∀ (l m : List Ext) (a : Int), validFrom a (l ++ m) = (validFrom a l && validFrom (a + endM l) m)
  | [], m, a => by simp [validFrom, endM]
  | e :: l, m, a => by
    rw [List.cons_append, validFrom, validFrom, valid_append l m, endM_cons, Int.add_assoc]
    simp only [Bool.and_assoc]
theorem valid_bd (l : List Ext) (a : Int) (ha : a ≤ 1000) (h : validFrom a l = true) : 0 ≤ endM l ∧ a + endM l ≤ 1000 := by
  have := validFrom_bd l a ha h; omega

/-- no wrap in a shift -/
theorem shift_valid : ∀ (l : List Ext) (a b : Int), 0 ≤ a + b → a + b + endM l ≤ 1000 → 0 ≤ a → a ≤ 1000 → validFrom a l = true → validFrom (a + b) (shiftM b l) = true
  | [], _, _, _, _, _, _, _ => rfl
  | e :: l, a, b, h0, h1, ha, ha', hv => by
    obtain ⟨e0, e1, e2, e3, e4, e5, e6, e7, e8, e9⟩ := valid_cons hv
    rw [endM_cons] at h1
    have hb := valid_bd l _ e8 e9
    have ih := shift_valid l (a + e.take) b (by omega) (by omega) (by omega) e8 e9
    have hw : wrap64 (e.at_ + b) = a + b := by rw [e0]; exact wrap_id (by omega) (by omega)
    show validFrom (a + b) (shiftE b e :: shiftM b l) = true
    refine valid_mk (e := shiftE b e) hw e1 e2 e3 e4 e5 e6 e7 ?_ ?_
    · show a + b + e.take ≤ 1000; omega
    · show validFrom (a + b + e.take) _ = true
      rw [show a + b + e.take = a + e.take + b by omega]; exact ih
theorem spotsM_shift (b : Int) (l : List Ext) : spotsM (shiftM b l) = spotsM l := by
  unfold spotsM shiftM; rw [List.flatMap_map]; rfl
theorem endM_shift (b : Int) (l : List Ext) : endM (shiftM b l) = endM l := by
  unfold endM shiftM; rw [List.map_map]; rfl

theorem cutE_val {a : Int} {e : Ext} (x y : Int) (h0 : e.at_ = a) (ha : 0 ≤ a) (h4 : 0 ≤ e.skip) (h5 : e.skip < e.count) (h3 : e.count ≤ 64) (h6 : 1 ≤ e.take) (h8 : a + e.take ≤ 1000) :
    cutE x y e = if max a x < min (a + e.take) y then [⟨max a x, e.sector, e.count, e.skip + max a x - a, min (a + e.take) y - max a x⟩] else [] := by
  unfold cutE
  rw [h0, wrap_id (a := a + e.take) (by omega) (by omega)]
  split
  · rename_i h
    rw [wrap_id (a := e.skip + max a x) (by omega) (by omega), wrap_id (a := e.skip + max a x - a) (by omega) (by omega), wrap_id (a := min (a + e.take) y - max a x) (by omega) (by omega)]
  · rfl

theorem cut_nil : ∀ (l : List Ext) (a x y : Int), 0 ≤ a → validFrom a l = true → y ≤ max a x → cutM x y l = []
  | [], _, _, _, _, _, _ => rfl
  | e :: l, a, x, y, ha, hv, hy => by
    obtain ⟨e0, e1, e2, e3, e4, e5, e6, e7, e8, e9⟩ := valid_cons hv
    have ih := cut_nil l (a + e.take) x y (by omega) e9 (by omega)
    unfold cutM at ih ⊢
    rw [List.flatMap_cons, ih, cutE_val x y e0 ha e4 e5 e3 e6 e8, if_neg (by omega)]; rfl

theorem cut_valid : ∀ (l : List Ext) (a x y : Int), 0 ≤ a → validFrom a l = true → validFrom (max a x) (cutM x y l) = true
  | [], _, _, _, _, _ => rfl
  | e :: l, a, x, y, ha, hv => by
    obtain ⟨e0, e1, e2, e3, e4, e5, e6, e7, e8, e9⟩ := valid_cons hv
    have ih := cut_valid l (a + e.take) x y (by omega) e9
    show validFrom (max a x) (cutE x y e ++ cutM x y l) = true
    rw [cutE_val x y e0 ha e4 e5 e3 e6 e8]
    split
    · rename_i h
      rw [List.singleton_append]
      refine valid_mk (e := ⟨max a x, e.sector, e.count, e.skip + max a x - a, min (a + e.take) y - max a x⟩) rfl e1 e2 e3 ?_ ?_ ?_ ?_ ?_ ?_
      all_goals dsimp only
      · omega
      · omega
      · omega
      · omega
      · omega
      · by_cases hq : y ≤ a + e.take
        · rw [cut_nil l (a + e.take) x y (by omega) e9 (by omega)]; rfl
        · rw [show max a x + (min (a + e.take) y - max a x) = max (a + e.take) x by omega]; exact ih
    · rename_i h
      rw [List.nil_append]
      by_cases hq : y ≤ max a x
      · rw [cut_nil l (a + e.take) x y (by omega) e9 (by omega)]; rfl
      · rw [show max a x = max (a + e.take) x by omega]; exact ih

theorem cut_spots : ∀ (l : List Ext) (a x y : Int), 0 ≤ a → validFrom a l = true → spotsM (cutM x y l) = ((spotsM l).drop (x - a).toNat).take (y - max a x).toNat
  | [], _, _, _, _, _ => by simp [cutM, spotsM]
  | e :: l, a, x, y, ha, hv => by
    obtain ⟨e0, e1, e2, e3, e4, e5, e6, e7, e8, e9⟩ := valid_cons hv
    have ih := cut_spots l (a + e.take) x y (by omega) e9
    have hE : spotsM (cutE x y e) = ((spotE e).drop (x - a).toNat).take (y - max a x).toNat := by
      rw [cutE_val x y e0 ha e4 e5 e3 e6 e8]
      unfold spotE
      rw [range_cut]
      split
      · rename_i h
        simp only [spotsM, List.flatMap_cons, List.flatMap_nil, List.append_nil, spotE]
        rw [show min (e.take.toNat - (x - a).toNat) (y - max a x).toNat = (min (a + e.take) y - max a x).toNat by omega]
        apply List.map_congr_left
        intro k _
        simp only [Prod.mk.injEq, true_and]
        omega
      · rename_i h
        rw [show min (e.take.toNat - (x - a).toNat) (y - max a x).toNat = 0 by omega]; rfl
    show spotsM (cutE x y e ++ cutM x y l) = _
    rw [spotsM_append, hE, ih, spotsM_cons, List.drop_append, List.take_append, spotE_len, List.length_drop, spotE_len]
    congr 2
    · omega
    · congr 1; omega
theorem cut_end (l : List Ext) (a x y : Int) (ha : 0 ≤ a) (ha' : a ≤ 1000) (hv : validFrom a l = true) : endM (cutM x y l) = max 0 (min y (a + endM l) - max a x) := by
  have h1 := spotsM_len _ _ (cut_valid l a x y ha hv)
  have h2 := spotsM_len _ _ hv
  have hb := valid_bd l a ha' hv
  rw [cut_spots l a x y ha hv, List.length_take, List.length_drop] at h1
  omega

/-- what a splice makes -/
theorem splice_spots (l new : List Ext) (fr tt : Int) (hv : validFrom 0 l = true) (h0 : 0 ≤ fr) (h1 : fr ≤ tt) (_ : fr ≤ endM l) :
    spotsM (spliceL l fr tt new) = (spotsM l).take fr.toNat ++ spotsM new ++ (spotsM l).drop (min tt (endM l)).toNat := by
  have hl := spotsM_len l 0 hv
  unfold spliceL
  rw [spotsM_append, spotsM_append, spotsM_shift, spotsM_shift, cut_spots l 0 _ _ (Int.le_refl _) hv, cut_spots l 0 _ _ (Int.le_refl _) hv]
  congr 1
  · congr 1
    rw [show (0 - 0 : Int).toNat = 0 from rfl, List.drop_zero]; congr 1; omega
  · rw [List.take_of_length_le (by rw [List.length_drop]; omega)]; congr 1; omega
theorem splice_end (l new : List Ext) (fr tt : Int) (hv : validFrom 0 l = true) (h0 : 0 ≤ fr) (h1 : fr ≤ tt) (h2 : fr ≤ endM l) :
    endM (spliceL l fr tt new) = fr + endM new + endM l - min tt (endM l) := by
  unfold spliceL
  rw [endM_append, endM_append, endM_shift, endM_shift, cut_end l 0 _ _ (Int.le_refl _) (by decide) hv, cut_end l 0 _ _ (Int.le_refl _) (by decide) hv]
  have := valid_bd l 0 (by decide) hv
  omega
theorem splice_valid (l new : List Ext) (fr tt : Int) (hv : validFrom 0 l = true) (hn : validFrom 0 new = true) (h0 : 0 ≤ fr) (h1 : fr ≤ tt) (h2 : fr ≤ endM l) (h3 : fr + endM new + endM l - min tt (endM l) ≤ 1000) :
    validFrom 0 (spliceL l fr tt new) = true := by
  have b1 := valid_bd l 0 (by decide) hv
  have b2 := valid_bd new 0 (by decide) hn
  have c1 := cut_end l 0 0 fr (Int.le_refl _) (by decide) hv
  have c2 := cut_end l 0 (min tt (endM l)) (endM l) (Int.le_refl _) (by decide) hv
  unfold spliceL
  rw [valid_append, valid_append, endM_append, endM_shift, c1, Bool.and_eq_true, Bool.and_eq_true]
  refine ⟨⟨?_, ?_⟩, ?_⟩
  · have := cut_valid l 0 0 fr (Int.le_refl _) hv; exact this
  · have := shift_valid new 0 fr (by omega) (by omega) (by omega) (by omega) hn
    rw [show (0 : Int) + max 0 (min fr (0 + endM l) - max 0 0) = 0 + fr by omega]; exact this
  · have hc := cut_valid l 0 (min tt (endM l)) (endM l) (Int.le_refl _) hv
    have := shift_valid (cutM (min tt (endM l)) (endM l) l) (max 0 (min tt (endM l))) (fr + endM new - min tt (endM l)) (by omega) (by rw [c2]; omega) (by omega) (by omega) hc
    rw [show (0 : Int) + (max 0 (min fr (0 + endM l) - max 0 0) + endM new) = max 0 (min tt (endM l)) + (fr + endM new - min tt (endM l)) by omega]; exact this
end Go.Ov

/- What ExtentCuts says of valid rows, in plain words; a block that a call owns and stores into. No program in sight. -/
namespace Go.Ov
open Go.RowKit

theorem cutE_clamp {a : Int} {e : Ext} {l : List Ext} (fr tt E : Int) (ha : 0 ≤ a) (h : validFrom a (e :: l) = true) (hE : a + endM (e :: l) ≤ E) (_ : endM (e :: l) + a ≤ 1000) (hl : 0 ≤ endM l) :
    cutE (max fr 0) (min tt E) e = cutE fr tt e := by
  have hc := valid_cons h
  obtain ⟨c0, c1⟩ := hc
  have ht : endM (e :: l) = e.take + endM l := rfl
  have hw : wrap64 (e.at_ + e.take) = e.at_ + e.take := by
    have : 1 ≤ e.take := by simp [validFrom, oneB] at h; omega
    exact wrap_id (by omega) (by omega)
  unfold cutE
  rw [hw, show max e.at_ (max fr 0) = max e.at_ fr by omega, show min (e.at_ + e.take) (min tt E) = min (e.at_ + e.take) tt by omega]
theorem cut_clamp : ∀ (l : List Ext) (a fr tt E : Int), 0 ≤ a → a ≤ 1000 → validFrom a l = true → a + endM l ≤ E → cutM (max fr 0) (min tt E) l = cutM fr tt l
  | [], _, _, _, _, _, _, _, _ => rfl
  | e :: l, a, fr, tt, E, ha, ha2, h, hE => by
    have hb := valid_bd _ a ha2 h
    have hv : validFrom (a + e.take) l = true := by simp [validFrom] at h; exact h.2
    have hk : 1 ≤ e.take ∧ e.take ≤ 1000 - a := by simp [validFrom, oneB] at h; omega
    have hl := valid_bd l (a + e.take) (by omega) hv
    have ht : endM (e :: l) = e.take + endM l := rfl
    unfold cutM
    rw [List.flatMap_cons, List.flatMap_cons, cutE_clamp fr tt E ha h hE (by omega) hl.1]
    congr 1
    exact cut_clamp l (a + e.take) fr tt E (by omega) (by omega) hv (by omega)

/-- a block that is owned from a base on -/
def OwnBlk (T : TypeId) (w : World) (base g n : Nat) : Prop := base ≤ g ∧ ∃ cur, w.heap[g]? = some (.cells cur T (0, 0)) ∧ n ≤ cur.size
theorem OwnBlk.of {α : Type} {E : Enc α} {T : TypeId} {w : World} {base : Nat} {g n cap : Nat} {xs : List α} (h : E.Own T w base (.slice (some ⟨g, 0, none⟩) n cap) xs) : OwnBlk T w base g (n * E.sz) := by
  obtain ⟨h1, h2⟩ := h
  rcases h2 with ⟨h2, _⟩ | ⟨g', c, cur, h2, h3, h4, h5, h6, h7, h8⟩
  · cases h2
  · simp at h2
    obtain ⟨rfl, rfl, rfl⟩ := h2
    exact ⟨h3, cur, h4, by rw [h7]; exact Nat.mul_le_mul_right _ h5⟩
theorem OwnBlk.cell {T : TypeId} {w : World} {base g n : Nat} (h : OwnBlk T w base g n) (j : Nat) (hj : j < n) : (∃ u, w.cell? ⟨g, j, none⟩ = some u) ∧ w.frozen? ⟨g, j, none⟩ = false := by
  obtain ⟨_, cur, h1, h2⟩ := h
  refine ⟨⟨cur[j]'(by omega), ?_⟩, ?_⟩
  · unfold World.cell?; simp only [h1]; simp [show j < cur.size by omega]
  · unfold World.frozen?; simp only [h1]; simp
theorem Enc.Own.parts {α : Type} {E : Enc α} {T : TypeId} {w : World} {base : Nat} {v : Value} {xs : List α} (h : E.Own T w base v xs) :
    (v = .slice none 0 0 ∧ xs.length = 0) ∨ ∃ g c, v = .slice (some ⟨g, 0, none⟩) xs.length c ∧ OwnBlk T w base g (xs.length * E.sz) := by
  have hh := h
  obtain ⟨h1, h2⟩ := h
  rcases h2 with ⟨h2, h3⟩ | ⟨g', c, cur, h2, _⟩
  · exact .inl ⟨h2, h3⟩
  · subst h2
    exact .inr ⟨g', c, rfl, OwnBlk.of hh⟩
theorem setCell_at (w : World) (g j : Nat) (u : Value) (cur : Array Value) (T : TypeId) (fr : Nat × Nat) (h : w.heap[g]? = some (.cells cur T fr)) :
    (w.setCell ⟨g, j, none⟩ u).heap[g]? = some (.cells (cur.setIfInBounds j u) T fr) := by
  unfold World.setCell
  simp only [Array.getElem?_modify, if_true, h, Option.map_some, Option.isSome_none, Bool.false_eq_true, if_false]
theorem setCell_else (w : World) (g j k : Nat) (u : Value) (h : g ≠ k) : (w.setCell ⟨g, j, none⟩ u).heap[k]? = w.heap[k]? := by
  unfold World.setCell
  simp only [Array.getElem?_modify, if_neg h]
theorem OwnBlk.set {T : TypeId} {w : World} {base g n : Nat} (h : OwnBlk T w base g n) (j : Nat) (u : Value) : OwnBlk T (w.setCell ⟨g, j, none⟩ u) base g n := by
  obtain ⟨h0, cur, h1, h2⟩ := h
  exact ⟨h0, _, setCell_at w g j u cur T _ h1, by simpa using h2⟩
theorem Bl.set {w0 w : World} (h : Bl w0 w) (g j : Nat) (u : Value) (hg : w0.heap.size ≤ g) : Bl w0 (w.setCell ⟨g, j, none⟩ u) :=
  ⟨h.os, h.tape, h.output, by have := h.size; simpa [World.setCell] using this, fun k hk => by rw [setCell_else _ _ _ _ _ (by omega)]; exact h.block k hk⟩
end Go.Ov

/- Blocks known whole. No program in sight. -/
namespace Go.Ov
open Go.RowKit

/-- a block, known whole -/
def Blk (w : World) (b : Nat) (cs : Array Value) (T : TypeId) : Prop := w.heap[b]? = some (.cells cs T (0, 0))
theorem Blk.new (w : World) (cs : Array Value) (T : TypeId) : Blk (w.alloc (.cells cs T)) w.heap.size cs T := heap_alloc_new w _
theorem Blk.lt {w : World} {b : Nat} {cs : Array Value} {T : TypeId} (h : Blk w b cs T) : b < w.heap.size := by
  unfold Blk at h
  by_cases hb : b < w.heap.size
  · exact hb
  · rw [Array.getElem?_eq_none (by omega)] at h; cases h
theorem Blk.bl {w w' : World} {b : Nat} {cs : Array Value} {T : TypeId} (h : Blk w b cs T) (hb : Bl w w') : Blk w' b cs T := by
  have hl := h.lt
  unfold Blk at *
  rw [hb.block b hl]; exact h
theorem Blk.cell {w : World} {b : Nat} {cs : Array Value} {T : TypeId} (h : Blk w b cs T) (j : Nat) : w.cell? ⟨b, j, none⟩ = cs[j]? := cell_of_row w b j cs T (0, 0) h
theorem Blk.frozen {w : World} {b : Nat} {cs : Array Value} {T : TypeId} (h : Blk w b cs T) (j : Nat) : w.frozen? ⟨b, j, none⟩ = false := frozen_of_row w b j cs T h
theorem Blk.set {w : World} {b : Nat} {cs : Array Value} {T : TypeId} (h : Blk w b cs T) (j : Nat) (u : Value) : Blk (w.setCell ⟨b, j, none⟩ u) b (cs.setIfInBounds j u) T := setCell_at w b j u cs T _ h
theorem Blk.set_else {w : World} {b : Nat} {cs : Array Value} {T : TypeId} (h : Blk w b cs T) (g j : Nat) (u : Value) (hg : g ≠ b) : Blk (w.setCell ⟨g, j, none⟩ u) b cs T := by
  unfold Blk at *; rw [setCell_else _ _ _ _ _ hg]; exact h
theorem Blk.drew {w : World} {b : Nat} {cs : Array Value} {T : TypeId} (h : Blk w b cs T) : Blk w.drew b cs T := h
theorem Blk.grown {w w' : World} {b : Nat} {cs : Array Value} {T : TypeId} {row : Option Nat} (h : Blk w b cs T) (hg : w.grownBy w' row) (hr : row ≠ some b) : Blk w' b cs T := by
  have hl := h.lt
  unfold Blk at *
  rw [hg.block b hl (fun e => hr e.symm)]; exact h
theorem Enc.Own.set {α : Type} {E : Enc α} {e : TypeId} {w : World} {base : Nat} {v : Value} {xs : List α} (h : E.Own e w base v xs) (g j : Nat) (u : Value) (hg : g < base) : E.Own e (w.setCell ⟨g, j, none⟩ u) base v xs :=
  h.grown (row := some g) ⟨rfl, rfl, rfl, by simp [World.setCell], fun k _ hk => setCell_else _ _ _ _ _ (fun h => hk (by rw [h]))⟩ (by
    cases hv : v.ownBlock with
    | none => exact .inl rfl
    | some k => refine .inr fun hk => ?_
                have := (h.lt k hv).1
                cases hk
                omega)
end Go.Ov

/- Rows whose elements lead on: what stays true while a row grows in its place. No program in sight. -/
namespace Go.Ov
open Go.RowKit

/-- true, whatever is written into one block, and whatever is made -/
def Stab (w : World) (row : Option Nat) (P : World → Prop) : Prop := ∀ w', w.grownBy w' row → P w'
theorem Stab.here {w : World} {row : Option Nat} {P : World → Prop} (h : Stab w row P) : P w := h w (World.grownBy.refl w row)
theorem Stab.bl {w w1 : World} {row : Option Nat} {P : World → Prop} (h : Stab w row P) (hb : Bl w w1) : Stab w1 row P := fun w' hg =>
  h w' ⟨hg.os.trans hb.os, hg.tape.trans hb.tape, hg.output.trans hb.output, Nat.le_trans hb.size hg.size, fun k hk hr => (hg.block k (Nat.lt_of_lt_of_le hk hb.size) hr).trans (hb.block k hk)⟩
/-- the row is another one: the same block, or a new one -/
def Lies (w : World) (row row' : Option Nat) : Prop := row' = row ∨ ∃ g, row' = some g ∧ w.heap.size ≤ g
theorem Stab.grow {w w1 : World} {row row' : Option Nat} {P : World → Prop} (h : Stab w row P) (hg : w.grownBy w1 row) (hl : Lies w row row') : Stab w1 row' P := fun w' hg' =>
  h w' ⟨hg'.os.trans hg.os, hg'.tape.trans hg.tape, hg'.output.trans hg.output, Nat.le_trans hg.size hg'.size, fun k hk hr => by
    rw [hg'.block k (Nat.lt_of_lt_of_le hk hg.size) ?_, hg.block k hk hr]
    rcases hl with rfl | ⟨g, rfl, h1⟩
    · exact hr
    · intro e; injection e with e; omega⟩
theorem Stab.old {W w : World} {row : Option Nat} {P : World → Prop} (hP : ∀ {a b : World}, P a → Bl a b → P b) (h : P W) (hb : Bl W w) (hr : ∀ g, row = some g → W.heap.size ≤ g) : Stab w row P := fun w' hg =>
  hP h (Bl.grown hb hg hr)
theorem Stab.own {α : Type} {E : Enc α} {e : TypeId} {w : World} {base : Nat} {v : Value} {xs : List α} {row : Option Nat} (h : E.Own e w base v xs) (hr : ∀ g, row = some g → g < base) : Stab w row (fun w' => E.Own e w' base v xs) := fun _ hg =>
  h.grown hg (by
    cases hv : v.ownBlock with
    | none => exact .inl rfl
    | some k => refine .inr fun hk => ?_
                have := (h.lt k hv).1
                have := hr k hk.symm
                omega)
theorem Stab.mono {w : World} {row : Option Nat} {P Q : World → Prop} (h : Stab w row P) (hi : ∀ w', P w' → Q w') : Stab w row Q := fun w' hg => hi _ (h w' hg)
theorem Stab.and {w : World} {row : Option Nat} {P Q : World → Prop} (h : Stab w row P) (hi : Stab w row Q) : Stab w row (fun w' => P w' ∧ Q w') := fun w' hg => ⟨h w' hg, hi w' hg⟩
theorem Stab.drewN {w : World} {row : Option Nat} {P : World → Prop} (h : Stab w row P) (n : Nat) : Stab (w.drewN n) row P := h.bl ((Bl.refl w).drewN n)

theorem Stab.set {w : World} {g : Nat} {P : World → Prop} (h : Stab w (some g) P) (j : Nat) (u : Value) : Stab (w.setCell ⟨g, j, none⟩ u) (some g) P :=
  h.grow ⟨rfl, rfl, rfl, by simp [World.setCell], fun k _ hk => setCell_else _ _ _ _ _ (fun e => hk (by rw [e]))⟩ (.inl rfl)
/-- owned, two blocks aside -/
theorem Stab.own2 {α : Type} {E : Enc α} {e : TypeId} {w : World} {base : Nat} {v : Value} {xs : List α} {row : Option Nat} {B : Nat} (h : E.Own e w base v xs) (hr : ∀ g, row = some g → g < base) (hB : B < base) :
    Stab w row (fun w' => Stab w' (some B) fun w'' => E.Own e w'' base v xs) := (Stab.own h hr).mono fun w' h => Stab.own h (fun g hg => by injection hg with hg; omega)

section
variable {α : Type} {E : Enc α}
theorem Enc.Own.wpAppendL {P : Program} {w : World} {o : Oper} {a : Act} {K : Act → World → Prop} {Q : Exit → Act → World → Prop} (s x : Operand) (t : TypeId)
    (ho : o.op = .call { callee := .builtin .append, args := #[s, x], argTypes := #[t, t] })
    (base : Nat) (e : TypeId) (z : Value) (size bytes : Nat) (ht : P.underlying t = some (.slice e)) (hinfo : (P.info? e).map (fun i => (i.zero, i.size, i.bytes)) = some (some z, size, bytes))
    (hE : E.sz = size) (hzs : z.cells.size = size) (hsz : 0 < size) (hby : 0 < bytes)
    (v : Value) (xs : List α) (hs : a.eval s = v) (hown : E.Own e w base v xs)
    (u : Value) (ys : List α) (hx : a.eval x = u) (his : E.Is w u ys) (hne : ys ≠ [])
    (hlen : (xs.length + ys.length) * bytes ≤ 140737488355328) (hbase : base ≤ w.heap.size)
    (h : ∀ v' w', E.Own e w' base v' (xs ++ ys) → w.grownBy w' v.ownBlock → Lies w v.ownBlock v'.ownBlock → K (a.put o.dst v') w') : o.wp P a w K Q := by
  obtain ⟨i, hi, hz, hs1, hb1⟩ := info_parts hinfo
  obtain ⟨A, c, rfl, hc, _, hAn, hA⟩ := his
  have hmax : xs.length + ys.length ≤ maxLen := by
    have : (xs.length + ys.length) * 1 ≤ (xs.length + ys.length) * bytes := Nat.mul_le_mul_left _ hby
    unfold maxLen; omega
  obtain ⟨y, hy0⟩ : ∃ y, ys[0]? = some y := by cases ys with | nil => exact absurd rfl hne | cons y _ => exact ⟨y, rfl⟩
  obtain ⟨ad, rfl, _⟩ := hA 0 y hy0
  have hnews : ∀ j q, (ys.flatMap E.c)[j]? = some q → w.cell? (ad.add j) = some q := by
    intro j q hq
    have hj : j < ys.length * E.sz := by have := (List.getElem?_eq_some_iff.1 hq).1; rwa [flat_len] at this
    have hi' : j / E.sz < ys.length := by rw [Nat.div_lt_iff_lt_mul (by omega)]; exact hj
    obtain ⟨ad', e', hc'⟩ := hA (j / E.sz) ys[j / E.sz] (List.getElem?_eq_getElem hi')
    obtain rfl : ad = ad' := by injection e'
    have hm : j % E.sz < (E.c ys[j / E.sz]).length := by rw [E.len]; exact Nat.mod_lt _ (by omega)
    have hj2 : j = j / E.sz * E.sz + j % E.sz := by rw [Nat.mul_comm]; exact (Nat.div_add_mod j E.sz).symm
    have h1 := flat_get E ys (j / E.sz) _ (List.getElem?_eq_getElem hi') (j % E.sz) _ (List.getElem?_eq_getElem hm)
    rw [← hj2] at h1
    rw [h1] at hq
    have h2 := hc' (j % E.sz) _ (List.getElem?_eq_getElem hm)
    rw [← hj2] at h2
    rw [h2]; exact hq
  refine wp_append_lies w s x t ho base e i z size bytes ht hi hz hs1 hb1 hzs hsz v xs.length _ hs (by rw [← hE]; exact hown) ad ys.length c (ys.flatMap E.c) hx (by rw [flat_len, hE]) hnews (flat_one E ys) (List.length_pos_iff.2 hne) hmax hlen hbase w.heap.size rfl ?_
  intro g cap w' h1 h2 h3 h4
  refine h _ w' ?_ h2 ?_
  · unfold Enc.Own
    rw [List.flatMap_append, List.length_append, hE]; exact h1
  · rcases h3 with h3 | h3
    · left; rw [h3]; rfl
    · right; exact ⟨g, rfl, by omega⟩
/-- append of one element that stands in a block of its own; where the row lies then -/
theorem Enc.Own.append1L {P : Program} {w : World} {ops : Array Oper} {rest : List Oper} {o : Oper} {a : Act} {Q : Exit → Act → World → Prop} (hgd : o.guard = none) (s x : Operand) (t : TypeId)
    (ho : o.op = .call { callee := .builtin .append, args := #[s, x], argTypes := #[t, t] })
    (base : Nat) (e : TypeId) (z : Value) (size bytes : Nat) (ht : P.underlying t = some (.slice e)) (hinfo : (P.info? e).map (fun i => (i.zero, i.size, i.bytes)) = some (some z, size, bytes))
    (hE : E.sz = size) (hzs : z.cells.size = size) (hsz : 0 < size) (hby : 0 < bytes)
    (v : Value) (xs : List α) (hs : a.eval s = v) (hown : E.Own e w base v xs)
    (y : α) (cs : Array Value) (hcs : cs.toList = E.c y) {N : Nat} (hN : N = w.heap.size) (hx : a.eval x = .slice (some ⟨N, 0, none⟩) 1 1)
    (hlen : (xs.length + 1) * bytes ≤ 140737488355328) (hbase : base ≤ w.heap.size)
    (h : ∀ v' w', E.Own e w' base v' (xs ++ [y]) → (w.alloc (.cells cs e)).grownBy w' v.ownBlock → Lies (w.alloc (.cells cs e)) v.ownBlock v'.ownBlock → wpList P ops Q rest (a.put o.dst v') w') : wpList P ops Q (o :: rest) a (w.alloc (.cells cs e)) :=
  wpList_plain hgd fun _ hK => Enc.Own.wpAppendL s x t ho base e z size bytes ht hinfo hE hzs hsz hby v xs hs (hown.bl ((Bl.refl _).alloc _)) _ [y] hx
    (Enc.Own.lit (E := E) w 0 [y] cs (by simpa using hcs) 1 rfl (Nat.zero_le _) (by decide) hN).is (by simp) hlen (Nat.le_trans hbase ((Bl.refl w).alloc _).size) fun v' w' h1 h2 h3 => hK _ _ (h v' w' h1 h2 h3)
end
end Go.Ov

/- States as data; how they lie in memory. No program in sight. -/
namespace Go.Ov
open Go.RowKit

/-- how a track lies: its name, its tree's block -/
structure TH where
  id : Int
  b : Nat
def TH.v (h : TH) : Value := .agg #[.int .i64 h.id, .pointer (some ⟨h.b, 0, none⟩)]
def trackE : Enc TH := ⟨2, fun h => [.int .i64 h.id, .pointer (some ⟨h.b, 0, none⟩)], fun _ => rfl, fun x u h => by simp at h; rcases h with rfl | rfl <;> rfl⟩
instance : Inhabited TH := ⟨⟨0, 0⟩⟩
abbrev TrackM := Int × TreeM
abbrev StM := List TrackM
def TrackR (w : World) (t : TrackM) (h : TH) : Prop := h.id = t.1 ∧ TreeIs w (.pointer (some ⟨h.b, 0, none⟩)) t.2
def TRows (w : World) (hs : List TH) (s : StM) : Prop := hs.length = s.length ∧ ∀ (i : Nat) (x : TrackM) (h : TH), s[i]? = some x → hs[i]? = some h → TrackR w x h
theorem TrackR.bl {w w' : World} {t : TrackM} {h : TH} (hr : TrackR w t h) (hb : Bl w w') : TrackR w' t h := ⟨hr.1, hr.2.bl hb⟩
theorem TRows.bl {w w' : World} {hs : List TH} {s : StM} (h : TRows w hs s) (hb : Bl w w') : TRows w' hs s := ⟨h.1, fun i x y hx hy => (h.2 i x y hx hy).bl hb⟩
theorem TRows.nil (w : World) : TRows w [] [] := ⟨rfl, fun i x h hx => by simp at hx⟩
theorem TRows.at {w : World} {hs : List TH} {s : StM} (hr : TRows w hs s) (k : Nat) (h : k < s.length) : ∃ h' : k < hs.length, TrackR w s[k] hs[k] :=
  ⟨by rw [hr.1]; exact h, hr.2 k _ _ (List.getElem?_eq_getElem h) (List.getElem?_eq_getElem _)⟩
theorem TRows.cons {w : World} {hs : List TH} {s : StM} {h : TH} {t : TrackM} (h0 : TrackR w t h) (hr : TRows w hs s) : TRows w (h :: hs) (t :: s) := by
  refine ⟨by simp [hr.1], fun i x y hx hy => ?_⟩
  cases i with
  | zero => simp at hx hy; subst hx; subst hy; exact h0
  | succ i => simp at hx hy; exact hr.2 i x y hx hy
theorem TRows.uncons {w : World} {hs : List TH} {s : StM} {t : TrackM} (hr : TRows w hs (t :: s)) : ∃ h hs', hs = h :: hs' ∧ TrackR w t h ∧ TRows w hs' s := by
  cases hs with
  | nil => have := hr.1; simp at this
  | cons h hs =>
    refine ⟨h, hs, rfl, hr.2 0 t h rfl rfl, by have := hr.1; simpa using this, fun i x y hx hy => hr.2 (i + 1) x y (by simpa using hx) (by simpa using hy)⟩
theorem TRows.ids {w : World} : ∀ {s : StM} {hs : List TH}, TRows w hs s → hs.map TH.id = s.map (·.1)
  | [], hs, hr => by
    have : hs = [] := List.eq_nil_of_length_eq_zero hr.1
    subst this; rfl
  | t :: s, hs, hr => by
    obtain ⟨h, hs', rfl, h0, h1⟩ := hr.uncons
    rw [List.map_cons, List.map_cons, TRows.ids h1, h0.1]
theorem TRows.filter {w : World} (p : Int → Bool) : ∀ {s : StM} {hs : List TH}, TRows w hs s → TRows w (hs.filter fun h => p h.id) (s.filter fun t => p t.1)
  | [], hs, hr => by
    have : hs = [] := List.eq_nil_of_length_eq_zero hr.1
    subst this; exact TRows.nil w
  | t :: s, hs, hr => by
    obtain ⟨h, hs', rfl, h0, h1⟩ := hr.uncons
    have ih := TRows.filter p h1
    have e : h.id = t.1 := h0.1
    cases hp : p t.1 with
    | true => rw [List.filter_cons_of_pos (by simpa [e] using hp), List.filter_cons_of_pos (by simpa using hp)]; exact TRows.cons h0 ih
    | false => rw [List.filter_cons_of_neg (by simpa [e] using hp), List.filter_cons_of_neg (by simpa using hp)]; exact ih
theorem TRows.take {w : World} {hs : List TH} {s : StM} (hr : TRows w hs s) (k : Nat) : TRows w (hs.take k) (s.take k) := by
  refine ⟨by simp [hr.1], fun i x y hx hy => ?_⟩
  rw [List.getElem?_take] at hx hy
  split at hx
  · rename_i hi
    rw [if_pos hi] at hy
    exact hr.2 i x y hx hy
  · cases hx
theorem TRows.drop {w : World} {hs : List TH} {s : StM} (hr : TRows w hs s) (k : Nat) : TRows w (hs.drop k) (s.drop k) :=
  ⟨by simp [hr.1], fun i x y hx hy => hr.2 (k + i) x y (by rw [List.getElem?_drop] at hx; exact hx) (by rw [List.getElem?_drop] at hy; exact hy)⟩
theorem TRows.append {w : World} : ∀ {s : StM} {hs : List TH} {s2 : StM} {hs2 : List TH}, TRows w hs s → TRows w hs2 s2 → TRows w (hs ++ hs2) (s ++ s2)
  | [], hs, s2, hs2, hr, h2 => by
    have : hs = [] := List.eq_nil_of_length_eq_zero hr.1
    subst this; exact h2
  | t :: s, hs, s2, hs2, hr, h2 => by
    obtain ⟨h, hs', rfl, h0, h1⟩ := hr.uncons
    exact TRows.cons h0 (TRows.append h1 h2)

theorem track_at {w : World} {A : Option Addr} {xs : List TH} (h : trackE.At w A xs) (k : Nat) (hk : k < xs.length) :
    ∃ ad, A = some ad ∧ w.cell? (ad.add (k * 2)) = some (.int .i64 xs[k].id) ∧ w.cell? ⟨(ad.add (k * 2)).block, (ad.add (k * 2)).off + 1, none⟩ = some (.pointer (some ⟨xs[k].b, 0, none⟩)) := by
  obtain ⟨ad, e, hc⟩ := h k _ (List.getElem?_eq_getElem hk)
  refine ⟨ad, e, ?_, ?_⟩
  · exact hc 0 _ rfl
  · rw [← add_at _ _ 1 (by decide)]; exact hc 1 _ rfl

/-- a state: a block with one cell, the row of tracks -/
def StateIs (w : World) (v : Value) (s : StM) : Prop := ∃ (b : Nat) (u : Head) (hs : List TH), v = .pointer (some ⟨b, 0, none⟩) ∧ w.cell? ⟨b, 0, none⟩ = some u.v ∧ trackE.Is w u.v hs ∧ TRows w hs s
theorem StateIs.bl {w w' : World} {v : Value} {s : StM} (h : StateIs w v s) (hb : Bl w w') : StateIs w' v s := by
  obtain ⟨b, u, hs, e, h0, h1, h2⟩ := h
  exact ⟨b, u, hs, e, hb.cell h0, h1.bl hb, h2.bl hb⟩

/-- the place of a track, from number k on (-1: there is none) -/
def idxFrom (id : Int) : Nat → List Int → Int
  | _, [] => -1
  | k, x :: l => if x = id then k else idxFrom id (k + 1) l
def findS (s : StM) (id : Int) : Int := idxFrom id 0 (s.map (·.1))
def withoutS (s : StM) (id : Int) : StM := s.filter fun t => t.1 != id
def below (id : Int) : StM → Nat
  | [] => 0
  | t :: s => if t.1 < id then below id s + 1 else 0
def insertS (s : StM) (id : Int) (t : TreeM) : StM := s.take (below id s) ++ (id, t) :: s.drop (below id s)
def putL (s : StM) (id : Int) (t : TreeM) : StM := insertS (withoutS s id) id t
end Go.Ov

/- Worlds of which only some blocks are seen: what lies in these blocks alone. No program in sight. -/
namespace Go.Ov
open Go.RowKit

/-- a world of which only some blocks are seen -/
def only (w : World) (G : Nat → Bool) : World := { w with heap := w.heap.mapIdx fun i o => if G i then o else .cells #[] 0 (0, 0) }
theorem only_size (w : World) (G : Nat → Bool) : (only w G).heap.size = w.heap.size := by simp [only]
theorem only_get (w : World) (G : Nat → Bool) (b : Nat) (h : G b = true) : (only w G).heap[b]? = w.heap[b]? := by
  simp only [only, Array.getElem?_mapIdx, h, if_true]
  cases w.heap[b]? <;> rfl
theorem only_cell {w : World} {G : Nat → Bool} {a : Addr} {v : Value} (h : (only w G).cell? a = some v) : G a.block = true ∧ w.cell? a = some v := by
  cases hg : G a.block with
  | true =>
    refine ⟨rfl, ?_⟩
    unfold World.cell? at h ⊢
    rwa [only_get w G a.block hg] at h
  | false =>
    unfold World.cell? at h
    have : (only w G).heap[a.block]? = (w.heap[a.block]?).map fun _ => .cells #[] 0 (0, 0) := by
      simp only [only, Array.getElem?_mapIdx, hg]
      cases w.heap[a.block]? <;> rfl
    rw [this] at h
    cases hh : w.heap[a.block]? with
    | none => rw [hh] at h; cases h
    | some o =>
      rw [hh] at h
      simp at h
theorem cell_only {w : World} {G : Nat → Bool} {a : Addr} {v : Value} (hg : G a.block = true) (h : w.cell? a = some v) : (only w G).cell? a = some v := by
  unfold World.cell? at h ⊢
  rwa [only_get w G a.block hg]
/-- every cell of the one is there in the other -/
def Sub (a b : World) : Prop := ∀ ad v, a.cell? ad = some v → b.cell? ad = some v
theorem Sub.refl (a : World) : Sub a a := fun _ _ h => h
theorem Sub.trans {a b c : World} (h : Sub a b) (k : Sub b c) : Sub a c := fun _ _ q => k _ _ (h _ _ q)
theorem Sub.bl {a b : World} (h : Bl a b) : Sub a b := fun _ _ q => h.cell q
theorem Sub.un (w : World) (G : Nat → Bool) : Sub (only w G) w := fun _ _ h => (only_cell h).2
theorem Sub.mono {w : World} {G G' : Nat → Bool} (h : ∀ b, G b = true → G' b = true) : Sub (only w G) (only w G') := fun _ _ q => cell_only (h _ (only_cell q).1) (only_cell q).2
theorem Bl.only {a b : World} (h : Bl a b) (G : Nat → Bool) : Bl (only a G) (only b G) := ⟨h.os, h.tape, h.output, by rw [only_size, only_size]; exact h.size, fun k hk => by
  rw [only_size] at hk
  have := h.block k hk
  simp only [Go.Ov.only, Array.getElem?_mapIdx, this]⟩
theorem Sub.grown {a b : World} {row : Option Nat} (h : a.grownBy b row) {G : Nat → Bool} (hg : ∀ k, row = some k → G k = false) : Sub (only a G) (only b G) := fun ad v q => by
  obtain ⟨h1, h2⟩ := only_cell q
  refine cell_only h1 ?_
  have hlt := World.block_lt_of_cell? a ad h2
  unfold World.cell? at h2 ⊢
  rw [h.block ad.block hlt (fun e => by rw [hg _ e.symm] at h1; cases h1)]; exact h2
theorem Sub.at {a b : World} (h : Sub a b) {α : Type} {E : Enc α} {A : Option Addr} {xs : List α} (hA : E.At a A xs) : E.At b A xs := fun i x hx => by
  obtain ⟨ad, e, hc⟩ := hA i x hx
  exact ⟨ad, e, fun j u hu => h _ _ (hc j u hu)⟩
theorem Sub.is {a b : World} (h : Sub a b) {α : Type} {E : Enc α} {v : Value} {xs : List α} (hA : E.Is a v xs) : E.Is b v xs := by
  obtain ⟨A, c, e, hl, hm, hn, hA⟩ := hA
  exact ⟨A, c, e, hl, hm, hn, h.at hA⟩
theorem Sub.node {a b : World} (h : Sub a b) {n : NodeM} {p : NH} (hr : NodeR a n p) : NodeR b n p := by
  induction hr with
  | mk l f q x y z hs h1 h2 h3 h4 _ ih => exact .mk l f q x y z hs (h.is h1) (h.is h2) (h.is h3) h4 ih
theorem Sub.nodes {a b : World} (h : Sub a b) {hs : List NH} {ns : List NodeM} (hr : NRows a hs ns) : NRows b hs ns := ⟨hr.1, fun i x y hx hy => h.node (hr.2 i x y hx hy)⟩
theorem Sub.tree {a b : World} (h : Sub a b) {v : Value} {t : TreeM} (ht : TreeIs a v t) : TreeIs b v t := by
  obtain ⟨b', u, n, e, h0, h1, h2, h3, h4, h5⟩ := ht
  exact ⟨b', u, n, e, h _ _ h0, h _ _ h1, h _ _ h2, h _ _ h3, h.is h4, h.node h5⟩
theorem Sub.trows {a b : World} (h : Sub a b) {hs : List TH} {s : StM} (hr : TRows a hs s) : TRows b hs s := ⟨hr.1, fun i x y hx hy => ⟨(hr.2 i x y hx hy).1, h.tree (hr.2 i x y hx hy).2⟩⟩
theorem Sub.state {a b : World} (h : Sub a b) {v : Value} {s : StM} (hs : StateIs a v s) : StateIs b v s := by
  obtain ⟨b', u, hs, e, h0, h1, h2⟩ := hs
  exact ⟨b', u, hs, e, h _ _ h0, h.is h1, h.trows h2⟩
/-- new blocks -/
def fr (w : World) : Nat → Bool := fun b => decide (w.heap.size ≤ b)
/-- these, and new ones -/
def gor (G : Nat → Bool) (w : World) : Nat → Bool := fun b => G b || decide (w.heap.size ≤ b)
theorem fr_le {w w' : World} (h : w.heap.size ≤ w'.heap.size) (b : Nat) (hb : fr w' b = true) : fr w b = true := by simp [fr] at *; omega
theorem fr_gor (G : Nat → Bool) (w : World) (b : Nat) (h : fr w b = true) : gor G w b = true := by simp [fr, gor] at *; exact .inr h
theorem gor_l (G : Nat → Bool) (w : World) (b : Nat) (h : G b = true) : gor G w b = true := by simp [gor, h]
theorem gor_le {G : Nat → Bool} {w w' : World} (h : w.heap.size ≤ w'.heap.size) (b : Nat) (hb : gor G w' b = true) : gor G w b = true := by
  simp [gor] at *
  rcases hb with hb | hb
  · exact .inl hb
  · exact .inr (by omega)
theorem gor_gor {G : Nat → Bool} {w w' : World} (h : w.heap.size ≤ w'.heap.size) (b : Nat) (hb : gor (gor G w) w' b = true) : gor G w b = true := by
  simp [gor] at *
  rcases hb with (hb | hb) | hb
  · exact .inl hb
  · exact .inr hb
  · exact .inr (by omega)
theorem fr_ge {w : World} {k base : Nat} (h : w.heap.size ≤ base) (hk : base ≤ k) : fr w k = true := by simp [fr]; omega
theorem Enc.Own.isM {α : Type} {E : Enc α} {e : TypeId} {w : World} {base : Nat} {v : Value} {xs : List α} (h : E.Own e w base v xs) {G : Nat → Bool} (hG : ∀ k, base ≤ k → G k = true) : E.Is (only w G) v xs := by
  have hl := h.lt
  obtain ⟨A, c, rfl, h1, h2, h3, h4⟩ := h.is
  refine ⟨A, c, rfl, h1, h2, h3, fun i x hx => ?_⟩
  obtain ⟨ad, rfl, hc⟩ := h4 i x hx
  refine ⟨ad, rfl, fun j u hu => cell_only ?_ (hc j u hu)⟩
  have hb : ∀ k, (ad.add k).block = ad.block := fun k => by unfold Addr.add; split <;> rfl
  rw [hb]
  exact hG _ (hl ad.block (by simp [Value.ownBlock])).1
theorem Blk.only {w : World} {b : Nat} {cs : Array Value} {T : TypeId} (h : Blk w b cs T) {G : Nat → Bool} (hG : G b = true) : Blk (only w G) b cs T := by
  unfold Blk at *; rw [only_get w G b hG]; exact h
end Go.Ov

/- Rows of tracks as the document has them (ref20.Lines), as data; how they lie; put in plain words. No program in sight. -/
namespace Go.Ov
open Go.RowKit

structure RH where
  id : Int
  h : Head
instance : Inhabited RH := ⟨⟨0, ⟨none, 0, 0⟩⟩⟩
def rowE : Enc RH := ⟨2, fun h => [.int .i64 h.id, h.h.v], fun _ => rfl, fun x u h => by simp [Head.v] at h; rcases h with rfl | rfl <;> rfl⟩
abbrev LnM := List (Int × List Ext)
def LnR (w : World) (t : Int × List Ext) (h : RH) : Prop := h.id = t.1 ∧ extE.Is w h.h.v t.2
def LnRows (w : World) (hs : List RH) (s : LnM) : Prop := hs.length = s.length ∧ ∀ (i : Nat) (x : Int × List Ext) (h : RH), s[i]? = some x → hs[i]? = some h → LnR w x h
theorem LnRows.sub {a b : World} (h : Sub a b) {hs : List RH} {s : LnM} (hr : LnRows a hs s) : LnRows b hs s := ⟨hr.1, fun i x y hx hy => ⟨(hr.2 i x y hx hy).1, h.is (hr.2 i x y hx hy).2⟩⟩
theorem LnRows.bl {w w' : World} {hs : List RH} {s : LnM} (h : LnRows w hs s) (hb : Bl w w') : LnRows w' hs s := LnRows.sub (Sub.bl hb) h
theorem LnRows.nil (w : World) : LnRows w [] [] := ⟨rfl, fun i x h hx => by simp at hx⟩
theorem LnRows.at {w : World} {hs : List RH} {s : LnM} (hr : LnRows w hs s) (k : Nat) (h : k < s.length) : ∃ h' : k < hs.length, LnR w s[k] hs[k] :=
  ⟨by rw [hr.1]; exact h, hr.2 k _ _ (List.getElem?_eq_getElem h) (List.getElem?_eq_getElem _)⟩
theorem LnRows.snoc {w : World} {hs : List RH} {s : LnM} {h : RH} {t : Int × List Ext} (hr : LnRows w hs s) (h0 : LnR w t h) : LnRows w (hs ++ [h]) (s ++ [t]) := by
  refine ⟨by simp [hr.1], fun i x y hx hy => ?_⟩
  by_cases hi : i < s.length
  · rw [List.getElem?_append_left hi] at hx
    rw [List.getElem?_append_left (by rw [hr.1]; exact hi)] at hy
    exact hr.2 i x y hx hy
  · rw [List.getElem?_append_right (by omega)] at hx
    rw [List.getElem?_append_right (by rw [hr.1]; omega)] at hy
    have : i - s.length = 0 := by have := (List.getElem?_eq_some_iff.1 hx).1; simp at this; omega
    rw [this] at hx
    rw [hr.1, this] at hy
    simp at hx hy; subst hx; subst hy; exact h0
theorem LnRows.take {w : World} {hs : List RH} {s : LnM} (hr : LnRows w hs s) (k : Nat) : LnRows w (hs.take k) (s.take k) := by
  refine ⟨by simp [hr.1], fun i x y hx hy => ?_⟩
  rw [List.getElem?_take] at hx hy
  split at hx
  · rename_i hi
    rw [if_pos hi] at hy
    exact hr.2 i x y hx hy
  · cases hx
theorem LnRows.drop {w : World} {hs : List RH} {s : LnM} (hr : LnRows w hs s) (k : Nat) : LnRows w (hs.drop k) (s.drop k) :=
  ⟨by simp [hr.1], fun i x y hx hy => hr.2 (k + i) x y (by rw [List.getElem?_drop] at hx; exact hx) (by rw [List.getElem?_drop] at hy; exact hy)⟩
theorem LnRows.append {w : World} {hs hs2 : List RH} {s s2 : LnM} (hr : LnRows w hs s) (h2 : LnRows w hs2 s2) : LnRows w (hs ++ hs2) (s ++ s2) := by
  refine ⟨by simp [hr.1, h2.1], fun i x y hx hy => ?_⟩
  by_cases hi : i < s.length
  · rw [List.getElem?_append_left hi] at hx
    rw [List.getElem?_append_left (by rw [hr.1]; exact hi)] at hy
    exact hr.2 i x y hx hy
  · rw [List.getElem?_append_right (by omega)] at hx
    rw [List.getElem?_append_right (by rw [hr.1]; omega), hr.1] at hy
    exact h2.2 _ x y hx hy
theorem LnRows.ids {w : World} {hs : List RH} {s : LnM} (hr : LnRows w hs s) : hs.map RH.id = s.map (·.1) := by
  apply List.ext_getElem?
  intro i
  rw [List.getElem?_map, List.getElem?_map]
  cases hx : s[i]? with
  | none =>
    have : hs[i]? = none := by rw [List.getElem?_eq_none_iff] at hx ⊢; rw [hr.1]; exact hx
    rw [this]; rfl
  | some x =>
    have hlt := (List.getElem?_eq_some_iff.1 hx).1
    have hy : hs[i]? = some (hs[i]'(by rw [hr.1]; exact hlt)) := List.getElem?_eq_getElem _
    rw [hy, Option.map_some, Option.map_some, (hr.2 i x _ hx hy).1]
def LnIs (w : World) (v : Value) (s : LnM) : Prop := ∃ hs, rowE.Is w v hs ∧ LnRows w hs s
theorem LnIs.sub {a b : World} (h : Sub a b) {v : Value} {s : LnM} (hr : LnIs a v s) : LnIs b v s := by
  obtain ⟨hs, h1, h2⟩ := hr
  exact ⟨hs, h.is h1, LnRows.sub h h2⟩
theorem LnIs.bl {w w' : World} {v : Value} {s : LnM} (h : LnIs w v s) (hb : Bl w w') : LnIs w' v s := LnIs.sub (Sub.bl hb) h
theorem LnIs.nil (w : World) : LnIs w (.slice none 0 0) [] := ⟨[], Enc.Is.nil w, LnRows.nil w⟩
theorem LnIs.slice {w : World} {v : Value} {s : LnM} (h : LnIs w v s) : ∃ A c, v = .slice A s.length c := by
  obtain ⟨hs, ⟨A, c, e, _⟩, h2⟩ := h
  exact ⟨A, c, by rw [e, h2.1]⟩
theorem row_at {w : World} {A : Option Addr} {xs : List RH} (h : rowE.At w A xs) (k : Nat) (hk : k < xs.length) :
    ∃ ad, A = some ad ∧ w.cell? (ad.add (k * 2)) = some (.int .i64 xs[k].id) ∧ w.cell? ⟨(ad.add (k * 2)).block, (ad.add (k * 2)).off + 1, none⟩ = some (.slice xs[k].h.A xs[k].h.n xs[k].h.cap) := by
  obtain ⟨ad, e, hc⟩ := h k _ (List.getElem?_eq_getElem hk)
  refine ⟨ad, e, ?_, ?_⟩
  · exact hc 0 _ rfl
  · rw [← add_at _ _ 1 (by decide)]; exact hc 1 _ rfl

/-- what the loop of Put makes: the rest of it, from a row on; whether the row was put already -/
def lgo (x : Int × List Ext) : Bool → LnM → LnM
  | d, [] => if d then [] else [x]
  | d, t :: s => (if d = false ∧ x.1 ≤ t.1 then [x] else []) ++ ((if t.1 = x.1 then [] else [t]) ++ lgo x (d || decide (x.1 ≤ t.1)) s)
def lputM (s : LnM) (id : Int) (row : List Ext) : LnM × Int :=
  if id < 0 ∨ 99 < id then ([], 1) else if idxFrom id 0 (s.map (·.1)) < 0 ∧ 6 ≤ s.length then ([], 4) else (lgo (id, row) false s, 0)
theorem lgo_true (x : Int × List Ext) : ∀ s : LnM, (∀ t ∈ s, t.1 ≠ x.1) → lgo x true s = s
  | [], _ => rfl
  | t :: s, h => by
    have h1 := h t (by simp)
    rw [lgo, if_neg (by simp), if_neg h1, Bool.true_or, lgo_true x s (fun t ht => h t (by simp [ht]))]; rfl
theorem lgo_len (x : Int × List Ext) : ∀ (d : Bool) (s : LnM), (lgo x d s).length ≤ s.length + 1
  | d, [] => by unfold lgo; split <;> simp
  | d, t :: s => by
    have h1 := lgo_len x (d || decide (x.1 ≤ t.1)) s
    have h2 : (lgo x true s).length ≤ s.length := by
      clear h1
      induction s with
      | nil => simp [lgo]
      | cons t s ih =>
        rw [lgo, if_neg (by simp), Bool.true_or]
        by_cases e : t.1 = x.1
        · rw [if_pos e]; simp; omega
        · rw [if_neg e]; simp; omega
    rw [lgo]
    by_cases e : d = false ∧ x.1 ≤ t.1
    · rw [if_pos e]
      have : (d || decide (x.1 ≤ t.1)) = true := by simp [e.2]
      rw [this] at h1 ⊢
      by_cases e2 : t.1 = x.1
      · rw [if_pos e2]; simp; omega
      · rw [if_neg e2]; simp; omega
    · rw [if_neg e]
      by_cases e2 : t.1 = x.1
      · rw [if_pos e2]; simp; omega
      · rw [if_neg e2]; simp; omega
def LnRes (w' : World) (e : Ending) (s : LnM × Int) : Prop :=
  (s.2 = 0 → ∃ u, e = .returned (.tuple #[u, .int .i64 0]) ∧ LnIs w' u s.1) ∧ (s.2 ≠ 0 → e = .returned (.tuple #[.slice none 0 0, .int .i64 s.2]))
theorem LnRes.sub {a b : World} {e : Ending} {s : LnM × Int} (h : LnRes a e s) (hs : Sub a b) : LnRes b e s := ⟨fun z => by obtain ⟨u, e, t⟩ := h.1 z; exact ⟨u, e, LnIs.sub hs t⟩, h.2⟩
end Go.Ov

/- Contracts of overdubkeep.Within, need.Nodes, need.Blocks, need.Checkpoint, overdublaw24.wakes. -/
namespace Go.Proofs.YtddcjekkimajpaaGreat.Need
open Go.RowKit Go.Ov

set_option maxHeartbeats 400000 in
theorem within_any (v n : Int) (w : World) (hn : n ≤ 9223372036854775807) :
    Calls Tryz.prog 19 #[.int .i64 v, .int .i64 n] w fun e w' => e = .returned (.int .i64 (within v n)) ∧ w = w' := by
  go_enter Tryz.func19, Tryz.ntmps19
  go_wp2
  all_goals go_ret
  all_goals refine ⟨ret_int ?_, rfl⟩
  · rename_i h; unfold within; rw [if_pos h]
  · rename_i h1 h
    have := Int.emod_nonneg v (show n ≠ 0 by omega)
    have := Int.emod_lt_of_pos v (show 0 < n by omega)
    have e := tmod_lt0 v n h1 h
    unfold within; rw [if_neg (by omega)]
    show wrap64 (v.tmod n + n) = _
    rw [e]; unfold wrap64; omega
  · rename_i h1 h
    unfold within; rw [if_neg (by omega)]; exact tmod_ge0 v n h1 h

def nodes (n : Nat) : Nat := if n = 0 then 0 else if n < 8 then 1 else n / 4 + nodes (n / 4)
  termination_by n
  decreasing_by omega
def nodesI (x : Int) : Int := nodes (min x 1048576).toNat

theorem nodes_le (n : Nat) : nodes n ≤ n := by
  induction n using Nat.strongRecOn with
  | _ n ih =>
    unfold nodes
    split
    · omega
    · split
      · omega
      · have := ih (n / 4) (by omega); omega
theorem nodes_pos (n : Nat) (h : 0 < n) : 1 ≤ nodes n := by
  unfold nodes
  split
  · omega
  · split <;> omega
theorem nodes_mono (n m : Nat) (h : n ≤ m) : nodes n ≤ nodes m := by
  induction m using Nat.strongRecOn generalizing n with
  | _ m ih =>
    by_cases h0 : n = 0
    · subst h0; unfold nodes; rw [if_pos rfl]; exact Nat.zero_le _
    · by_cases h8 : n < 8
      · have := nodes_pos m (by omega)
        have e : nodes n = 1 := by unfold nodes; rw [if_neg h0, if_pos h8]
        omega
      · have := ih (m / 4) (by omega) (n / 4) (by omega)
        unfold nodes
        rw [if_neg h0, if_neg h8, if_neg (by omega), if_neg (by omega)]
        omega

def blocks (n : Int) : Int := if n ≤ 0 then 0 else (n - 1) / 40 + 1
theorem nodesI_1 : nodesI 1 = 1 := by unfold nodesI nodes; rfl
def sums (l : List Int) : Int := (l.map nodesI).sum
def sumss (ls : List (List Int)) : Int := (ls.map sums).sum
end Go.Proofs.YtddcjekkimajpaaGreat.Need

/- Contracts of package piece and extent's functions, and of overdublaw16.Row. -/
namespace Go.Proofs.YtddcjekkimajpaaGreat.ExtW
open Go.RowKit Go.Ov Go.Proofs.YtddcjekkimajpaaGreat.Need

theorem infoExt : (Tryz.prog.info? 81).map (fun i => (i.zero, i.size, i.bytes)) = some (some (.agg #[.int .i64 0, .int .i64 0, .int .i64 0, .int .i64 0, .int .i64 0]), 5, 40) := by kernel_rfl

set_option maxRecDepth 100000 in
set_option maxHeartbeats 1000000 in
theorem end_any (v : Value) (l : List Ext) (w : World) (h : extE.Is w v l) :
    Calls Tryz.prog 65 #[v] w fun e w' => e = .returned (.int .i64 (wrap64 (endM l))) ∧ Bl w w' := by
  obtain ⟨A, c, rfl, h1, h2, h3, h4⟩ := h
  have HA := Lib.hid h4
  have hl : l.length ≤ 9223372036854775807 := by unfold maxLen at h2; omega
  have hu := Tryz.underlying81
  clear h1 h2 h3 h4
  go_enter Tryz.func65, Tryz.ntmps65
  go_wp2
  go_loopg [3, 8] l.length (fun g s i wr => ∃ k : Nat, k ≤ l.length ∧ g = l.length - k ∧ i = .int .i64 k ∧ s = .int .i64 (wrap64 (psum Ext.take l k)) ∧ Bl w wr)
  case atStart => exact ⟨0, by omega, rfl, rfl, by rw [psum_zero]; exact congrArg (Value.int .i64) (wrap_id (by decide) (by decide)).symm, Bl.refl _⟩
  case round =>
    obtain ⟨k, hk, rfl, rfl, rfl, hbl⟩ := hrel
    have HB := Lib.hid hbl
    clear hbl
    by_cases hlt : k < l.length
    · obtain ⟨ad, rfl, c0, c1, c2, c3, c4⟩ := ext_at (HA.out.bl HB.out) k hlt
      have hst := Lib.hid (psum_succ Ext.take l k hlt)
      generalize l[k] = x at *
      obtain ⟨x0, x1, x2, x3, x4⟩ := x
      dsimp only at c0 c1 c2 c3 c4
      go_wp2
      go_roundg (l.length - (k + 1))
      case measure => omega
      case rel => exact ⟨k + 1, by omega, rfl, by go_num, by rw [hst.out, wrap_wrap_add], HB.out.alloc _⟩
    · go_wp2
      go_ret
      exact ⟨ret_int (by rw [psum_all _ _ _ (by omega)]; rfl), HB.out⟩

set_option maxRecDepth 100000 in
set_option maxHeartbeats 1000000 in
theorem one_any (x : Ext) (w : World) : Calls Tryz.prog 98 #[x.v] w fun e w' => e = .returned (.bool (oneB x)) ∧ w.alloc (.cells #[.int .i64 x.at_, .int .i64 x.sector, .int .i64 x.count, .int .i64 x.skip, .int .i64 x.take] 81) = w' := by
  obtain ⟨x0, x1, x2, x3, x4⟩ := x
  have hu := Tryz.underlying81
  show Calls Tryz.prog 98 #[.agg #[.int .i64 x0, .int .i64 x1, .int .i64 x2, .int .i64 x3, .int .i64 x4]] w _
  go_enter Tryz.func98, Tryz.ntmps98
  go_wp2
  all_goals (go_ret; refine ⟨ret_bool ?_, rfl⟩; rw [Bool.eq_iff_iff]; simp [oneB]; omega)

set_option maxRecDepth 100000 in
set_option maxHeartbeats 1000000 in
theorem pvalid_any (v : Value) (l : List Ext) (w : World) (h : extE.Is w v l) : Calls Tryz.prog 71 #[v] w fun e w' => e = .returned (.bool (validFrom 0 l)) ∧ Bl w w' := by
  obtain ⟨A, c, rfl, h1, h2, h3, h4⟩ := h
  have HA := Lib.hid h4
  have hl : l.length ≤ 9223372036854775807 := by unfold maxLen at h2; omega
  have hu := Tryz.underlying81
  clear h1 h2 h3 h4
  go_enter Tryz.func71, Tryz.ntmps71
  go_wp2
  go_loopg [3, 8] l.length (fun g s i wr => ∃ (k : Nat) (a : Int), k ≤ l.length ∧ g = l.length - k ∧ i = .int .i64 k ∧ s = .int .i64 a ∧ Hid (validFrom 0 l = validFrom a (l.drop k)) ∧ 0 ≤ a ∧ a ≤ 1000 ∧ Bl w wr)
  case atStart => exact ⟨0, 0, by omega, rfl, rfl, rfl, Lib.hid rfl, by omega, by omega, Bl.refl _⟩
  case round =>
    obtain ⟨k, a, hk, rfl, rfl, rfl, hv, ha0, ha1, hbl⟩ := hrel
    have HB := Lib.hid hbl
    clear hbl
    by_cases hlt : k < l.length
    · obtain ⟨ad, rfl, c0, c1, c2, c3, c4⟩ := ext_at (HA.out.bl HB.out) k hlt
      have hd := Lib.hid (List.drop_eq_getElem_cons hlt)
      generalize hx : l[k] = x at *
      have HX := Lib.hid hx
      clear hx
      by_cases t1 : oneB x = true
      · have ht := Lib.hid t1
        have hcase : validFrom a (x :: l.drop (k + 1)) = ((x.at_ == a) && decide (x.take ≤ 1000 - a) && validFrom (a + x.take) (l.drop (k + 1))) := by simp [validFrom, t1]
        have HC := Lib.hid hcase
        have htk : 1 ≤ x.take := by simp [oneB] at t1; omega
        obtain ⟨x0, x1, x2, x3, x4⟩ := x
        dsimp only at c0 c1 c2 c3 c4 htk
        clear hcase
        go_wp2_with (go_at_call 98; refine (one_any ⟨x0, x1, x2, x3, x4⟩ _).mono ?_; rintro e w' ⟨rfl, rfl⟩)
        · go_ret
          refine ⟨ret_bool ?_, (HB.out.alloc _).alloc _⟩
          rw [hv.out, hd.out, HC.out, Bool.eq_iff_iff]; simp; intros; exfalso; omega
        · go_roundg (l.length - (k + 1))
          case measure => omega
          case rel =>
            refine ⟨k + 1, a + x4, by omega, rfl, by go_num, rfl, Lib.hid ?_, by omega, by omega, (HB.out.alloc _).alloc _⟩
            rw [hv.out, hd.out, HC.out]; simp; omega
        · go_ret
          refine ⟨ret_bool ?_, (HB.out.alloc _).alloc _⟩
          rw [hv.out, hd.out, HC.out, Bool.eq_iff_iff]; simp; intros; exfalso; omega
      · have t1' : oneB x = false := by simpa using t1
        have hcase : validFrom a (x :: l.drop (k + 1)) = false := by simp [validFrom, t1']
        have HC := Lib.hid hcase
        clear t1 hcase
        obtain ⟨x0, x1, x2, x3, x4⟩ := x
        dsimp only at c0 c1 c2 c3 c4
        go_wp2_with (go_at_call 98; refine (one_any ⟨x0, x1, x2, x3, x4⟩ _).mono ?_; rintro e w' ⟨rfl, rfl⟩)
        go_ret
        exact ⟨ret_bool (by rw [hv.out, hd.out, HC.out]), (HB.out.alloc _).alloc _⟩
    · go_wp2
      go_ret
      refine ⟨ret_bool ?_, HB.out⟩
      rw [hv.out, List.drop_of_length_le (by omega)]; rfl

set_option maxRecDepth 100000 in
set_option maxHeartbeats 1000000 in
theorem valid_any (v : Value) (l : List Ext) (w : World) (h : extE.Is w v l) : Calls Tryz.prog 64 #[v] w fun e w' => e = .returned (.bool (validFrom 0 l)) ∧ Bl w w' := by
  have HH := Lib.hid h
  clear h
  go_enter Tryz.func64, Tryz.ntmps64
  go_wp2_with (go_at_call 71; refine (pvalid_any _ _ _ HH.out).mono ?_; rintro e w' ⟨rfl, hb⟩)
  go_ret
  exact ⟨rfl, hb⟩

def pflat {α β : Type} (f : α → List β) (l : List α) (k : Nat) : List β := (l.take k).flatMap f
theorem pflat_zero {α β : Type} (f : α → List β) (l : List α) : pflat f l 0 = [] := rfl
theorem pflat_succ {α β : Type} (f : α → List β) (l : List α) (k : Nat) (h : k < l.length) : pflat f l (k + 1) = pflat f l k ++ f l[k] := by
  unfold pflat; rw [List.take_succ_eq_append_getElem h, List.flatMap_append]; simp
theorem pflat_all {α β : Type} (f : α → List β) (l : List α) (k : Nat) (h : l.length ≤ k) : pflat f l k = l.flatMap f := by
  unfold pflat; rw [List.take_of_length_le h]
theorem pflat_len {α β : Type} (f : α → List β) (hf : ∀ x, (f x).length ≤ 1) (l : List α) : ∀ k, (pflat f l k).length ≤ k
  | 0 => by rw [pflat_zero]; simp
  | k + 1 => by
    have ih := pflat_len f hf l k
    by_cases h : k < l.length
    · rw [pflat_succ _ _ _ h, List.length_append]; have := hf l[k]; omega
    · rw [pflat_all _ _ _ (by omega)]; rw [pflat_all _ _ _ (by omega)] at ih; omega

set_option maxRecDepth 100000 in
set_option maxHeartbeats 1000000 in
theorem shift_any (v : Value) (l : List Ext) (by_ : Int) (w : World) (h : extE.Is w v l) (hn : l.length * 40 ≤ 140737488355328) :
    Calls Tryz.prog 115 #[v, .int .i64 by_] w fun e w' => ∃ u, e = .returned u ∧ extE.Own 81 w' w.heap.size u (shiftM by_ l) ∧ Bl w w' := by
  obtain ⟨A, c, rfl, h1, h2, h3, h4⟩ := h
  have HA := Lib.hid h4
  have hl : l.length ≤ 9223372036854775807 := by unfold maxLen at h2; omega
  have hu := Tryz.underlying81
  clear h1 h2 h3 h4
  go_enter Tryz.func115, Tryz.ntmps115
  go_wp2
  go_loopg [5, 10] l.length (fun g s i wr => ∃ (k : Nat), k ≤ l.length ∧ g = l.length - k ∧ i = .int .i64 k ∧ extE.Own 81 wr w.heap.size s (pmap (shiftE by_) l k) ∧ Bl w wr)
  case atStart => exact ⟨0, by omega, rfl, rfl, Enc.Own.nil _ _ _, Bl.refl _⟩
  case round =>
    obtain ⟨k, hk, rfl, rfl, ho, hbl⟩ := hrel
    have HB := Lib.hid hbl
    have HO := Lib.hid ho
    clear hbl ho
    by_cases hlt : k < l.length
    · obtain ⟨ad, rfl, c0, c1, c2, c3, c4⟩ := ext_at (HA.out.bl HB.out) k hlt
      have hst := Lib.hid (pmap_succ (shiftE by_) l k hlt)
      have hlen := Lib.hid (pmap_len (shiftE by_) l k hk)
      generalize pmap (shiftE by_) l k = xs at *
      generalize l[k] = x at *
      obtain ⟨x0, x1, x2, x3, x4⟩ := x
      dsimp only at c0 c1 c2 c3 c4
      go_wp2_with (at_builtin; refine Enc.Own.append1 (E := extE) rfl (.tmp 19) (.tmp 21) 44 rfl w.heap.size 81 (.agg #[.int .i64 0, .int .i64 0, .int .i64 0, .int .i64 0, .int .i64 0]) 5 40 Tryz.underlying44 infoExt rfl rfl (by decide) (by decide) u5 xs rfl (HO.out.bl ((Bl.refl _).alloc _)) ⟨wrap64 (x0 + by_), x1, x2, x3, x4⟩ _ rfl (by simp) rfl ?hlen ?hbase ?_; (case hlen => have := hlen.out; omega); (case hbase => exact (HB.out.alloc _).size); intro v1 w1 ho hg)
      go_roundg (l.length - (k + 1))
      case measure => omega
      case rel => exact ⟨k + 1, by omega, rfl, by go_num, by rw [hst.out]; exact ho, ((HB.out.alloc _).alloc _).grown hg (fun k hk => (Enc.Own.lt HO.out k hk).1)⟩
    · go_wp2
      go_ret
      exact ⟨_, rfl, by have := HO.out; rw [pmap_all _ _ _ (by omega)] at this; exact this, HB.out⟩

set_option maxRecDepth 100000 in
set_option maxHeartbeats 1000000 in
theorem cut_any (v : Value) (l : List Ext) (a b : Int) (w : World) (h : extE.Is w v l) (hn : l.length * 40 ≤ 140737488355328) :
    Calls Tryz.prog 114 #[v, .int .i64 a, .int .i64 b] w fun e w' => ∃ u, e = .returned u ∧ extE.Own 81 w' w.heap.size u (cutM a b l) ∧ Bl w w' := by
  obtain ⟨A, c, rfl, h1, h2, h3, h4⟩ := h
  have HA := Lib.hid h4
  have hl : l.length ≤ 9223372036854775807 := by unfold maxLen at h2; omega
  have hu := Tryz.underlying81
  clear h1 h2 h3 h4
  go_enter Tryz.func114, Tryz.ntmps114
  go_wp2
  go_loopg [7, 14] l.length (fun g s i wr => ∃ (k : Nat), k ≤ l.length ∧ g = l.length - k ∧ i = .int .i64 k ∧ extE.Own 81 wr w.heap.size s (pflat (cutE a b) l k) ∧ Bl w wr)
  case atStart => exact ⟨0, by omega, rfl, rfl, Enc.Own.nil _ _ _, Bl.refl _⟩
  case round =>
    obtain ⟨k, hk, rfl, rfl, ho, hbl⟩ := hrel
    have HB := Lib.hid hbl
    have HO := Lib.hid ho
    clear hbl ho
    by_cases hlt : k < l.length
    · obtain ⟨ad, rfl, c0, c1, c2, c3, c4⟩ := ext_at (HA.out.bl HB.out) k hlt
      have hst := Lib.hid (pflat_succ (cutE a b) l k hlt)
      have hlen := Lib.hid (pflat_len (cutE a b) (cutE_len a b) l k)
      generalize pflat (cutE a b) l k = xs at *
      generalize l[k] = x at *
      obtain ⟨x0, x1, x2, x3, x4⟩ := x
      dsimp only at c0 c1 c2 c3 c4
      go_wp2_with fail
      go_quiet (fail)
      by_cases ht : max x0 a < min (wrap64 (x0 + x4)) b
      · have hc : cutE a b ⟨x0, x1, x2, x3, x4⟩ = [⟨max x0 a, x1, x2, wrap64 (wrap64 (x3 + max x0 a) - x0), wrap64 (min (wrap64 (x0 + x4)) b - max x0 a)⟩] := if_pos ht
        have HC := Lib.hid hc
        clear hc
        go_wp2_with (at_builtin; refine Enc.Own.append1 (E := extE) rfl (.tmp 32) (.tmp 49) 44 rfl w.heap.size 81 (.agg #[.int .i64 0, .int .i64 0, .int .i64 0, .int .i64 0, .int .i64 0]) 5 40 Tryz.underlying44 infoExt rfl rfl (by decide) (by decide) u7 xs rfl (HO.out.bl (((Bl.refl _).alloc _).drewN _)) ⟨max x0 a, x1, x2, wrap64 (wrap64 (x3 + max x0 a) - x0), wrap64 (min (wrap64 (x0 + x4)) b - max x0 a)⟩ _ rfl (by simp) rfl ?hlen ?hbase ?_; (case hlen => have := hlen.out; omega); (case hbase => exact ((HB.out.alloc _).drewN _).size); intro v1 w1 ho hg)
        go_roundg (l.length - (k + 1))
        case measure => omega
        case rel => exact ⟨k + 1, by omega, rfl, by go_num, by rw [hst.out, HC.out]; exact ho, (((HB.out.alloc _).drewN _).alloc _).grown hg (fun k hk => (Enc.Own.lt HO.out k hk).1)⟩
      · have hc : cutE a b ⟨x0, x1, x2, x3, x4⟩ = [] := if_neg ht
        have HC := Lib.hid hc
        clear hc
        go_wp2
        go_roundg (l.length - (k + 1))
        case measure => omega
        case rel => exact ⟨k + 1, by omega, rfl, by go_num, by rw [hst.out, HC.out, List.append_nil]; exact HO.out.bl (((Bl.refl _).alloc _).drewN _), (HB.out.alloc _).drewN _⟩
    · go_wp2
      go_ret
      exact ⟨_, rfl, by have := HO.out; rw [pflat_all _ _ _ (by omega)] at this; exact this, HB.out⟩

theorem ret2 {u : Value} {a b : Int} (h : a = b) : Ending.returned (.tuple #[u, .int .i64 a]) = .returned (.tuple #[u, .int .i64 b]) := by rw [h]

set_option maxRecDepth 100000 in
set_option maxHeartbeats 1000000 in
theorem splice_any (v u : Value) (l new : List Ext) (fr tt : Int) (w : World) (h : extE.Is w v l) (hn : extE.Is w u new) (hv : validFrom 0 l = true) (hlen : new.length * 40 ≤ 100000000000000) :
    Calls Tryz.prog 103 #[v, .int .i64 fr, .int .i64 tt, u] w fun e w' => ∃ z, e = .returned (.tuple #[z, .int .i64 (spliceM l fr tt new).2]) ∧ extE.Own 81 w' w.heap.size z (spliceM l fr tt new).1 ∧ Bl w w' := by
  have hb := validFrom_bd l 0 (by decide) hv
  have hE : wrap64 (endM l) = endM l := wrap_id (by omega) (by omega)
  have HE := Lib.hid hE
  have HL := Lib.hid h
  have HN := Lib.hid hn
  clear h hn hE hv
  obtain ⟨hb1, hb2⟩ := hb
  by_cases hbad : spliceBad l fr tt new = true
  · have hm : spliceM l fr tt new = ([], 1) := if_pos hbad
    have HM := Lib.hid hm
    rw [hm]
    clear hm
    have hor : validFrom 0 new = false ∨ validFrom 0 new = true ∧ (fr < 0 ∨ ¬ fr < 0 ∧ (tt < fr ∨ ¬ tt < fr ∧ endM l < fr)) := by
      simp only [spliceBad, Bool.or_eq_true, Bool.not_eq_true', decide_eq_true_eq] at hbad
      cases hq : validFrom 0 new
      · exact .inl rfl
      · refine .inr ⟨rfl, ?_⟩
        simp [hq] at hbad; omega
    clear hbad
    rcases hor with hq | ⟨hq, h1 | ⟨h1, h2 | ⟨h2, h3⟩⟩⟩
    all_goals
      have HQ := Lib.hid hq
      clear hq
      go_enter Tryz.func103, Tryz.ntmps103
      go_wp2_with fail
      refine (end_any _ _ _ HL.out).mono ?_
      rintro e w1 ⟨rfl, hb1⟩
      rw [HE.out]
      go_wp2_with fail
      refine (valid_any _ _ _ (HN.out.bl hb1)).mono ?_
      rintro e w2 ⟨rfl, hb2⟩
      rw [HQ.out]
      have HB := Lib.hid (hb1.trans hb2)
      clear hb1 hb2
      go_wp2
      go_ret2
      exact ⟨_, rfl, Enc.Own.nil _ _ _, HB.out⟩
  · have hg : validFrom 0 new = true ∧ ¬ fr < 0 ∧ ¬ tt < fr ∧ ¬ endM l < fr := by
      simp only [spliceBad, Bool.or_eq_true, Bool.not_eq_true', decide_eq_true_eq, not_or] at hbad
      simp at hbad; exact ⟨hbad.1.1.1, by omega, by omega, by omega⟩
    have hm : spliceM l fr tt new = (if spliceLong l fr tt new then ([], 4) else (spliceL l fr tt new, 0)) := if_neg hbad
    clear hbad
    obtain ⟨hq, h1, h2, h3⟩ := hg
    obtain ⟨nb1, nb2⟩ := validFrom_bd new 0 (by decide) hq
    have HF := Lib.hid (show wrap64 (endM new) = endM new from wrap_id (by omega) (by omega))
    have HQ := Lib.hid hq
    clear hq
    have ln1 := cutM_len 0 fr l
    have ln2 := shiftM_len fr new
    have ln3 := cutM_len (min tt (endM l)) (endM l) l
    have ln4 := shiftM_len (fr + endM new - min tt (endM l)) (cutM (min tt (endM l)) (endM l) l)
    have HX := Lib.hid (show spliceL l fr tt new = (cutM 0 fr l ++ shiftM fr new) ++ shiftM (fr + endM new - min tt (endM l)) (cutM (min tt (endM l)) (endM l) l) from rfl)
    have HY := Lib.hid (show spliceLong l fr tt new = decide (1000 < fr + endM new + endM l - min tt (endM l)) from rfl)
    have HM := Lib.hid hm
    rw [hm]
    clear hm
    generalize spliceL l fr tt new = R at *
    have H1 := Lib.hid (And.intro ln1 (And.intro ln2 (And.intro ln3 ln4)))
    clear ln1 ln2 ln3 ln4
    by_cases hlong : spliceLong l fr tt new = true
    all_goals
      have hlg := hlong
      rw [HY.out] at hlg
      simp only [decide_eq_true_eq] at hlg
      simp only [hlong, if_true]
      clear hlong
      go_enter Tryz.func103, Tryz.ntmps103
      go_wp2_with fail
      refine (end_any _ _ _ HL.out).mono ?_
      rintro e w1 ⟨rfl, hb1⟩
      rw [HE.out]
      go_wp2_with fail
      refine (valid_any _ _ _ (HN.out.bl hb1)).mono ?_
      rintro e w2 ⟨rfl, hb2⟩
      rw [HQ.out]
      have HB := Lib.hid (hb1.trans hb2)
      clear hb1 hb2
      go_wp2_with fail
      refine (end_any _ _ _ (HN.out.bl HB.out)).mono ?_
      rintro e w3 ⟨rfl, hb3⟩
      rw [HF.out]
      have HB3 := Lib.hid (HB.out.trans hb3)
      clear hb3 HB
      go_wp2_with fail
      refine (cut_any _ _ _ _ _ (HL.out.bl HB3.out) (by omega)).mono ?_
      rintro e w4 ⟨u1, rfl, ho1, hb4⟩
      have HO1 := Lib.hid ho1
      have HB4 := Lib.hid (HB3.out.trans hb4)
      have HC := Lib.hid hb4.size
      clear ho1 hb4
      go_wp2_with fail
      refine (shift_any _ _ _ _ (HN.out.bl HB4.out) (by omega)).mono ?_
      rintro e w5 ⟨u2, rfl, ho2, hb5⟩
      have HO2 := Lib.hid ho2
      have HO1' := Lib.hid (HO1.out.bl hb5)
      have HB5 := Lib.hid (HB4.out.trans hb5)
      clear ho2 hb5 HO1
      go_wp2_with (at_builtin; refine Enc.Own.append (E := extE) rfl (.tmp 41) (.tmp 44) 44 rfl w.heap.size 81 (.agg #[.int .i64 0, .int .i64 0, .int .i64 0, .int .i64 0, .int .i64 0]) 5 40 Tryz.underlying44 infoExt rfl rfl (by decide) (by decide) u1 _ rfl (HO1'.out.low HB3.out.size) u2 _ rfl HO2.out.is ?hlen HB5.out.size ?_; (case hlen => have := H1.out; omega); intro u3 w6 ho3 hg3)
      have HB6 := Lib.hid (HB5.out.grown hg3 (fun k hk => Nat.le_trans HB3.out.size (Enc.Own.lt HO1'.out k hk).1))
      have HO3 := Lib.hid ho3
      clear ho3 hg3 HO1' HO2
      go_wp2_with fail
      refine (cut_any _ _ _ _ _ (HL.out.bl HB6.out) (by omega)).mono ?_
      rintro e w7 ⟨u4, rfl, ho4, hb7⟩
      have HO4 := Lib.hid ho4
      have HB7 := Lib.hid (HB6.out.trans hb7)
      have HO3' := Lib.hid (HO3.out.bl hb7)
      clear ho4 hb7 HO3
      go_wp2_with fail
      refine (shift_any _ _ _ _ HO4.out.is (by have := H1.out; omega)).mono ?_
      rintro e w8 ⟨u5, rfl, ho5, hb8⟩
      have HO5 := Lib.hid ho5
      have HB8 := Lib.hid (HB7.out.trans hb8)
      have HO3 := Lib.hid (HO3'.out.bl hb8)
      clear ho5 hb8 HO3'
      go_wp2_with (at_builtin; refine Enc.Own.append (E := extE) rfl (.tmp 46) (.tmp 54) 44 rfl w.heap.size 81 (.agg #[.int .i64 0, .int .i64 0, .int .i64 0, .int .i64 0, .int .i64 0]) 5 40 Tryz.underlying44 infoExt rfl rfl (by decide) (by decide) u3 _ rfl HO3.out u5 _ rfl HO5.out.is ?hlen HB8.out.size ?_; (case hlen => have := H1.out; rw [List.length_append]; omega); intro u6 w9 ho6 hg6)
      have HB9 := Lib.hid (HB8.out.grown hg6 (fun k hk => (Enc.Own.lt HO3.out k hk).1))
      have HO6 := Lib.hid ho6
      clear ho6 hg6
      go_ret2
      first
        | exact ⟨_, rfl, Enc.Own.nil _ _ _, HB9.out⟩
        | exact ⟨_, rfl, by rw [HX.out]; exact HO6.out, HB9.out⟩
end Go.Proofs.YtddcjekkimajpaaGreat.ExtW
