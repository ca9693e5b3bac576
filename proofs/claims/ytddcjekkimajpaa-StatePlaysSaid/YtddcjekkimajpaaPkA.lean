/- Several texts joined (see each one's head). -/
import Derived.WalkKit
import Derived.WalkSpells
import Derived.WalkLawsBesides
import Derived.BigQuiet
import Derived.Deep.QuietTactic
import Derived.Deep.DeepCutAuto
import Derived.Deep.LoopGhost
import Derived.Lib.Hide
import Derived.OwnWalk
import Derived.Laws.OwnMore
import Derived.Lib.MinMax
import Derived.Test.YtddcjekkimajpaaProg
import Derived.ProofKit
import Derived.OpenShut
import Derived.ShutString
import Derived.ChangeOld
import Derived.SizedLaws
import Derived.Deep.Slices
import Derived.Lib.SmallJoins
/- Slices as lists: what a slice reads as, what a call owns, append; small words for walks. No program in sight. -/
namespace Go.Ov
open Go.RowKit

theorem ret_int {k : IntKind} {a b : Int} (h : a = b) : Ending.returned (.int k a) = .returned (.int k b) := by rw [h]
theorem ret_bool {a b : Bool} (h : a = b) : Ending.returned (.bool a) = .returned (.bool b) := by rw [h]

theorem wrap_id {a : Int} (h1 : -9223372036854775808 ≤ a) (h2 : a ≤ 9223372036854775807) : wrap64 a = a := by unfold wrap64; omega
theorem wrap_wrap_add (a b : Int) : wrap64 (wrap64 a + b) = wrap64 (a + b) := by unfold wrap64; omega

/-- any number as one from 0 to n - 1 -/
def within (v n : Int) : Int := if n < 1 then 0 else v % n

theorem tmod_lt0 (v n : Int) (hn : 1 ≤ n) (h : Int.tmod v n < 0) : Int.tmod v n + n = v % n := by
  rw [Int.tmod_eq_emod] at h ⊢
  have := Int.emod_nonneg v (show n ≠ 0 by omega)
  split at h <;> split <;> simp_all <;> omega
theorem tmod_ge0 (v n : Int) (hn : 1 ≤ n) (h : 0 ≤ Int.tmod v n) : Int.tmod v n = v % n := by
  rw [Int.tmod_eq_emod] at h ⊢
  have := Int.emod_lt_of_pos v (show 0 < n by omega)
  split at h <;> split <;> simp_all <;> omega
theorem within_bd (v n : Int) (hn : 1 ≤ n) : 0 ≤ within v n ∧ within v n < n := by
  unfold within; rw [if_neg (by omega)]; exact ⟨Int.emod_nonneg _ (by omega), Int.emod_lt_of_pos _ (by omega)⟩

/-- the sum of a list's beginning -/
def psum {α : Type} (f : α → Int) (l : List α) (k : Nat) : Int := ((l.take k).map f).sum
theorem psum_zero {α : Type} (f : α → Int) (l : List α) : psum f l 0 = 0 := rfl
theorem psum_succ {α : Type} (f : α → Int) (l : List α) (k : Nat) (h : k < l.length) : psum f l (k + 1) = psum f l k + f l[k] := by
  unfold psum; rw [List.take_succ_eq_append_getElem h, List.map_append, List.sum_append]; simp
theorem psum_all {α : Type} (f : α → Int) (l : List α) (k : Nat) (h : l.length ≤ k) : psum f l k = (l.map f).sum := by
  unfold psum; rw [List.take_of_length_le h]

/-- a list's beginning, mapped -/
def pmap {α β : Type} (f : α → β) (l : List α) (k : Nat) : List β := (l.take k).map f
theorem pmap_zero {α β : Type} (f : α → β) (l : List α) : pmap f l 0 = [] := rfl
theorem pmap_succ {α β : Type} (f : α → β) (l : List α) (k : Nat) (h : k < l.length) : pmap f l (k + 1) = pmap f l k ++ [f l[k]] := by
  unfold pmap; rw [List.take_succ_eq_append_getElem h, List.map_append]; rfl
theorem pmap_all {α β : Type} (f : α → β) (l : List α) (k : Nat) (h : l.length ≤ k) : pmap f l k = l.map f := by
  unfold pmap; rw [List.take_of_length_le h]
theorem pmap_len {α β : Type} (f : α → β) (l : List α) (k : Nat) (h : k ≤ l.length) : (pmap f l k).length = k := by
  unfold pmap; rw [List.length_map, List.length_take]; omega

/-- nothing that was there has turned -/
abbrev Bl (w w' : World) : Prop := Below w.heap.size w w'
theorem Bl.trans {a b c : World} (h : Bl a b) (k : Bl b c) : Bl a c := Below.trans h (Below.mono k h.size)
theorem Bl.alloc {a b : World} (h : Bl a b) (o : Obj) : Bl a (b.alloc o) := Below.alloc h h.size o
theorem Bl.drewN {a b : World} (h : Bl a b) (n : Nat) : Bl a (b.drewN n) := ⟨h.os, h.tape, h.output, h.size, h.block⟩
theorem Bl.drew {a b : World} (h : Bl a b) : Bl a b.drew := Below.drew h
theorem Bl.bl {a b c : World} (h : Bl a b) (k : Bl b c) : Bl a c := Bl.trans h k
theorem Bl.refl (a : World) : Bl a a := Below.refl _ _
theorem Bl.cell {w w1 : World} (h : Bl w w1) {a : Addr} {v : Value} (hc : w.cell? a = some v) : w1.cell? a = some v := (Below.cell h (World.block_lt_of_cell? w a hc)).trans hc
theorem Bl.grown {a b c : World} {row : Option Nat} (h : Bl a b) (hg : b.grownBy c row) (hr : ∀ k, row = some k → a.heap.size ≤ k) : Bl a c := Below.grown h hg h.size hr

/-- how a datum lies in cells -/
structure Enc (α : Type) where
  sz : Nat
  c : α → List Value
  len : ∀ x, (c x).length = sz
  one : ∀ x u, u ∈ c x → u.oneCell' = true

def intE : Enc Int := ⟨1, fun x => [.int .i64 x], fun _ => rfl, fun x u h => by simp at h; subst h; rfl⟩
/-- a slice's head -/
structure Head where
  A : Option Addr
  n : Nat
  cap : Nat
def Head.v (h : Head) : Value := .slice h.A h.n h.cap
def headE : Enc Head := ⟨1, fun h => [h.v], fun _ => rfl, fun x u h => by simp at h; subst h; rfl⟩

section
variable {α : Type} (E : Enc α)

def Enc.At (w : World) (A : Option Addr) (xs : List α) : Prop :=
  ∀ i x, xs[i]? = some x → ∃ ad, A = some ad ∧ ∀ j u, (E.c x)[j]? = some u → w.cell? (ad.add (i * E.sz + j)) = some u
def Enc.Is (w : World) (v : Value) (xs : List α) : Prop := ∃ A c, v = .slice A xs.length c ∧ xs.length ≤ c ∧ c ≤ maxLen ∧ (A = none → c = 0) ∧ E.At w A xs
def Enc.Own (e : TypeId) (w : World) (base : Nat) (v : Value) (xs : List α) : Prop := w.ownsRow base e E.sz v xs.length (xs.flatMap E.c)

variable {E}
theorem Enc.At.nil (w : World) (A : Option Addr) : E.At w A [] := fun i x h => by simp at h
theorem Enc.Is.nil (w : World) : E.Is w (.slice none 0 0) [] := ⟨none, 0, rfl, Nat.le_refl _, Nat.zero_le _, fun _ => rfl, Enc.At.nil w _⟩
theorem Enc.At.bl {w w' : World} {A : Option Addr} {xs : List α} (h : E.At w A xs) (hb : Bl w w') : E.At w' A xs := fun i x hx => by
  obtain ⟨ad, e, hc⟩ := h i x hx
  exact ⟨ad, e, fun j u hu => hb.cell (hc j u hu)⟩
theorem Enc.Is.bl {w w' : World} {v : Value} {xs : List α} (h : E.Is w v xs) (hb : Bl w w') : E.Is w' v xs := by
  obtain ⟨A, c, e, hl, hm, hn, hA⟩ := h
  exact ⟨A, c, e, hl, hm, hn, hA.bl hb⟩
theorem flat_get (E : Enc α) (xs : List α) (i : Nat) (x : α) (hx : xs[i]? = some x) (j : Nat) (u : Value) (hu : (E.c x)[j]? = some u) : (xs.flatMap E.c)[i * E.sz + j]? = some u := by
  induction xs generalizing i with
  | nil => simp at hx
  | cons y ys ih =>
    rw [List.flatMap_cons]
    cases i with
    | zero =>
      simp at hx; subst hx
      have hj : j < (E.c y).length := (List.getElem?_eq_some_iff.1 hu).1
      rw [Nat.zero_mul, Nat.zero_add, List.getElem?_append_left hj]; exact hu
    | succ i =>
      simp at hx
      rw [List.getElem?_append_right (by rw [E.len, Nat.succ_mul]; omega), E.len, show (i + 1) * E.sz + j - E.sz = i * E.sz + j by rw [Nat.succ_mul]; omega]
      exact ih i hx
theorem flat_len (E : Enc α) (xs : List α) : (xs.flatMap E.c).length = xs.length * E.sz := by
  induction xs with
  | nil => simp
  | cons y ys ih => rw [List.flatMap_cons, List.length_append, ih, E.len, List.length_cons, Nat.succ_mul, Nat.add_comm]
theorem flat_one (E : Enc α) (xs : List α) : ∀ u ∈ xs.flatMap E.c, u.oneCell' = true := by
  intro u hu
  obtain ⟨x, _, hx⟩ := List.mem_flatMap.1 hu
  exact E.one x u hx
theorem Enc.Own.nil (e : TypeId) (w : World) (base : Nat) : E.Own e w base (.slice none 0 0) [] := ⟨by simp, .inl ⟨rfl, rfl⟩⟩
theorem Enc.Own.lt {e : TypeId} {w : World} {base : Nat} {v : Value} {xs : List α} (h : E.Own e w base v xs) (k : Nat) (hk : v.ownBlock = some k) : base ≤ k ∧ k < w.heap.size := World.ownsRow.lt h k hk
theorem Enc.Own.is {e : TypeId} {w : World} {base : Nat} {v : Value} {xs : List α} (h : E.Own e w base v xs) : E.Is w v xs := by
  have hc := fun g (hg : v.ownBlock = some g) => World.ownsRow.cells h hg
  rcases h.2 with ⟨rfl, hn⟩ | ⟨g, cap, cur, rfl, _, _, hl, hm, _, _⟩
  · have : xs = [] := List.eq_nil_of_length_eq_zero hn
    subst this; exact Enc.Is.nil w
  · exact ⟨_, cap, rfl, hl, hm, (fun h => by cases h), fun i x hx => ⟨_, rfl, fun j u hu => hc g rfl _ u (flat_get E xs i x hx j u hu)⟩⟩
theorem Enc.Own.bl {e : TypeId} {w w' : World} {base : Nat} {v : Value} {xs : List α} (h : E.Own e w base v xs) (hb : Bl w w') : E.Own e w' base v xs :=
  World.ownsRow.kept (row := none) h ⟨hb.os, hb.tape, hb.output, hb.size, fun k hk _ => hb.block k hk⟩ (by cases v.ownBlock <;> simp)
theorem Enc.Own.grown {e : TypeId} {w w' : World} {base : Nat} {v : Value} {xs : List α} {row : Option Nat} (h : E.Own e w base v xs) (hg : w.grownBy w' row) (hne : v.ownBlock = none ∨ v.ownBlock ≠ row) : E.Own e w' base v xs := World.ownsRow.kept h hg hne
theorem Enc.Own.slice {e : TypeId} {w : World} {base : Nat} {v : Value} {xs : List α} (h : E.Own e w base v xs) : ∃ A c, v = .slice A xs.length c := by
  obtain ⟨A, c, e, _⟩ := h.is; exact ⟨A, c, e⟩
theorem Enc.Own.low {e : TypeId} {w : World} {base base' : Nat} {v : Value} {xs : List α} (h : E.Own e w base v xs) (hb : base' ≤ base) : E.Own e w base' v xs := by
  refine ⟨h.1, ?_⟩
  rcases h.2 with h | ⟨g, cap, cur, h1, h2, h3⟩
  · exact .inl h
  · exact .inr ⟨g, cap, cur, h1, Nat.le_trans hb h2, h3⟩

/-- a new block, written out: a slice of all of it -/
theorem Enc.Own.lit {e : TypeId} (w : World) (base : Nat) (xs : List α) (cs : Array Value) (hcs : cs.toList = xs.flatMap E.c) (n : Nat) (hn : n = xs.length) (hb : base ≤ w.heap.size) (hm : n ≤ maxLen) {N : Nat} (hN : N = w.heap.size) :
    E.Own e (w.alloc (.cells cs e)) base (.slice (some ⟨N, 0, none⟩) n n) xs := by
  subst hn
  subst hN
  refine ⟨flat_len E xs, .inr ⟨w.heap.size, xs.length, cs, rfl, hb, heap_alloc_new w _, Nat.le_refl _, hm, ?_, ?_⟩⟩
  · rw [← Array.length_toList, hcs, flat_len]
  · rw [hcs, List.take_of_length_le (by rw [flat_len]; exact Nat.le_refl _)]

theorem Enc.Own.wpAppend {P : Program} {w : World} {o : Oper} {a : Act} {K : Act → World → Prop} {Q : Exit → Act → World → Prop} (s x : Operand) (t : TypeId)
    (ho : o.op = .call { callee := .builtin .append, args := #[s, x], argTypes := #[t, t] })
    (base : Nat) (e : TypeId) (z : Value) (size bytes : Nat) (ht : P.underlying t = some (.slice e)) (hinfo : (P.info? e).map (fun i => (i.zero, i.size, i.bytes)) = some (some z, size, bytes))
    (hE : E.sz = size) (hzs : z.cells.size = size) (hsz : 0 < size) (hby : 0 < bytes)
    (v : Value) (xs : List α) (hs : a.eval s = v) (hown : E.Own e w base v xs)
    (u : Value) (ys : List α) (hx : a.eval x = u) (his : E.Is w u ys)
    (hlen : (xs.length + ys.length) * bytes ≤ 140737488355328) (hbase : base ≤ w.heap.size)
    (h : ∀ v' w', E.Own e w' base v' (xs ++ ys) → w.grownBy w' v.ownBlock → K (a.put o.dst v') w') : o.wp P a w K Q := by
  obtain ⟨i, hi, hz, hs1, hb1⟩ := info_parts hinfo
  obtain ⟨A, c, rfl, hc, _, hAn, hA⟩ := his
  have hmax : xs.length + ys.length ≤ maxLen := by
    have : (xs.length + ys.length) * 1 ≤ (xs.length + ys.length) * bytes := Nat.mul_le_mul_left _ hby
    unfold maxLen; omega
  by_cases hy : ys = []
  · subst hy
    have hrun : ∃ v' w', (Builtin.append_ #[t, t] o.type #[v, .slice A 0 c]).run P w = .ok v' w' ∧ E.Own e w' base v' xs ∧ w.grownBy w' v.ownBlock := by
      cases A with
      | none =>
        exact ⟨v, w, (by rw [hAn rfl]; exact run_append_owned_none (P := P) w base t o.type e i E.sz ht hi _ _ _ hown), hown, World.grownBy.refl w _⟩
      | some ad =>
        obtain ⟨v', w', r1, r2, r3, _⟩ := run_append_own (P := P) w base t o.type e i z size bytes ht hi hz hs1 hb1 hzs hsz v xs.length _ (by rw [← hE]; exact hown) ad 0 c [] (by simp) (by simp) (by simp) hmax hlen hbase
        exact ⟨v', w', r1, by rw [← hE] at r2; simpa [Enc.Own] using r2, r3⟩
    obtain ⟨v', w', hr, h2, h3⟩ := hrun
    unfold Oper.wp execOp
    simp only [ho, resolve, invoke, builtin, Sem.run_bind, Sem.run_pure, Result.andThen_ok, List.map_toArray, List.map_cons, List.map_nil, hs, hx, List.length_nil, hr]
    exact h v' w' (by simpa using h2) h3
  · obtain ⟨y, hy0⟩ : ∃ y, ys[0]? = some y := by cases ys with | nil => exact absurd rfl hy | cons y _ => exact ⟨y, rfl⟩
    obtain ⟨ad, rfl, _⟩ := hA 0 y hy0
    have hnews : ∀ j q, (ys.flatMap E.c)[j]? = some q → w.cell? (ad.add j) = some q := by
      intro j q hq
      have hj : j < ys.length * E.sz := by have := (List.getElem?_eq_some_iff.1 hq).1; rwa [flat_len] at this
      have hi' : j / E.sz < ys.length := by rw [Nat.div_lt_iff_lt_mul (by omega)]; exact hj
      obtain ⟨ad', e', hc'⟩ := hA (j / E.sz) ys[j / E.sz] (List.getElem?_eq_getElem hi')
      obtain rfl : ad = ad' := by injection e'
      have hm : j % E.sz < (E.c ys[j / E.sz]).length := by rw [E.len]; exact Nat.mod_lt _ (by omega)
      have hj2 : j = j / E.sz * E.sz + j % E.sz := by rw [Nat.mul_comm]; exact (Nat.div_add_mod j E.sz).symm
      have h1 := flat_get E ys (j / E.sz) _ (List.getElem?_eq_getElem hi') (j % E.sz) _ (List.getElem?_eq_getElem hm)
      rw [← hj2] at h1
      rw [h1] at hq
      have h2 := hc' (j % E.sz) _ (List.getElem?_eq_getElem hm)
      rw [← hj2] at h2
      rw [h2]; exact hq
    refine wp_append_own w s x t ho base e i z size bytes ht hi hz hs1 hb1 hzs hsz v xs.length _ hs (by rw [← hE]; exact hown) ad ys.length c (ys.flatMap E.c) hx (by rw [flat_len, hE]) hnews (flat_one E ys) hmax hlen hbase ?_
    intro v' w' h1 h2 _
    refine h v' w' ?_ h2
    unfold Enc.Own
    rw [List.flatMap_append, List.length_append, hE]; exact h1
theorem Enc.Own.append {P : Program} {w : World} {ops : Array Oper} {rest : List Oper} {o : Oper} {a : Act} {Q : Exit → Act → World → Prop} (hgd : o.guard = none) (s x : Operand) (t : TypeId)
    (ho : o.op = .call { callee := .builtin .append, args := #[s, x], argTypes := #[t, t] })
    (base : Nat) (e : TypeId) (z : Value) (size bytes : Nat) (ht : P.underlying t = some (.slice e)) (hinfo : (P.info? e).map (fun i => (i.zero, i.size, i.bytes)) = some (some z, size, bytes))
    (hE : E.sz = size) (hzs : z.cells.size = size) (hsz : 0 < size) (hby : 0 < bytes)
    (v : Value) (xs : List α) (hs : a.eval s = v) (hown : E.Own e w base v xs)
    (u : Value) (ys : List α) (hx : a.eval x = u) (his : E.Is w u ys)
    (hlen : (xs.length + ys.length) * bytes ≤ 140737488355328) (hbase : base ≤ w.heap.size)
    (h : ∀ v' w', E.Own e w' base v' (xs ++ ys) → w.grownBy w' v.ownBlock → wpList P ops Q rest (a.put o.dst v') w') : wpList P ops Q (o :: rest) a w :=
  wpList_plain hgd fun _ hK => Enc.Own.wpAppend s x t ho base e z size bytes ht hinfo hE hzs hsz hby v xs hs hown u ys hx his hlen hbase fun v' w' h1 h2 => hK _ _ (h v' w' h1 h2)

/-- at a step of a region that draws its order: append -/
theorem Enc.Own.stepAppend {P : Program} {w : World} {ops : Array Oper} {o : Oper} {a : Act} {K : Act → World → Prop} {Q : Exit → Act → World → Prop} {F : Prop} (hgd : o.guard = none) (s x : Operand) (t : TypeId)
    (ho : o.op = .call { callee := .builtin .append, args := #[s, x], argTypes := #[t, t] })
    (base : Nat) (e : TypeId) (z : Value) (size bytes : Nat) (ht : P.underlying t = some (.slice e)) (hinfo : (P.info? e).map (fun i => (i.zero, i.size, i.bytes)) = some (some z, size, bytes))
    (hE : E.sz = size) (hzs : z.cells.size = size) (hsz : 0 < size) (hby : 0 < bytes)
    (v : Value) (xs : List α) (hs : a.eval s = v) (hown : E.Own e w base v xs)
    (u : Value) (ys : List α) (hx : a.eval x = u) (his : E.Is w u ys)
    (hlen : (xs.length + ys.length) * bytes ≤ 140737488355328) (hbase : base ≤ w.heap.size)
    (h : ∀ v' w', E.Own e w' base v' (xs ++ ys) → w.grownBy w' v.ownBlock → K (a.put o.dst v') w') :
    if Region.wanted o (yielded ops a.tmps) = true then Oper.wp P o a w K Q else F := by
  have hw : Region.wanted o (yielded ops a.tmps) = true := by simp [Region.wanted, hgd]
  rw [if_pos hw]
  exact Enc.Own.wpAppend s x t ho base e z size bytes ht hinfo hE hzs hsz hby v xs hs hown u ys hx his hlen hbase h

/-- at a step of a region that draws its order: append of one element that stands in a block of its own -/
theorem Enc.Own.stepAppend1 {P : Program} {w : World} {ops : Array Oper} {o : Oper} {a : Act} {K : Act → World → Prop} {Q : Exit → Act → World → Prop} {F : Prop} (hgd : o.guard = none) (s x : Operand) (t : TypeId)
    (ho : o.op = .call { callee := .builtin .append, args := #[s, x], argTypes := #[t, t] })
    (base : Nat) (e : TypeId) (z : Value) (size bytes : Nat) (ht : P.underlying t = some (.slice e)) (hinfo : (P.info? e).map (fun i => (i.zero, i.size, i.bytes)) = some (some z, size, bytes))
    (hE : E.sz = size) (hzs : z.cells.size = size) (hsz : 0 < size) (hby : 0 < bytes)
    (v : Value) (xs : List α) (hs : a.eval s = v) (hown : E.Own e w base v xs)
    (y : α) (cs : Array Value) (hcs : cs.toList = E.c y) {N : Nat} (hN : N = w.heap.size) (hx : a.eval x = .slice (some ⟨N, 0, none⟩) 1 1)
    (hlen : (xs.length + 1) * bytes ≤ 140737488355328) (hbase : base ≤ w.heap.size)
    (h : ∀ v' w', E.Own e w' base v' (xs ++ [y]) → ((w.alloc (.cells cs e)).drew).grownBy w' v.ownBlock → K (a.put o.dst v') w') :
    if Region.wanted o (yielded ops a.tmps) = true then Oper.wp P o a ((w.alloc (.cells cs e)).drew) K Q else F := by
  have hw : Region.wanted o (yielded ops a.tmps) = true := by simp [Region.wanted, hgd]
  rw [if_pos hw]
  exact Enc.Own.wpAppend s x t ho base e z size bytes ht hinfo hE hzs hsz hby v xs hs (hown.bl ((Bl.refl _).alloc _).drew) _ [y] hx
    ((Enc.Own.lit (E := E) w 0 [y] cs (by simpa using hcs) 1 rfl (Nat.zero_le _) (by decide) hN).is.bl (Bl.refl _).drew) hlen (Nat.le_trans hbase ((Bl.refl w).alloc _).size) h

/-- append of one element that stands in a block of its own -/
theorem Enc.Own.append1 {P : Program} {w : World} {ops : Array Oper} {rest : List Oper} {o : Oper} {a : Act} {Q : Exit → Act → World → Prop} (hgd : o.guard = none) (s x : Operand) (t : TypeId)
    (ho : o.op = .call { callee := .builtin .append, args := #[s, x], argTypes := #[t, t] })
    (base : Nat) (e : TypeId) (z : Value) (size bytes : Nat) (ht : P.underlying t = some (.slice e)) (hinfo : (P.info? e).map (fun i => (i.zero, i.size, i.bytes)) = some (some z, size, bytes))
    (hE : E.sz = size) (hzs : z.cells.size = size) (hsz : 0 < size) (hby : 0 < bytes)
    (v : Value) (xs : List α) (hs : a.eval s = v) (hown : E.Own e w base v xs)
    (y : α) (cs : Array Value) (hcs : cs.toList = E.c y) {N : Nat} (hN : N = w.heap.size) (hx : a.eval x = .slice (some ⟨N, 0, none⟩) 1 1)
    (hlen : (xs.length + 1) * bytes ≤ 140737488355328) (hbase : base ≤ w.heap.size)
    (h : ∀ v' w', E.Own e w' base v' (xs ++ [y]) → (w.alloc (.cells cs e)).grownBy w' v.ownBlock → wpList P ops Q rest (a.put o.dst v') w') : wpList P ops Q (o :: rest) a (w.alloc (.cells cs e)) :=
  Enc.Own.append hgd s x t ho base e z size bytes ht hinfo hE hzs hsz hby v xs hs (hown.bl ((Bl.refl _).alloc _)) _ [y] hx
    (Enc.Own.lit (E := E) w 0 [y] cs (by simpa using hcs) 1 rfl (Nat.zero_le _) (by decide) hN).is hlen (Nat.le_trans hbase ((Bl.refl w).alloc _).size) h
/-- append of one element that stands in a block of its own, draws behind -/
theorem Enc.Own.append1d {P : Program} {w : World} {ops : Array Oper} {rest : List Oper} {o : Oper} {a : Act} {Q : Exit → Act → World → Prop} (hgd : o.guard = none) (s x : Operand) (t : TypeId)
    (ho : o.op = .call { callee := .builtin .append, args := #[s, x], argTypes := #[t, t] })
    (base : Nat) (e : TypeId) (z : Value) (size bytes : Nat) (ht : P.underlying t = some (.slice e)) (hinfo : (P.info? e).map (fun i => (i.zero, i.size, i.bytes)) = some (some z, size, bytes))
    (hE : E.sz = size) (hzs : z.cells.size = size) (hsz : 0 < size) (hby : 0 < bytes)
    (v : Value) (xs : List α) (hs : a.eval s = v) (hown : E.Own e w base v xs)
    (y : α) (cs : Array Value) (hcs : cs.toList = E.c y) {N : Nat} (hN : N = w.heap.size) (hx : a.eval x = .slice (some ⟨N, 0, none⟩) 1 1)
    (hlen : (xs.length + 1) * bytes ≤ 140737488355328) (hbase : base ≤ w.heap.size)
    (m : Nat) (h : ∀ v' w', E.Own e w' base v' (xs ++ [y]) → ((w.alloc (.cells cs e)).drewN m).grownBy w' v.ownBlock → wpList P ops Q rest (a.put o.dst v') w') : wpList P ops Q (o :: rest) a ((w.alloc (.cells cs e)).drewN m) :=
  Enc.Own.append hgd s x t ho base e z size bytes ht hinfo hE hzs hsz hby v xs hs (hown.bl (((Bl.refl _).alloc _).drewN _)) _ [y] hx
    ((Enc.Own.lit (E := E) w 0 [y] cs (by simpa using hcs) 1 rfl (Nat.zero_le _) (by decide) hN).is.bl ((Bl.refl _).drewN m)) hlen (Nat.le_trans hbase ((Bl.refl w).alloc _).size) h
end

theorem Enc.At.lit {α : Type} {E : Enc α} {e : TypeId} (w : World) (xs : List α) (cs : Array Value) (hcs : cs.toList = xs.flatMap E.c) {N : Nat} (hN : N = w.heap.size) : E.At (w.alloc (.cells cs e)) (some ⟨N, 0, none⟩) xs := fun i x hx => by
  subst hN
  refine ⟨_, rfl, fun j u hu => ?_⟩
  have h := flat_get E xs i x hx j u hu
  have hadd : (⟨w.heap.size, 0, none⟩ : Addr).add (i * E.sz + j) = ⟨w.heap.size, i * E.sz + j, none⟩ := by unfold Addr.add; split <;> simp_all
  rw [hadd, cell_of_row (w.alloc (.cells cs e)) w.heap.size _ cs e (0, 0) (heap_alloc_new w _), ← Array.getElem?_toList, hcs]
  exact h
section
variable {α : Type} {E : Enc α} {P : Program}
theorem Enc.Is.sub {w : World} {A : Option Addr} {c : Nat} {xs : List α} (h : E.Is w (.slice A xs.length c) xs) (lo hi : Nat) (h1 : lo ≤ hi) (h2 : hi ≤ xs.length) :
    E.Is w (sliced A lo hi c E.sz) ((xs.take hi).drop lo) := by
  obtain ⟨A', c', e, g1, g2, g3, g4⟩ := h
  simp at e
  obtain ⟨rfl, rfl⟩ := e
  have hl : ((xs.take hi).drop lo).length = hi - lo := by rw [List.length_drop, List.length_take]; omega
  unfold sliced
  by_cases hc : c = lo
  · have hz : hi - lo = 0 := by omega
    rw [hz] at hl
    have hnil : (xs.take hi).drop lo = [] := List.eq_nil_of_length_eq_zero hl
    rw [hnil, hz, if_pos hc]
    exact ⟨A, _, rfl, by simp, by omega, fun h => by have := g3 h; omega, Enc.At.nil _ _⟩
  · rw [if_neg hc]
    refine ⟨_, _, by rw [hl], by rw [hl]; omega, by omega, fun h => ?_, fun i x hx => ?_⟩
    · cases A with
      | none => have := g3 rfl; omega
      | some a => simp at h
    · rw [List.getElem?_drop, List.getElem?_take] at hx
      split at hx
      · obtain ⟨ad, rfl, hq⟩ := g4 (lo + i) x hx
        refine ⟨ad.add (lo * E.sz), rfl, fun j u hu => ?_⟩
        have := hq j u hu
        rw [Nat.add_mul, Nat.add_assoc] at this
        rw [show (ad.add (lo * E.sz)).add (i * E.sz + j) = ad.add (lo * E.sz + (i * E.sz + j)) from ?_]
        · exact this
        · unfold Addr.add; split <;> split <;> simp_all [Nat.add_assoc]
      · cases hx

/-- 'x[lo:hi]', 'x[lo:]', 'x[:hi]': what the operation gives, under one name, in whatever world -/
theorem slice_lh {t : TypeId} (ht : P.underlying t = some (.slice (P.elem t))) (hs : ∀ w, (sizeOf (P.elem t)).run P w = .ok E.sz w) (A : Option Addr) (c : Nat) (xs : List α) (lo hi : Int) (h0 : 0 ≤ lo) (h1 : lo ≤ hi) (h2 : hi ≤ xs.length) (hc : xs.length ≤ c) :
    ∃ V, (∀ w, (Instr.slice t (.slice A xs.length c) (some (.int .i64 lo)) (some (.int .i64 hi)) none).run P w = .ok V w) ∧ ∀ w, E.Is w (.slice A xs.length c) xs → E.Is w V ((xs.take hi.toNat).drop lo.toNat) :=
  ⟨sliced A lo.toNat hi.toNat c E.sz, fun w => by rw [run_slice_lh w t A xs.length c ht .i64 .i64 lo hi h0 h1 (by omega), hs, Result.andThen_ok], fun _ h => h.sub _ _ (by omega) (by omega)⟩
theorem slice_l {t : TypeId} (ht : P.underlying t = some (.slice (P.elem t))) (hs : ∀ w, (sizeOf (P.elem t)).run P w = .ok E.sz w) (A : Option Addr) (c : Nat) (xs : List α) (lo : Int) (h0 : 0 ≤ lo) (h1 : lo ≤ xs.length) :
    ∃ V, (∀ w, (Instr.slice t (.slice A xs.length c) (some (.int .i64 lo)) none none).run P w = .ok V w) ∧ ∀ w, E.Is w (.slice A xs.length c) xs → E.Is w V (xs.drop lo.toNat) :=
  ⟨sliced A lo.toNat xs.length c E.sz, fun w => by rw [run_slice_l w t A xs.length c ht .i64 lo h0 h1, hs, Result.andThen_ok], fun _ h => by have := h.sub lo.toNat xs.length (by omega) (Nat.le_refl _); rwa [List.take_length] at this⟩
theorem slice_h {t : TypeId} (ht : P.underlying t = some (.slice (P.elem t))) (hs : ∀ w, (sizeOf (P.elem t)).run P w = .ok E.sz w) (A : Option Addr) (c : Nat) (xs : List α) (hi : Int) (h0 : 0 ≤ hi) (h2 : hi ≤ xs.length) (hc : xs.length ≤ c) :
    ∃ V, (∀ w, (Instr.slice t (.slice A xs.length c) none (some (.int .i64 hi)) none).run P w = .ok V w) ∧ ∀ w, E.Is w (.slice A xs.length c) xs → E.Is w V (xs.take hi.toNat) :=
  ⟨sliced A 0 hi.toNat c E.sz, fun w => by rw [run_slice_h w t A xs.length c ht .i64 hi h0 (by omega), hs, Result.andThen_ok], fun _ h => by have := h.sub 0 hi.toNat (Nat.zero_le _) (by omega); rwa [List.drop_zero] at this⟩
end

theorem int_at {w : World} {A : Option Addr} {xs : List Int} (h : intE.At w A xs) (k : Nat) (hk : k < xs.length) : ∃ ad, A = some ad ∧ w.cell? (ad.add k) = some (.int .i64 xs[k]) := by
  obtain ⟨ad, e, hc⟩ := h k _ (List.getElem?_eq_getElem hk)
  refine ⟨ad, e, ?_⟩
  have := hc 0 _ rfl
  rwa [Nat.add_zero, show intE.sz = 1 from rfl, Nat.mul_one] at this
theorem head_at {w : World} {A : Option Addr} {xs : List Head} (h : headE.At w A xs) (k : Nat) (hk : k < xs.length) : ∃ ad, A = some ad ∧ w.cell? (ad.add k) = some xs[k].v := by
  obtain ⟨ad, e, hc⟩ := h k _ (List.getElem?_eq_getElem hk)
  refine ⟨ad, e, ?_⟩
  have := hc 0 _ rfl
  rwa [Nat.add_zero, show headE.sz = 1 from rfl, Nat.mul_one] at this

/-- rows of numbers -/
def IRows (w : World) (hs : List Head) (ls : List (List Int)) : Prop := hs.length = ls.length ∧ ∀ (i : Nat) h l, hs[i]? = some h → ls[i]? = some l → h.n = l.length ∧ l.length ≤ h.cap ∧ h.cap ≤ maxLen ∧ (h.A = none → h.cap = 0) ∧ intE.At w h.A l
theorem IRows.bl {w w' : World} {hs : List Head} {ls : List (List Int)} (h : IRows w hs ls) (hb : Bl w w') : IRows w' hs ls := ⟨h.1, fun i x l hx hl => by
  obtain ⟨a1, a2, a3, a4, a5⟩ := h.2 i x l hx hl; exact ⟨a1, a2, a3, a4, a5.bl hb⟩⟩
theorem IRows.nil (w : World) : IRows w [] [] := ⟨rfl, fun i h l hh => by simp at hh⟩
theorem IRows.cons {w : World} {hs : List Head} {ls : List (List Int)} {A : Option Addr} {n c : Nat} {l : List Int} (hn : n = l.length) (hc : l.length ≤ c) (hm : c ≤ maxLen) (h0 : A = none → c = 0) (hA : intE.At w A l) (h : IRows w hs ls) : IRows w (⟨A, n, c⟩ :: hs) (l :: ls) := by
  refine ⟨by simp [h.1], fun i x y hx hy => ?_⟩
  cases i with
  | zero => simp at hx hy; subst hx; subst hy; exact ⟨hn, hc, hm, h0, hA⟩
  | succ i => simp at hx hy; exact h.2 i x y hx hy
end Go.Ov

/- Extents as data: the model's rows of extents, the document's functions on them. No program in sight. -/
namespace Go.Ov
open Go.RowKit

structure Ext where
  at_ : Int
  sector : Int
  count : Int
  skip : Int
  take : Int
  deriving DecidableEq

def Ext.vals (e : Ext) : List Value := [.int .i64 e.at_, .int .i64 e.sector, .int .i64 e.count, .int .i64 e.skip, .int .i64 e.take]
def Ext.v (e : Ext) : Value := .agg #[.int .i64 e.at_, .int .i64 e.sector, .int .i64 e.count, .int .i64 e.skip, .int .i64 e.take]
def extE : Enc Ext := ⟨5, Ext.vals, fun _ => rfl, fun x u h => by simp [Ext.vals] at h; rcases h with rfl | rfl | rfl | rfl | rfl <;> rfl⟩
instance : Inhabited Ext := ⟨⟨0, 0, 0, 0, 0⟩⟩

theorem add_at (ad : Addr) (m j : Nat) (hj : 0 < j) : ad.add (m + j) = ⟨(ad.add m).block, (ad.add m).off + j, none⟩ := by
  unfold Addr.add
  rw [if_neg (by omega)]
  split
  · rename_i h; subst h; simp
  · simp [Nat.add_assoc]

theorem ext_at {w : World} {A : Option Addr} {xs : List Ext} (h : extE.At w A xs) (k : Nat) (hk : k < xs.length) :
    ∃ ad, A = some ad ∧ w.cell? (ad.add (k * 5)) = some (.int .i64 xs[k].at_) ∧ w.cell? ⟨(ad.add (k * 5)).block, (ad.add (k * 5)).off + 1, none⟩ = some (.int .i64 xs[k].sector) ∧
      w.cell? ⟨(ad.add (k * 5)).block, (ad.add (k * 5)).off + 2, none⟩ = some (.int .i64 xs[k].count) ∧ w.cell? ⟨(ad.add (k * 5)).block, (ad.add (k * 5)).off + 3, none⟩ = some (.int .i64 xs[k].skip) ∧
      w.cell? ⟨(ad.add (k * 5)).block, (ad.add (k * 5)).off + 4, none⟩ = some (.int .i64 xs[k].take) := by
  obtain ⟨ad, e, hc⟩ := h k _ (List.getElem?_eq_getElem hk)
  refine ⟨ad, e, ?_, ?_, ?_, ?_, ?_⟩
  · exact hc 0 _ rfl
  · rw [← add_at _ _ 1 (by decide)]; exact hc 1 _ rfl
  · rw [← add_at _ _ 2 (by decide)]; exact hc 2 _ rfl
  · rw [← add_at _ _ 3 (by decide)]; exact hc 3 _ rfl
  · rw [← add_at _ _ 4 (by decide)]; exact hc 4 _ rfl

def oneB (e : Ext) : Bool := decide (1 ≤ e.sector) && decide (e.sector < 4096) && decide (e.count ≤ 64) && decide (0 ≤ e.skip) && decide (e.skip < e.count) && decide (1 ≤ e.take) && decide (e.take ≤ e.count - e.skip)
/-- a row from a place on -/
def validFrom (at_ : Int) : List Ext → Bool
  | [] => true
  | e :: l => oneB e && (e.at_ == at_) && decide (e.take ≤ 1000 - at_) && validFrom (at_ + e.take) l
def shiftE (by_ : Int) (e : Ext) : Ext := ⟨wrap64 (e.at_ + by_), e.sector, e.count, e.skip, e.take⟩
def shiftM (by_ : Int) (l : List Ext) : List Ext := l.map (shiftE by_)
/-- an extent's part from a to b -/
def cutE (a b : Int) (e : Ext) : List Ext :=
  if max e.at_ a < min (wrap64 (e.at_ + e.take)) b then [⟨max e.at_ a, e.sector, e.count, wrap64 (wrap64 (e.skip + max e.at_ a) - e.at_), wrap64 (min (wrap64 (e.at_ + e.take)) b - max e.at_ a)⟩] else []
def cutM (a b : Int) (l : List Ext) : List Ext := l.flatMap (cutE a b)
theorem cutE_len (a b : Int) (e : Ext) : (cutE a b e).length ≤ 1 := by unfold cutE; split <;> simp
def endM (l : List Ext) : Int := (l.map Ext.take).sum

theorem validFrom_bd : ∀ (l : List Ext) (a : Int), a ≤ 1000 → validFrom a l = true → (l.length : Int) ≤ endM l ∧ a + endM l ≤ 1000
  | [], a, h, _ => by simp [endM]; exact h
  | e :: l, a, h, hv => by
    simp only [validFrom, Bool.and_eq_true, decide_eq_true_eq] at hv
    obtain ⟨⟨⟨h1, _⟩, h3⟩, h4⟩ := hv
    have := validFrom_bd l (a + e.take) (by omega) h4
    have ht : 1 ≤ e.take := by simp [oneB] at h1; omega
    simp only [endM, List.map_cons, List.sum_cons, List.length_cons] at this ⊢
    omega
theorem flat1_len {α β : Type} (f : α → List β) (hf : ∀ x, (f x).length ≤ 1) : ∀ l : List α, (l.flatMap f).length ≤ l.length
  | [] => by simp
  | x :: l => by rw [List.flatMap_cons, List.length_append, List.length_cons]; have := flat1_len f hf l; have := hf x; omega
theorem cutM_len (a b : Int) (l : List Ext) : (cutM a b l).length ≤ l.length := flat1_len _ (cutE_len a b) l
theorem shiftM_len (b : Int) (l : List Ext) : (shiftM b l).length = l.length := List.length_map ..

/-- which error a splice has (0: none) -/
def spliceBad (l : List Ext) (fr tt : Int) (new : List Ext) : Bool := !validFrom 0 new || decide (fr < 0) || decide (tt < fr) || decide (endM l < fr)
def spliceL (l : List Ext) (fr tt : Int) (new : List Ext) : List Ext :=
  (cutM 0 fr l ++ shiftM fr new) ++ shiftM (fr + endM new - min tt (endM l)) (cutM (min tt (endM l)) (endM l) l)
def spliceLong (l : List Ext) (fr tt : Int) (new : List Ext) : Bool := decide (1000 < fr + endM new + endM l - min tt (endM l))
def spliceM (l : List Ext) (fr tt : Int) (new : List Ext) : List Ext × Int :=
  if spliceBad l fr tt new then ([], 1) else if spliceLong l fr tt new then ([], 4) else (spliceL l fr tt new, 0)

def rowGo (a : Int) : List Ext → List Ext
  | [] => []
  | e :: l =>
    if 1000 - a < 1 + within e.take (1 + within e.count 64 - within e.skip (1 + within e.count 64)) then []
    else ⟨a, 1 + within e.sector 4095, 1 + within e.count 64, within e.skip (1 + within e.count 64), 1 + within e.take (1 + within e.count 64 - within e.skip (1 + within e.count 64))⟩ ::
      rowGo (a + (1 + within e.take (1 + within e.count 64 - within e.skip (1 + within e.count 64)))) l
def rowM (l : List Ext) (most : Nat) : List Ext := rowGo 0 (l.take most)
theorem rowGo_valid : ∀ (l : List Ext) (a : Int), validFrom a (rowGo a l) = true
  | [], _ => rfl
  | e :: l, a => by
    unfold rowGo
    split
    · rfl
    · rename_i h
      have h1 := within_bd e.count 64 (by decide)
      have h2 := within_bd e.skip (1 + within e.count 64) (by omega)
      have h3 := within_bd e.take (1 + within e.count 64 - within e.skip (1 + within e.count 64)) (by omega)
      have h4 := within_bd e.sector 4095 (by decide)
      simp only [validFrom, rowGo_valid l _, Bool.and_true, beq_self_eq_true, Bool.and_eq_true, decide_eq_true_eq]
      refine ⟨?_, by omega⟩
      simp [oneB]; omega
theorem rowM_valid (l : List Ext) (m : Nat) : validFrom 0 (rowM l m) = true := rowGo_valid _ _
theorem rowGo_len : ∀ (l : List Ext) (a : Int), (rowGo a l).length ≤ l.length
  | [], _ => Nat.le_refl _
  | e :: l, a => by
    unfold rowGo
    split
    · exact Nat.zero_le _
    · simp only [List.length_cons]; have := rowGo_len l (a + (1 + within e.take (1 + within e.count 64 - within e.skip (1 + within e.count 64)))); omega
theorem rowM_len (l : List Ext) (m : Nat) : (rowM l m).length ≤ m := Nat.le_trans (rowGo_len _ _) (by rw [List.length_take]; omega)
end Go.Ov

/- Trees as data: nodes, the tree over a row; how they lie in memory. No program in sight. -/
namespace Go.Ov
open Go.RowKit

inductive NodeM where
  | mk (leaf : List Ext) (first : List Int) (parts : List NodeM)
def NodeM.nil : NodeM := .mk [] [] []
instance : Inhabited NodeM := ⟨.nil⟩
def NodeM.leaf : NodeM → List Ext | .mk l _ _ => l
def NodeM.firsts : NodeM → List Int | .mk _ f _ => f
def NodeM.parts : NodeM → List NodeM | .mk _ _ p => p
/-- the sample at which a node begins -/
def NodeM.first1 : NodeM → Int
  | .mk [] _ [] => 0
  | .mk (e :: _) _ [] => e.at_
  | .mk _ _ (p :: _) => p.first1
def NodeM.hasFirst : NodeM → Bool
  | .mk l _ [] => !l.isEmpty
  | .mk _ _ (p :: _) => p.hasFirst
mutual
def NodeM.count : NodeM → Nat
  | .mk _ _ p => 1 + countL p
def countL : List NodeM → Nat
  | [] => 0
  | n :: l => n.count + countL l
end
theorem count_mk (l : List Ext) (f : List Int) (p : List NodeM) : (NodeM.mk l f p).count = 1 + countL p := by simp [NodeM.count]
theorem first1_cons (l : List Ext) (f : List Int) (x : NodeM) (p : List NodeM) : (NodeM.mk l f (x :: p)).first1 = x.first1 := by cases l <;> simp [NodeM.first1]
theorem countL_cons (x : NodeM) (p : List NodeM) : countL (x :: p) = x.count + countL p := by simp [countL]
theorem count_mem : ∀ (l : List NodeM) (i : Nat) (h : i < l.length), l[i].count ≤ countL l
  | n :: l, 0, _ => by simp [countL]
  | n :: l, i + 1, h => by
    have := count_mem l i (by simpa using h)
    simp [countL]; omega
theorem countL_take : ∀ (l : List NodeM) (k : Nat) (h : k < l.length), countL (l.take (k + 1)) = countL (l.take k) + l[k].count
  | n :: l, 0, _ => by simp [countL]
  | n :: l, k + 1, h => by
    have := countL_take l k (by simpa using h)
    simp [countL, this]; omega
theorem countL_append : ∀ (a b : List NodeM), countL (a ++ b) = countL a + countL b
  | [], b => by simp [countL]
  | n :: a, b => by simp [countL, countL_append a b]; omega
theorem countL_le (l : List NodeM) (k : Nat) : countL (l.take k) ≤ countL l := by
  have := countL_append (l.take k) (l.drop k)
  rw [List.take_append_drop] at this; omega

/-- cut into groups -/
def preM (n g i : Nat) : Nat := i * (n / g) + min i (n % g)
def sizeM (n g i : Nat) : Nat := n / g + if i < n % g then 1 else 0
def grp (n : Nat) : Nat := (n + 7) / 8
theorem preM_zero (n g : Nat) : preM n g 0 = 0 := by simp [preM]
theorem preM_succ (n g i : Nat) : preM n g (i + 1) = preM n g i + sizeM n g i := by
  unfold preM sizeM
  rw [Nat.succ_mul]
  split <;> omega
theorem preM_all (n g : Nat) (hg : 0 < g) : preM n g g = n := by
  unfold preM
  have := Nat.mod_lt n hg
  have := Nat.div_add_mod n g
  rw [Nat.min_eq_right (by omega)]; exact this
theorem preM_mono (n g i j : Nat) (h : i ≤ j) : preM n g i ≤ preM n g j := by
  unfold preM
  have := Nat.mul_le_mul_right (n / g) h
  omega
theorem preM_le (n g i : Nat) (h : i ≤ g) : preM n g i ≤ n := by
  rcases Nat.eq_zero_or_pos g with rfl | hg
  · have : i = 0 := by omega
    subst this; rw [preM_zero]; omega
  · have := preM_mono n g i g h
    rw [preM_all n g hg] at this; exact this
theorem preM_size (n g i : Nat) (h : i < g) : preM n g i + sizeM n g i ≤ n := by
  rw [← preM_succ]; exact preM_le n g (i + 1) h
theorem size_pos (n g i : Nat) (hg : 0 < g) (h : g ≤ n) : 1 ≤ sizeM n g i := by
  have : 1 ≤ n / g := by rw [Nat.le_div_iff_mul_le hg]; omega
  unfold sizeM; omega
theorem size_le (n g i : Nat) (hg : 0 < g) (h : n ≤ g * 8) : sizeM n g i ≤ 8 := by
  unfold sizeM
  have h1 := Nat.div_add_mod n g
  have h2 := Nat.mod_lt n hg
  by_cases h8 : n / g < 8
  · split <;> omega
  · have : g * 8 ≤ g * (n / g) := Nat.mul_le_mul_left g (by omega)
    have h3 : n / g ≤ 8 := by
      by_cases h9 : n / g ≤ 8
      · exact h9
      · have : g * 9 ≤ g * (n / g) := Nat.mul_le_mul_left g (by omega)
        omega
    have : n % g = 0 := by omega
    rw [this, if_neg (by omega)]; omega
def partM {α : Type} (l : List α) (g i : Nat) : List α := (l.drop (preM l.length g i)).take (sizeM l.length g i)
theorem partM_len {α : Type} (l : List α) (g i : Nat) (h : i < g) : (partM l g i).length = sizeM l.length g i := by
  have := preM_size l.length g i h
  unfold partM; rw [List.length_take, List.length_drop]; omega
theorem grp_le (n : Nat) (h : 1 < n) : grp n < n := by unfold grp; omega
def leafM (l : List Ext) (i : Nat) : NodeM := .mk (partM l (grp l.length) i) [] []
def leavesM (l : List Ext) : List NodeM := (List.range (grp l.length)).map (leafM l)
def nodeM (r : List NodeM) (i : Nat) : NodeM := .mk [] ((partM r (grp r.length) i).map NodeM.first1) (partM r (grp r.length) i)
def upM (r : List NodeM) : List NodeM := (List.range (grp r.length)).map (nodeM r)
theorem upM_len (r : List NodeM) : (upM r).length = grp r.length := by simp [upM]
theorem leavesM_len (l : List Ext) : (leavesM l).length = grp l.length := by simp [leavesM]
def topM (r : List NodeM) : NodeM := if _h : 1 < r.length then topM (upM r) else r.headD .nil
  termination_by r.length
  decreasing_by rw [upM_len]; exact grp_le _ _h
def madeM (l : List Ext) : NodeM := topM (leavesM l)
theorem topM_up (r : List NodeM) (h : 1 < r.length) : topM r = topM (upM r) := by
  conv => lhs; unfold topM
  rw [dif_pos h]
theorem topM_one (r : List NodeM) (h : ¬ 1 < r.length) : topM r = r.headD .nil := by
  unfold topM
  rw [dif_neg h]

theorem part_first (r : List NodeM) (g i : Nat) (hi : i < g) (hg : g ≤ r.length) (h : ∀ x ∈ r, x.hasFirst = true) :
    (∀ x ∈ partM r g i, x.hasFirst = true) ∧ ∃ x p, partM r g i = x :: p := by
  constructor
  · intro x hx
    exact h x (List.mem_of_mem_drop (List.mem_of_mem_take hx))
  · have h1 := partM_len r g i hi
    have h2 := size_pos r.length g i (by omega) hg
    cases e : partM r g i with
    | nil => rw [e] at h1; simp at h1; omega
    | cons x p => exact ⟨x, p, rfl⟩
theorem leaves_first (l : List Ext) : ∀ x ∈ leavesM l, x.hasFirst = true := by
  intro x hx
  unfold leavesM at hx
  obtain ⟨i, hi, rfl⟩ := List.mem_map.1 hx
  have hi' : i < grp l.length := by simpa using hi
  have h1 := partM_len l (grp l.length) i hi'
  have h2 := size_pos l.length (grp l.length) i (by omega) (by unfold grp at *; omega)
  unfold leafM NodeM.hasFirst
  cases e : partM l (grp l.length) i with
  | nil => rw [e] at h1; simp at h1; omega
  | cons x p => rfl
theorem up_first (r : List NodeM) (h : ∀ x ∈ r, x.hasFirst = true) : ∀ x ∈ upM r, x.hasFirst = true := by
  intro x hx
  unfold upM at hx
  obtain ⟨i, hi, rfl⟩ := List.mem_map.1 hx
  have hi' : i < grp r.length := by simpa using hi
  obtain ⟨h1, y, p, e⟩ := part_first r (grp r.length) i hi' (by unfold grp at *; omega) h
  unfold nodeM
  rw [e]
  unfold NodeM.hasFirst
  exact h1 y (by rw [e]; simp)

/-- how a node lies: three slices' heads -/
structure NH where
  a : Head
  b : Head
  c : Head
def NH.v (h : NH) : Value := .agg #[h.a.v, h.b.v, h.c.v]
def nodeE : Enc NH := ⟨3, fun n => [n.a.v, n.b.v, n.c.v], fun _ => rfl, fun x u h => by simp at h; rcases h with rfl | rfl | rfl <;> rfl⟩
inductive NodeR (w : World) : NodeM → NH → Prop
  | mk (l : List Ext) (f : List Int) (p : List NodeM) (a b c : Head) (hs : List NH) : extE.Is w a.v l → intE.Is w b.v f → nodeE.Is w c.v hs → hs.length = p.length →
      (∀ (i : Nat) (x : NodeM) (h : NH), p[i]? = some x → hs[i]? = some h → NodeR w x h) → NodeR w (.mk l f p) ⟨a, b, c⟩
def NRows (w : World) (hs : List NH) (ns : List NodeM) : Prop := hs.length = ns.length ∧ ∀ (i : Nat) (x : NodeM) (h : NH), ns[i]? = some x → hs[i]? = some h → NodeR w x h
theorem NodeR.bl {w w' : World} {n : NodeM} {h : NH} (hr : NodeR w n h) (hb : Bl w w') : NodeR w' n h := by
  induction hr with
  | mk l f p a b c hs h1 h2 h3 h4 _ ih => exact .mk l f p a b c hs (h1.bl hb) (h2.bl hb) (h3.bl hb) h4 ih
theorem NodeR.inv {w : World} {l : List Ext} {f : List Int} {p : List NodeM} {h : NH} (hr : NodeR w (.mk l f p) h) :
    extE.Is w h.a.v l ∧ intE.Is w h.b.v f ∧ ∃ hs, nodeE.Is w h.c.v hs ∧ NRows w hs p := by
  cases hr with
  | mk _ _ _ a b c hs h1 h2 h3 h4 h5 => exact ⟨h1, h2, hs, h3, h4, h5⟩
theorem NodeR.mk' {w : World} {l : List Ext} {f : List Int} {p : List NodeM} {h : NH} {hs : List NH} (h1 : extE.Is w h.a.v l) (h2 : intE.Is w h.b.v f) (h3 : nodeE.Is w h.c.v hs) (h4 : NRows w hs p) : NodeR w (.mk l f p) h := by
  obtain ⟨a, b, c⟩ := h
  exact .mk l f p a b c hs h1 h2 h3 h4.1 h4.2
theorem NRows.bl {w w' : World} {hs : List NH} {ns : List NodeM} (h : NRows w hs ns) (hb : Bl w w') : NRows w' hs ns := ⟨h.1, fun i x y hx hy => (h.2 i x y hx hy).bl hb⟩
theorem NRows.nil (w : World) : NRows w [] [] := ⟨rfl, fun i x h hx => by simp at hx⟩
theorem NRows.snoc {w : World} {hs : List NH} {ns : List NodeM} {h : NH} {n : NodeM} (hr : NRows w hs ns) (hn : NodeR w n h) : NRows w (hs ++ [h]) (ns ++ [n]) := by
  refine ⟨by simp [hr.1], fun i x y hx hy => ?_⟩
  by_cases hi : i < ns.length
  · rw [List.getElem?_append_left hi] at hx
    rw [List.getElem?_append_left (by rw [hr.1]; exact hi)] at hy
    exact hr.2 i x y hx hy
  · have hl := hr.1
    rw [List.getElem?_append_right (by omega)] at hx
    rw [List.getElem?_append_right (by omega), hl] at hy
    obtain ⟨hx1, hx2⟩ := List.getElem?_eq_some_iff.1 hx
    obtain ⟨hy1, hy2⟩ := List.getElem?_eq_some_iff.1 hy
    have hz : i - ns.length = 0 := by simp at hx1; omega
    simp [hz] at hx2 hy2
    subst hx2; subst hy2; exact hn
theorem NRows.drop {w : World} {hs : List NH} {ns : List NodeM} (hr : NRows w hs ns) (k : Nat) : NRows w (hs.drop k) (ns.drop k) :=
  ⟨by simp [hr.1], fun i x y hx hy => hr.2 (k + i) x y (by rw [List.getElem?_drop] at hx; exact hx) (by rw [List.getElem?_drop] at hy; exact hy)⟩
theorem NRows.take {w : World} {hs : List NH} {ns : List NodeM} (hr : NRows w hs ns) (k : Nat) : NRows w (hs.take k) (ns.take k) := by
  refine ⟨by simp [hr.1], fun i x y hx hy => ?_⟩
  rw [List.getElem?_take] at hx hy
  split at hx
  · rename_i hi
    rw [if_pos hi] at hy
    exact hr.2 i x y hx hy
  · cases hx
theorem NRows.at {w : World} {hs : List NH} {ns : List NodeM} (hr : NRows w hs ns) (k : Nat) (h : k < ns.length) : ∃ h' : k < hs.length, NodeR w ns[k] hs[k] :=
  ⟨by rw [hr.1]; exact h, hr.2 k _ _ (List.getElem?_eq_getElem h) (List.getElem?_eq_getElem _)⟩

theorem node_at {w : World} {A : Option Addr} {xs : List NH} (h : nodeE.At w A xs) (k : Nat) (hk : k < xs.length) :
    ∃ ad, A = some ad ∧ w.cell? (ad.add (k * 3)) = some xs[k].a.v ∧ w.cell? ⟨(ad.add (k * 3)).block, (ad.add (k * 3)).off + 1, none⟩ = some xs[k].b.v ∧
      w.cell? ⟨(ad.add (k * 3)).block, (ad.add (k * 3)).off + 2, none⟩ = some xs[k].c.v := by
  obtain ⟨ad, e, hc⟩ := h k _ (List.getElem?_eq_getElem hk)
  refine ⟨ad, e, ?_, ?_, ?_⟩
  · exact hc 0 _ rfl
  · rw [← add_at _ _ 1 (by decide)]; exact hc 1 _ rfl
  · rw [← add_at _ _ 2 (by decide)]; exact hc 2 _ rfl

theorem add0 (ad : Addr) : ad.add 0 = ad := by unfold Addr.add; simp
theorem ext_at0 {w : World} {A : Option Addr} {xs : List Ext} (h : extE.At w A xs) (hk : 0 < xs.length) : ∃ ad, A = some ad ∧ w.cell? ad = some (.int .i64 xs[0].at_) := by
  obtain ⟨ad, e, hc, _⟩ := ext_at h 0 hk
  rw [Nat.zero_mul, add0] at hc
  exact ⟨ad, e, hc⟩
theorem node_at0 {w : World} {A : Option Addr} {xs : List NH} (h : nodeE.At w A xs) (hk : 0 < xs.length) :
    ∃ ad, A = some ad ∧ w.cell? ad = some xs[0].a.v ∧ w.cell? ⟨ad.block, ad.off + 1, none⟩ = some xs[0].b.v ∧ w.cell? ⟨ad.block, ad.off + 2, none⟩ = some xs[0].c.v := by
  obtain ⟨ad, e, hc⟩ := node_at h 0 hk
  rw [Nat.zero_mul, add0] at hc
  exact ⟨ad, e, hc⟩

structure TreeM where
  row : List Ext
  top : NodeM
def treeM (l : List Ext) : TreeM := ⟨l, madeM l⟩
def TreeIs (w : World) (v : Value) (t : TreeM) : Prop := ∃ (b : Nat) (u : Head) (h : NH), v = .pointer (some ⟨b, 0, none⟩) ∧ w.cell? ⟨b, 0, none⟩ = some u.v ∧ w.cell? ⟨b, 1, none⟩ = some h.a.v ∧
  w.cell? ⟨b, 2, none⟩ = some h.b.v ∧ w.cell? ⟨b, 3, none⟩ = some h.c.v ∧ extE.Is w u.v t.row ∧ NodeR w t.top h
theorem TreeIs.bl {w w' : World} {v : Value} {t : TreeM} (h : TreeIs w v t) (hb : Bl w w') : TreeIs w' v t := by
  obtain ⟨b, u, n, e, h0, h1, h2, h3, h4, h5⟩ := h
  exact ⟨b, u, n, e, hb.cell h0, hb.cell h1, hb.cell h2, hb.cell h3, h4.bl hb, h5.bl hb⟩
end Go.Ov

/- Trees that are right, in plain words: what made makes is right, and has the row's extents. No walk here. -/
namespace Go.Ov
open Go.RowKit

mutual
def itemsM : NodeM → List Ext
  | .mk l _ p => l ++ itemsL p
def itemsL : List NodeM → List Ext
  | [] => []
  | x :: p => itemsM x ++ itemsL p
end
theorem itemsM_mk (l : List Ext) (f : List Int) (p : List NodeM) : itemsM (.mk l f p) = l ++ itemsL p := by simp [itemsM]
theorem itemsL_cons (x : NodeM) (p : List NodeM) : itemsL (x :: p) = itemsM x ++ itemsL p := by simp [itemsL]
theorem itemsL_flat : ∀ p : List NodeM, itemsL p = p.flatMap itemsM
  | [] => by simp [itemsL]
  | x :: p => by rw [itemsL_cons, itemsL_flat p]; rfl
def leastN (top : Bool) : Nat := if top then 1 else 4
/-- a node that is right, of a depth -/
def goodN : Nat → Bool → NodeM → Prop
  | 0, _, _ => False
  | 1, top, .mk l f p => p = [] ∧ f = [] ∧ leastN top ≤ l.length ∧ l.length ≤ 8
  | d + 2, top, .mk l f p => l = [] ∧ f = p.map NodeM.first1 ∧ max 2 (leastN top) ≤ p.length ∧ p.length ≤ 8 ∧ ∀ x ∈ p, goodN (d + 1) false x ∧ x.hasFirst = true
theorem parts_flat {α : Type} (l : List α) (g : Nat) : ∀ k, k ≤ g → (List.range k).flatMap (partM l g) = l.take (preM l.length g k)
  | 0, _ => by rw [preM_zero]; simp
  | k + 1, h => by
    rw [List.range_succ, List.flatMap_append, parts_flat l g k (by omega), preM_succ]
    simp only [List.flatMap_cons, List.flatMap_nil, List.append_nil]
    unfold partM
    rw [← List.take_add]
theorem parts_all {α : Type} (l : List α) (g : Nat) (hg : 0 < g) : (List.range g).flatMap (partM l g) = l := by
  rw [parts_flat l g g (Nat.le_refl _), preM_all _ _ hg, List.take_length]
theorem leaves_items (l : List Ext) : itemsL (leavesM l) = l := by
  rw [itemsL_flat]
  unfold leavesM
  rw [List.flatMap_map]
  cases hl : l with
  | nil => simp [grp]
  | cons a b =>
    rw [← hl]
    have : ∀ i, itemsM (leafM l i) = partM l (grp l.length) i := fun i => by unfold leafM; rw [itemsM_mk]; simp [itemsL]
    simp only [this]
    exact parts_all l _ (by rw [hl]; unfold grp; simp)
theorem up_items (r : List NodeM) (h : 1 ≤ r.length) : itemsL (upM r) = itemsL r := by
  rw [itemsL_flat, itemsL_flat]
  unfold upM
  rw [List.flatMap_map]
  have : ∀ i, itemsM (nodeM r i) = (partM r (grp r.length) i).flatMap itemsM := fun i => by unfold nodeM; rw [itemsM_mk, itemsL_flat]; rfl
  simp only [this]
  rw [← List.flatMap_assoc, parts_all r _ (by unfold grp; omega)]
theorem top_items (r : List NodeM) (h : 1 ≤ r.length) : itemsM (topM r) = itemsL r := by
  generalize hm : r.length = m at h
  induction m using Nat.strongRecOn generalizing r with
  | _ m ih =>
    by_cases h1 : 1 < r.length
    · rw [topM_up r h1, ih (grp r.length) (by have := grp_le r.length h1; omega) (upM r) (upM_len r) (by unfold grp; omega), up_items r (by omega)]
    · rw [topM_one r h1]
      cases r with
      | nil => simp at hm; omega
      | cons x p =>
        have : p = [] := List.eq_nil_of_length_eq_zero (by simp only [List.length_cons] at h1; omega)
        subst this
        simp [itemsL]
theorem made_items (l : List Ext) (h : l ≠ []) : itemsM (madeM l) = l := by
  unfold madeM
  have : 1 ≤ l.length := by cases l with | nil => exact absurd rfl h | cons _ _ => simp
  rw [top_items _ (by rw [leavesM_len]; unfold grp; omega), leaves_items]
theorem size_ge4 (n i : Nat) (h : 2 ≤ grp n) : 4 ≤ sizeM n (grp n) i := by
  unfold sizeM
  have : 4 ≤ n / grp n := by rw [Nat.le_div_iff_mul_le (by omega)]; unfold grp at *; omega
  omega
theorem size_one (n : Nat) (h : grp n = 1) : sizeM n (grp n) 0 = n := by
  rw [h]; unfold sizeM; simp [Nat.mod_one]
theorem up_good (r : List NodeM) (d : Nat) (h2 : 2 ≤ r.length) (h : ∀ x ∈ r, goodN (d + 1) false x ∧ x.hasFirst = true) :
    (2 ≤ (upM r).length → ∀ x ∈ upM r, goodN (d + 2) false x) ∧ ((upM r).length = 1 → ∀ x ∈ upM r, goodN (d + 2) true x) := by
  have hg : 1 ≤ grp r.length := by unfold grp; omega
  have hg8 : r.length ≤ grp r.length * 8 := by unfold grp; omega
  have part : ∀ i, i < grp r.length → ∀ x ∈ partM r (grp r.length) i, goodN (d + 1) false x ∧ x.hasFirst = true := fun i _ x hx => h x (List.mem_of_mem_drop (List.mem_of_mem_take hx))
  rw [upM_len]
  refine ⟨fun hl x hx => ?_, fun hl x hx => ?_⟩
  · obtain ⟨i, hi, rfl⟩ := List.mem_map.1 hx
    rw [List.mem_range] at hi
    have hs := partM_len r (grp r.length) i hi
    have h4 := size_ge4 r.length i hl
    have h8 := size_le r.length (grp r.length) i hg hg8
    unfold nodeM
    refine ⟨rfl, rfl, ?_, by omega, part i hi⟩
    rw [hs]; simp [leastN]; omega
  · obtain ⟨i, hi, rfl⟩ := List.mem_map.1 hx
    rw [List.mem_range] at hi
    have hi0 : i = 0 := by omega
    subst hi0
    have hs := partM_len r (grp r.length) 0 hi
    rw [size_one _ hl] at hs
    have : r.length ≤ 8 := by rw [hl] at hg8; omega
    unfold nodeM
    refine ⟨rfl, rfl, ?_, by omega, part 0 hi⟩
    rw [hs]; simp [leastN]; omega
theorem top_good : ∀ (k d : Nat) (r : List NodeM), 1 ≤ r.length → r.length ≤ 8 ^ k → (∀ x ∈ r, x.hasFirst = true) → (2 ≤ r.length → ∀ x ∈ r, goodN (d + 1) false x) → (r.length = 1 → ∀ x ∈ r, goodN (d + 1) true x) →
    ∃ e, e ≤ d + 1 + k ∧ goodN e true (topM r)
  | 0, d, r, h1, h2, _, _, h4 => by
    have hl : r.length = 1 := by simp at h2; omega
    rw [topM_one r (by omega)]
    cases r with
    | nil => simp at h1
    | cons x p => exact ⟨d + 1, by omega, h4 hl x (by simp)⟩
  | k + 1, d, r, h1, h2, hf, h3, h4 => by
    by_cases hl : 1 < r.length
    · obtain ⟨g1, g2⟩ := up_good r d hl (fun x hx => ⟨h3 hl x hx, hf x hx⟩)
      rw [topM_up r hl]
      obtain ⟨e, he, hg⟩ := top_good k (d + 1) (upM r) (by rw [upM_len]; unfold grp; omega) (by rw [upM_len]; unfold grp; rw [Nat.pow_succ] at h2; omega) (up_first r hf) g1 g2
      exact ⟨e, by omega, hg⟩
    · have hl : r.length = 1 := by omega
      rw [topM_one r (by omega)]
      cases r with
      | nil => simp at h1
      | cons x p => exact ⟨d + 1, by omega, h4 hl x (by simp)⟩
theorem made_good (l : List Ext) (h : l ≠ []) (hn : l.length ≤ 1000) : ∃ e, e ≤ 4 ∧ goodN e true (madeM l) := by
  have h1 : 1 ≤ l.length := by cases l with | nil => exact absurd rfl h | cons _ _ => simp
  have hg8 : l.length ≤ grp l.length * 8 := by unfold grp; omega
  have hg : 1 ≤ grp l.length := by unfold grp; omega
  obtain ⟨e, he, hgd⟩ := top_good 3 0 (leavesM l) (by rw [leavesM_len]; exact hg) (by rw [leavesM_len]; unfold grp; omega) (leaves_first l) (fun hl x hx => by
    rw [leavesM_len] at hl
    obtain ⟨i, hi, rfl⟩ := List.mem_map.1 hx
    rw [List.mem_range] at hi
    have hs := partM_len l (grp l.length) i hi
    exact ⟨rfl, rfl, by rw [hs]; exact size_ge4 _ _ hl, by rw [hs]; exact size_le _ _ _ hg hg8⟩) (fun hl x hx => by
    rw [leavesM_len] at hl
    obtain ⟨i, hi, rfl⟩ := List.mem_map.1 hx
    rw [List.mem_range] at hi
    have hi0 : i = 0 := by omega
    subst hi0
    have hs := partM_len l (grp l.length) 0 hi
    rw [size_one _ hl] at hs
    exact ⟨rfl, rfl, by rw [hs]; simp [leastN]; omega, by rw [hs]; rw [hl] at hg8; omega⟩)
  exact ⟨e, by omega, hgd⟩
end Go.Ov

/- Contracts of overdubkeep.Within, need.Nodes, need.Blocks, need.Checkpoint, overdublaw24.wakes. -/
namespace Go.Proofs.Ytddcjekkimajpaa.Need
open Go.RowKit Go.Ov

set_option maxHeartbeats 400000 in
theorem within_any (v n : Int) (w : World) (hn : n ≤ 9223372036854775807) :
    Calls Try.prog 12 #[.int .i64 v, .int .i64 n] w fun e w' => e = .returned (.int .i64 (within v n)) ∧ w = w' := by
  go_enter Try.func12, Try.ntmps12
  go_wp2
  all_goals go_ret
  all_goals refine ⟨ret_int ?_, rfl⟩
  · rename_i h; unfold within; rw [if_pos h]
  · rename_i h1 h
    have := Int.emod_nonneg v (show n ≠ 0 by omega)
    have := Int.emod_lt_of_pos v (show 0 < n by omega)
    have e := tmod_lt0 v n h1 h
    unfold within; rw [if_neg (by omega)]
    show wrap64 (v.tmod n + n) = _
    rw [e]; unfold wrap64; omega
  · rename_i h1 h
    unfold within; rw [if_neg (by omega)]; exact tmod_ge0 v n h1 h

def nodes (n : Nat) : Nat := if n = 0 then 0 else if n < 8 then 1 else n / 4 + nodes (n / 4)
  termination_by n
  decreasing_by omega
def nodesI (x : Int) : Int := nodes (min x 1048576).toNat

theorem nodes_le (n : Nat) : nodes n ≤ n := by
  induction n using Nat.strongRecOn with
  | _ n ih =>
    unfold nodes
    split
    · omega
    · split
      · omega
      · have := ih (n / 4) (by omega); omega
theorem nodes_pos (n : Nat) (h : 0 < n) : 1 ≤ nodes n := by
  unfold nodes
  split
  · omega
  · split <;> omega
theorem nodes_mono (n m : Nat) (h : n ≤ m) : nodes n ≤ nodes m := by
  induction m using Nat.strongRecOn generalizing n with
  | _ m ih =>
    by_cases h0 : n = 0
    · subst h0; unfold nodes; rw [if_pos rfl]; exact Nat.zero_le _
    · by_cases h8 : n < 8
      · have := nodes_pos m (by omega)
        have e : nodes n = 1 := by unfold nodes; rw [if_neg h0, if_pos h8]
        omega
      · have := ih (m / 4) (by omega) (n / 4) (by omega)
        unfold nodes
        rw [if_neg h0, if_neg h8, if_neg (by omega), if_neg (by omega)]
        omega

def blocks (n : Int) : Int := if n ≤ 0 then 0 else (n - 1) / 40 + 1
theorem nodesI_1 : nodesI 1 = 1 := by unfold nodesI nodes; rfl
def sums (l : List Int) : Int := (l.map nodesI).sum
def sumss (ls : List (List Int)) : Int := (ls.map sums).sum
end Go.Proofs.Ytddcjekkimajpaa.Need

/- Contracts of package piece and extent's functions, and of overdublaw16.Row. -/
namespace Go.Proofs.Ytddcjekkimajpaa.ExtW
open Go.RowKit Go.Ov Go.Proofs.Ytddcjekkimajpaa.Need

theorem infoExt : (Try.prog.info? 38).map (fun i => (i.zero, i.size, i.bytes)) = some (some (.agg #[.int .i64 0, .int .i64 0, .int .i64 0, .int .i64 0, .int .i64 0]), 5, 40) := by kernel_rfl

set_option maxRecDepth 100000 in
set_option maxHeartbeats 1000000 in
theorem end_any (v : Value) (l : List Ext) (w : World) (h : extE.Is w v l) :
    Calls Try.prog 63 #[v] w fun e w' => e = .returned (.int .i64 (wrap64 (endM l))) ∧ Bl w w' := by
  obtain ⟨A, c, rfl, h1, h2, h3, h4⟩ := h
  have HA := Lib.hid h4
  have hl : l.length ≤ 9223372036854775807 := by unfold maxLen at h2; omega
  have hu := Try.underlying38
  clear h1 h2 h3 h4
  go_enter Try.func63, Try.ntmps63
  go_wp2
  go_loopg [3, 8] l.length (fun g s i wr => ∃ k : Nat, k ≤ l.length ∧ g = l.length - k ∧ i = .int .i64 k ∧ s = .int .i64 (wrap64 (psum Ext.take l k)) ∧ Bl w wr)
  case atStart => exact ⟨0, by omega, rfl, rfl, by rw [psum_zero]; exact congrArg (Value.int .i64) (wrap_id (by decide) (by decide)).symm, Bl.refl _⟩
  case round =>
    obtain ⟨k, hk, rfl, rfl, rfl, hbl⟩ := hrel
    have HB := Lib.hid hbl
    clear hbl
    by_cases hlt : k < l.length
    · obtain ⟨ad, rfl, c0, c1, c2, c3, c4⟩ := ext_at (HA.out.bl HB.out) k hlt
      have hst := Lib.hid (psum_succ Ext.take l k hlt)
      generalize l[k] = x at *
      obtain ⟨x0, x1, x2, x3, x4⟩ := x
      dsimp only at c0 c1 c2 c3 c4
      go_wp2
      go_roundg (l.length - (k + 1))
      case measure => omega
      case rel => exact ⟨k + 1, by omega, rfl, by go_num, by rw [hst.out, wrap_wrap_add], HB.out.alloc _⟩
    · go_wp2
      go_ret
      exact ⟨ret_int (by rw [psum_all _ _ _ (by omega)]; rfl), HB.out⟩

set_option maxRecDepth 100000 in
set_option maxHeartbeats 1000000 in
theorem one_any (x : Ext) (w : World) : Calls Try.prog 82 #[x.v] w fun e w' => e = .returned (.bool (oneB x)) ∧ w.alloc (.cells #[.int .i64 x.at_, .int .i64 x.sector, .int .i64 x.count, .int .i64 x.skip, .int .i64 x.take] 38) = w' := by
  obtain ⟨x0, x1, x2, x3, x4⟩ := x
  have hu := Try.underlying38
  show Calls Try.prog 82 #[.agg #[.int .i64 x0, .int .i64 x1, .int .i64 x2, .int .i64 x3, .int .i64 x4]] w _
  go_enter Try.func82, Try.ntmps82
  go_wp2
  all_goals (go_ret; refine ⟨ret_bool ?_, rfl⟩; rw [Bool.eq_iff_iff]; simp [oneB]; omega)

set_option maxRecDepth 100000 in
set_option maxHeartbeats 1000000 in
theorem pvalid_any (v : Value) (l : List Ext) (w : World) (h : extE.Is w v l) : Calls Try.prog 64 #[v] w fun e w' => e = .returned (.bool (validFrom 0 l)) ∧ Bl w w' := by
  obtain ⟨A, c, rfl, h1, h2, h3, h4⟩ := h
  have HA := Lib.hid h4
  have hl : l.length ≤ 9223372036854775807 := by unfold maxLen at h2; omega
  have hu := Try.underlying38
  clear h1 h2 h3 h4
  go_enter Try.func64, Try.ntmps64
  go_wp2
  go_loopg [3, 8] l.length (fun g s i wr => ∃ (k : Nat) (a : Int), k ≤ l.length ∧ g = l.length - k ∧ i = .int .i64 k ∧ s = .int .i64 a ∧ Hid (validFrom 0 l = validFrom a (l.drop k)) ∧ 0 ≤ a ∧ a ≤ 1000 ∧ Bl w wr)
  case atStart => exact ⟨0, 0, by omega, rfl, rfl, rfl, Lib.hid rfl, by omega, by omega, Bl.refl _⟩
  case round =>
    obtain ⟨k, a, hk, rfl, rfl, rfl, hv, ha0, ha1, hbl⟩ := hrel
    have HB := Lib.hid hbl
    clear hbl
    by_cases hlt : k < l.length
    · obtain ⟨ad, rfl, c0, c1, c2, c3, c4⟩ := ext_at (HA.out.bl HB.out) k hlt
      have hd := Lib.hid (List.drop_eq_getElem_cons hlt)
      generalize hx : l[k] = x at *
      have HX := Lib.hid hx
      clear hx
      by_cases t1 : oneB x = true
      · have ht := Lib.hid t1
        have hcase : validFrom a (x :: l.drop (k + 1)) = ((x.at_ == a) && decide (x.take ≤ 1000 - a) && validFrom (a + x.take) (l.drop (k + 1))) := by simp [validFrom, t1]
        have HC := Lib.hid hcase
        have htk : 1 ≤ x.take := by simp [oneB] at t1; omega
        obtain ⟨x0, x1, x2, x3, x4⟩ := x
        dsimp only at c0 c1 c2 c3 c4 htk
        clear hcase
        go_wp2_with (go_at_call 82; refine (one_any ⟨x0, x1, x2, x3, x4⟩ _).mono ?_; rintro e w' ⟨rfl, rfl⟩)
        · go_ret
          refine ⟨ret_bool ?_, (HB.out.alloc _).alloc _⟩
          rw [hv.out, hd.out, HC.out, Bool.eq_iff_iff]; simp; intros; exfalso; omega
        · go_roundg (l.length - (k + 1))
          case measure => omega
          case rel =>
            refine ⟨k + 1, a + x4, by omega, rfl, by go_num, rfl, Lib.hid ?_, by omega, by omega, (HB.out.alloc _).alloc _⟩
            rw [hv.out, hd.out, HC.out]; simp; omega
        · go_ret
          refine ⟨ret_bool ?_, (HB.out.alloc _).alloc _⟩
          rw [hv.out, hd.out, HC.out, Bool.eq_iff_iff]; simp; intros; exfalso; omega
      · have t1' : oneB x = false := by simpa using t1
        have hcase : validFrom a (x :: l.drop (k + 1)) = false := by simp [validFrom, t1']
        have HC := Lib.hid hcase
        clear t1 hcase
        obtain ⟨x0, x1, x2, x3, x4⟩ := x
        dsimp only at c0 c1 c2 c3 c4
        go_wp2_with (go_at_call 82; refine (one_any ⟨x0, x1, x2, x3, x4⟩ _).mono ?_; rintro e w' ⟨rfl, rfl⟩)
        go_ret
        exact ⟨ret_bool (by rw [hv.out, hd.out, HC.out]), (HB.out.alloc _).alloc _⟩
    · go_wp2
      go_ret
      refine ⟨ret_bool ?_, HB.out⟩
      rw [hv.out, List.drop_of_length_le (by omega)]; rfl

set_option maxRecDepth 100000 in
set_option maxHeartbeats 1000000 in
theorem valid_any (v : Value) (l : List Ext) (w : World) (h : extE.Is w v l) : Calls Try.prog 57 #[v] w fun e w' => e = .returned (.bool (validFrom 0 l)) ∧ Bl w w' := by
  have HH := Lib.hid h
  clear h
  go_enter Try.func57, Try.ntmps57
  go_wp2_with (go_at_call 64; refine (pvalid_any _ _ _ HH.out).mono ?_; rintro e w' ⟨rfl, hb⟩)
  go_ret
  exact ⟨rfl, hb⟩

def pflat {α β : Type} (f : α → List β) (l : List α) (k : Nat) : List β := (l.take k).flatMap f
theorem pflat_zero {α β : Type} (f : α → List β) (l : List α) : pflat f l 0 = [] := rfl
theorem pflat_succ {α β : Type} (f : α → List β) (l : List α) (k : Nat) (h : k < l.length) : pflat f l (k + 1) = pflat f l k ++ f l[k] := by
  unfold pflat; rw [List.take_succ_eq_append_getElem h, List.flatMap_append]; simp
theorem pflat_all {α β : Type} (f : α → List β) (l : List α) (k : Nat) (h : l.length ≤ k) : pflat f l k = l.flatMap f := by
  unfold pflat; rw [List.take_of_length_le h]
theorem pflat_len {α β : Type} (f : α → List β) (hf : ∀ x, (f x).length ≤ 1) (l : List α) : ∀ k, (pflat f l k).length ≤ k
  | 0 => by rw [pflat_zero]; simp
  | k + 1 => by
    have ih := pflat_len f hf l k
    by_cases h : k < l.length
    · rw [pflat_succ _ _ _ h, List.length_append]; have := hf l[k]; omega
    · rw [pflat_all _ _ _ (by omega)]; rw [pflat_all _ _ _ (by omega)] at ih; omega

set_option maxRecDepth 100000 in
set_option maxHeartbeats 1000000 in
theorem shift_any (v : Value) (l : List Ext) (by_ : Int) (w : World) (h : extE.Is w v l) (hn : l.length * 40 ≤ 140737488355328) :
    Calls Try.prog 84 #[v, .int .i64 by_] w fun e w' => ∃ u, e = .returned u ∧ extE.Own 38 w' w.heap.size u (shiftM by_ l) ∧ Bl w w' := by
  obtain ⟨A, c, rfl, h1, h2, h3, h4⟩ := h
  have HA := Lib.hid h4
  have hl : l.length ≤ 9223372036854775807 := by unfold maxLen at h2; omega
  have hu := Try.underlying38
  clear h1 h2 h3 h4
  go_enter Try.func84, Try.ntmps84
  go_wp2
  go_loopg [5, 10] l.length (fun g s i wr => ∃ (k : Nat), k ≤ l.length ∧ g = l.length - k ∧ i = .int .i64 k ∧ extE.Own 38 wr w.heap.size s (pmap (shiftE by_) l k) ∧ Bl w wr)
  case atStart => exact ⟨0, by omega, rfl, rfl, Enc.Own.nil _ _ _, Bl.refl _⟩
  case round =>
    obtain ⟨k, hk, rfl, rfl, ho, hbl⟩ := hrel
    have HB := Lib.hid hbl
    have HO := Lib.hid ho
    clear hbl ho
    by_cases hlt : k < l.length
    · obtain ⟨ad, rfl, c0, c1, c2, c3, c4⟩ := ext_at (HA.out.bl HB.out) k hlt
      have hst := Lib.hid (pmap_succ (shiftE by_) l k hlt)
      have hlen := Lib.hid (pmap_len (shiftE by_) l k hk)
      generalize pmap (shiftE by_) l k = xs at *
      generalize l[k] = x at *
      obtain ⟨x0, x1, x2, x3, x4⟩ := x
      dsimp only at c0 c1 c2 c3 c4
      go_wp2_with (at_builtin; refine Enc.Own.append1 (E := extE) rfl (.tmp 19) (.tmp 21) 31 rfl w.heap.size 38 (.agg #[.int .i64 0, .int .i64 0, .int .i64 0, .int .i64 0, .int .i64 0]) 5 40 Try.underlying31 infoExt rfl rfl (by decide) (by decide) u5 xs rfl (HO.out.bl ((Bl.refl _).alloc _)) ⟨wrap64 (x0 + by_), x1, x2, x3, x4⟩ _ rfl (by simp) rfl ?hlen ?hbase ?_; (case hlen => have := hlen.out; omega); (case hbase => exact (HB.out.alloc _).size); intro v1 w1 ho hg)
      go_roundg (l.length - (k + 1))
      case measure => omega
      case rel => exact ⟨k + 1, by omega, rfl, by go_num, by rw [hst.out]; exact ho, ((HB.out.alloc _).alloc _).grown hg (fun k hk => (Enc.Own.lt HO.out k hk).1)⟩
    · go_wp2
      go_ret
      exact ⟨_, rfl, by have := HO.out; rw [pmap_all _ _ _ (by omega)] at this; exact this, HB.out⟩

set_option maxRecDepth 100000 in
set_option maxHeartbeats 1000000 in
theorem cut_any (v : Value) (l : List Ext) (a b : Int) (w : World) (h : extE.Is w v l) (hn : l.length * 40 ≤ 140737488355328) :
    Calls Try.prog 83 #[v, .int .i64 a, .int .i64 b] w fun e w' => ∃ u, e = .returned u ∧ extE.Own 38 w' w.heap.size u (cutM a b l) ∧ Bl w w' := by
  obtain ⟨A, c, rfl, h1, h2, h3, h4⟩ := h
  have HA := Lib.hid h4
  have hl : l.length ≤ 9223372036854775807 := by unfold maxLen at h2; omega
  have hu := Try.underlying38
  clear h1 h2 h3 h4
  go_enter Try.func83, Try.ntmps83
  go_wp2
  go_loopg [7, 14] l.length (fun g s i wr => ∃ (k : Nat), k ≤ l.length ∧ g = l.length - k ∧ i = .int .i64 k ∧ extE.Own 38 wr w.heap.size s (pflat (cutE a b) l k) ∧ Bl w wr)
  case atStart => exact ⟨0, by omega, rfl, rfl, Enc.Own.nil _ _ _, Bl.refl _⟩
  case round =>
    obtain ⟨k, hk, rfl, rfl, ho, hbl⟩ := hrel
    have HB := Lib.hid hbl
    have HO := Lib.hid ho
    clear hbl ho
    by_cases hlt : k < l.length
    · obtain ⟨ad, rfl, c0, c1, c2, c3, c4⟩ := ext_at (HA.out.bl HB.out) k hlt
      have hst := Lib.hid (pflat_succ (cutE a b) l k hlt)
      have hlen := Lib.hid (pflat_len (cutE a b) (cutE_len a b) l k)
      generalize pflat (cutE a b) l k = xs at *
      generalize l[k] = x at *
      obtain ⟨x0, x1, x2, x3, x4⟩ := x
      dsimp only at c0 c1 c2 c3 c4
      go_wp2_with fail
      go_quiet (fail)
      by_cases ht : max x0 a < min (wrap64 (x0 + x4)) b
      · have hc : cutE a b ⟨x0, x1, x2, x3, x4⟩ = [⟨max x0 a, x1, x2, wrap64 (wrap64 (x3 + max x0 a) - x0), wrap64 (min (wrap64 (x0 + x4)) b - max x0 a)⟩] := if_pos ht
        have HC := Lib.hid hc
        clear hc
        go_wp2_with (at_builtin; refine Enc.Own.append1 (E := extE) rfl (.tmp 32) (.tmp 49) 31 rfl w.heap.size 38 (.agg #[.int .i64 0, .int .i64 0, .int .i64 0, .int .i64 0, .int .i64 0]) 5 40 Try.underlying31 infoExt rfl rfl (by decide) (by decide) u7 xs rfl (HO.out.bl (((Bl.refl _).alloc _).drewN _)) ⟨max x0 a, x1, x2, wrap64 (wrap64 (x3 + max x0 a) - x0), wrap64 (min (wrap64 (x0 + x4)) b - max x0 a)⟩ _ rfl (by simp) rfl ?hlen ?hbase ?_; (case hlen => have := hlen.out; omega); (case hbase => exact ((HB.out.alloc _).drewN _).size); intro v1 w1 ho hg)
        go_roundg (l.length - (k + 1))
        case measure => omega
        case rel => exact ⟨k + 1, by omega, rfl, by go_num, by rw [hst.out, HC.out]; exact ho, (((HB.out.alloc _).drewN _).alloc _).grown hg (fun k hk => (Enc.Own.lt HO.out k hk).1)⟩
      · have hc : cutE a b ⟨x0, x1, x2, x3, x4⟩ = [] := if_neg ht
        have HC := Lib.hid hc
        clear hc
        go_wp2
        go_roundg (l.length - (k + 1))
        case measure => omega
        case rel => exact ⟨k + 1, by omega, rfl, by go_num, by rw [hst.out, HC.out, List.append_nil]; exact HO.out.bl (((Bl.refl _).alloc _).drewN _), (HB.out.alloc _).drewN _⟩
    · go_wp2
      go_ret
      exact ⟨_, rfl, by have := HO.out; rw [pflat_all _ _ _ (by omega)] at this; exact this, HB.out⟩

theorem ret2 {u : Value} {a b : Int} (h : a = b) : Ending.returned (.tuple #[u, .int .i64 a]) = .returned (.tuple #[u, .int .i64 b]) := by rw [h]

set_option maxRecDepth 100000 in
set_option maxHeartbeats 1000000 in
theorem splice_any (v u : Value) (l new : List Ext) (fr tt : Int) (w : World) (h : extE.Is w v l) (hn : extE.Is w u new) (hv : validFrom 0 l = true) (hlen : new.length * 40 ≤ 100000000000000) :
    Calls Try.prog 70 #[v, .int .i64 fr, .int .i64 tt, u] w fun e w' => ∃ z, e = .returned (.tuple #[z, .int .i64 (spliceM l fr tt new).2]) ∧ extE.Own 38 w' w.heap.size z (spliceM l fr tt new).1 ∧ Bl w w' := by
  have hb := validFrom_bd l 0 (by decide) hv
  have hE : wrap64 (endM l) = endM l := wrap_id (by omega) (by omega)
  have HE := Lib.hid hE
  have HL := Lib.hid h
  have HN := Lib.hid hn
  clear h hn hE hv
  obtain ⟨hb1, hb2⟩ := hb
  by_cases hbad : spliceBad l fr tt new = true
  · have hm : spliceM l fr tt new = ([], 1) := if_pos hbad
    have HM := Lib.hid hm
    rw [hm]
    clear hm
    have hor : validFrom 0 new = false ∨ validFrom 0 new = true ∧ (fr < 0 ∨ ¬ fr < 0 ∧ (tt < fr ∨ ¬ tt < fr ∧ endM l < fr)) := by
      simp only [spliceBad, Bool.or_eq_true, Bool.not_eq_true', decide_eq_true_eq] at hbad
      cases hq : validFrom 0 new
      · exact .inl rfl
      · refine .inr ⟨rfl, ?_⟩
        simp [hq] at hbad; omega
    clear hbad
    rcases hor with hq | ⟨hq, h1 | ⟨h1, h2 | ⟨h2, h3⟩⟩⟩
    all_goals
      have HQ := Lib.hid hq
      clear hq
      go_enter Try.func70, Try.ntmps70
      go_wp2_with fail
      refine (end_any _ _ _ HL.out).mono ?_
      rintro e w1 ⟨rfl, hb1⟩
      rw [HE.out]
      go_wp2_with fail
      refine (valid_any _ _ _ (HN.out.bl hb1)).mono ?_
      rintro e w2 ⟨rfl, hb2⟩
      rw [HQ.out]
      have HB := Lib.hid (hb1.trans hb2)
      clear hb1 hb2
      go_wp2
      go_ret2
      exact ⟨_, rfl, Enc.Own.nil _ _ _, HB.out⟩
  · have hg : validFrom 0 new = true ∧ ¬ fr < 0 ∧ ¬ tt < fr ∧ ¬ endM l < fr := by
      simp only [spliceBad, Bool.or_eq_true, Bool.not_eq_true', decide_eq_true_eq, not_or] at hbad
      simp at hbad; exact ⟨hbad.1.1.1, by omega, by omega, by omega⟩
    have hm : spliceM l fr tt new = (if spliceLong l fr tt new then ([], 4) else (spliceL l fr tt new, 0)) := if_neg hbad
    clear hbad
    obtain ⟨hq, h1, h2, h3⟩ := hg
    obtain ⟨nb1, nb2⟩ := validFrom_bd new 0 (by decide) hq
    have HF := Lib.hid (show wrap64 (endM new) = endM new from wrap_id (by omega) (by omega))
    have HQ := Lib.hid hq
    clear hq
    have ln1 := cutM_len 0 fr l
    have ln2 := shiftM_len fr new
    have ln3 := cutM_len (min tt (endM l)) (endM l) l
    have ln4 := shiftM_len (fr + endM new - min tt (endM l)) (cutM (min tt (endM l)) (endM l) l)
    have HX := Lib.hid (show spliceL l fr tt new = (cutM 0 fr l ++ shiftM fr new) ++ shiftM (fr + endM new - min tt (endM l)) (cutM (min tt (endM l)) (endM l) l) from rfl)
    have HY := Lib.hid (show spliceLong l fr tt new = decide (1000 < fr + endM new + endM l - min tt (endM l)) from rfl)
    have HM := Lib.hid hm
    rw [hm]
    clear hm
    generalize spliceL l fr tt new = R at *
    have H1 := Lib.hid (And.intro ln1 (And.intro ln2 (And.intro ln3 ln4)))
    clear ln1 ln2 ln3 ln4
    by_cases hlong : spliceLong l fr tt new = true
    all_goals
      have hlg := hlong
      rw [HY.out] at hlg
      simp only [decide_eq_true_eq] at hlg
      simp only [hlong, if_true]
      clear hlong
      go_enter Try.func70, Try.ntmps70
      go_wp2_with fail
      refine (end_any _ _ _ HL.out).mono ?_
      rintro e w1 ⟨rfl, hb1⟩
      rw [HE.out]
      go_wp2_with fail
      refine (valid_any _ _ _ (HN.out.bl hb1)).mono ?_
      rintro e w2 ⟨rfl, hb2⟩
      rw [HQ.out]
      have HB := Lib.hid (hb1.trans hb2)
      clear hb1 hb2
      go_wp2_with fail
      refine (end_any _ _ _ (HN.out.bl HB.out)).mono ?_
      rintro e w3 ⟨rfl, hb3⟩
      rw [HF.out]
      have HB3 := Lib.hid (HB.out.trans hb3)
      clear hb3 HB
      go_wp2_with fail
      refine (cut_any _ _ _ _ _ (HL.out.bl HB3.out) (by omega)).mono ?_
      rintro e w4 ⟨u1, rfl, ho1, hb4⟩
      have HO1 := Lib.hid ho1
      have HB4 := Lib.hid (HB3.out.trans hb4)
      have HC := Lib.hid hb4.size
      clear ho1 hb4
      go_wp2_with fail
      refine (shift_any _ _ _ _ (HN.out.bl HB4.out) (by omega)).mono ?_
      rintro e w5 ⟨u2, rfl, ho2, hb5⟩
      have HO2 := Lib.hid ho2
      have HO1' := Lib.hid (HO1.out.bl hb5)
      have HB5 := Lib.hid (HB4.out.trans hb5)
      clear ho2 hb5 HO1
      go_wp2_with (at_builtin; refine Enc.Own.append (E := extE) rfl (.tmp 41) (.tmp 44) 31 rfl w.heap.size 38 (.agg #[.int .i64 0, .int .i64 0, .int .i64 0, .int .i64 0, .int .i64 0]) 5 40 Try.underlying31 infoExt rfl rfl (by decide) (by decide) u1 _ rfl (HO1'.out.low HB3.out.size) u2 _ rfl HO2.out.is ?hlen HB5.out.size ?_; (case hlen => have := H1.out; omega); intro u3 w6 ho3 hg3)
      have HB6 := Lib.hid (HB5.out.grown hg3 (fun k hk => Nat.le_trans HB3.out.size (Enc.Own.lt HO1'.out k hk).1))
      have HO3 := Lib.hid ho3
      clear ho3 hg3 HO1' HO2
      go_wp2_with fail
      refine (cut_any _ _ _ _ _ (HL.out.bl HB6.out) (by omega)).mono ?_
      rintro e w7 ⟨u4, rfl, ho4, hb7⟩
      have HO4 := Lib.hid ho4
      have HB7 := Lib.hid (HB6.out.trans hb7)
      have HO3' := Lib.hid (HO3.out.bl hb7)
      clear ho4 hb7 HO3
      go_wp2_with fail
      refine (shift_any _ _ _ _ HO4.out.is (by have := H1.out; omega)).mono ?_
      rintro e w8 ⟨u5, rfl, ho5, hb8⟩
      have HO5 := Lib.hid ho5
      have HB8 := Lib.hid (HB7.out.trans hb8)
      have HO3 := Lib.hid (HO3'.out.bl hb8)
      clear ho5 hb8 HO3'
      go_wp2_with (at_builtin; refine Enc.Own.append (E := extE) rfl (.tmp 46) (.tmp 54) 31 rfl w.heap.size 38 (.agg #[.int .i64 0, .int .i64 0, .int .i64 0, .int .i64 0, .int .i64 0]) 5 40 Try.underlying31 infoExt rfl rfl (by decide) (by decide) u3 _ rfl HO3.out u5 _ rfl HO5.out.is ?hlen HB8.out.size ?_; (case hlen => have := H1.out; rw [List.length_append]; omega); intro u6 w9 ho6 hg6)
      have HB9 := Lib.hid (HB8.out.grown hg6 (fun k hk => (Enc.Own.lt HO3.out k hk).1))
      have HO6 := Lib.hid ho6
      clear ho6 hg6
      go_ret2
      first
        | exact ⟨_, rfl, Enc.Own.nil _ _ _, HB9.out⟩
        | exact ⟨_, rfl, by rw [HX.out]; exact HO6.out, HB9.out⟩
end Go.Proofs.Ytddcjekkimajpaa.ExtW

/- How a law's arguments are opened: slices of whatever elements. -/
namespace Go.Ov
open Go.RowKit Go.ChangeShapes Go.WideShapes Go.ChangeAt Go.Deep

section
variable {H : Type} {enc : TypeId × Value → H} {P : Program} {w : World} {base : Nat} {spare : Nat → Bool} {held : Bool}

theorem trod_slice_rel {α : Type} [Inhabited α] {t e : TypeId} (R : α → List Value → Prop) (ht : P.underlying t = some (.slice e))
    (hel : ∀ fuel cs x, DataW.trod enc P w base spare held fuel e cs = some x → ∃ a, R a cs)
    {fuel : Nat} {cs : List Value} {x : DataW H × List MemPlace} (h : DataW.trod enc P w base spare held fuel t cs = some x) :
    ∃ (A : Option Addr) (c : Nat) (xs : List α), cs = [.slice A xs.length c] ∧ xs.length ≤ c ∧ c ≤ maxLen ∧ (A = none → c = 0) ∧
      (∀ i y, xs[i]? = some y → ∃ ad cs', A = some ad ∧ (∀ j u, cs'[j]? = some u → w.cell? (ad.add (i * P.cellsOf e + j)) = some u) ∧ R y cs') ∧
      (x.1 = .nil ∧ xs = [] ∨ ∃ el sp, x.1 = .slice el sp ∧ el.length = xs.length) := by
  rcases open_slice ht h with ⟨rfl, rfl⟩ | ⟨a, len, cap, m, n, D, Pl, rfl, hb, hl, hm, hmm, rfl, hx⟩
  · exact ⟨none, 0, [], rfl, Nat.le_refl _, Nat.zero_le _, fun _ => rfl, fun i y hy => by simp at hy, .inl ⟨rfl, rfl⟩⟩
  · have hlm : len ≤ m := by rw [hmm]; split <;> omega
    obtain ⟨f, hf⟩ := choose_lt (α := α) (n := len) (p := fun i y => ∃ cs', (∀ j u, cs'[j]? = some u → w.cell? (a.add (i * P.cellsOf e + j)) = some u) ∧ R y cs') (fun i hi => by
      obtain ⟨cs', h1, h2⟩ := hx i (by omega)
      obtain ⟨y, hy⟩ := hel _ _ _ h2
      refine ⟨y, cs', fun j u hu => ?_, hy⟩
      obtain ⟨_, hlen, hc⟩ := World.cells?_some h1
      have hj : j < cs'.length := (List.getElem?_eq_some_iff.1 hu).1
      have := hc j (by omega)
      rw [← add_add]
      rw [this, hu])
    refine ⟨some a, cap, (List.range len).map f, by simp, by simpa using hl, hm, (fun h => by cases h), fun i y hy => ?_, .inr ⟨_, _, rfl, by simp⟩⟩
    have hi : i < len := by have := (List.getElem?_eq_some_iff.1 hy).1; simpa using this
    rw [List.getElem?_map, List.getElem?_range hi] at hy
    simp at hy; subst hy
    obtain ⟨cs', h1, h2⟩ := hf i hi
    exact ⟨a, cs', rfl, h1, h2⟩

theorem trod_int {t : TypeId} {k : IntKind} (ht : P.underlying t = some (.int k)) {fuel : Nat} {cs : List Value} {x : DataW H × List MemPlace} (h : DataW.trod enc P w base spare held fuel t cs = some x) :
    ∃ n : Int, cs = [.int k n] ∧ (Lit.int k n).wf = true := by
  obtain ⟨n, hn, _, hw⟩ := DataW.trod_int ht h
  exact ⟨n, hn, hw⟩

/-- an argument that is a slice of ints -/
def ArgInts (w : World) (v : Value) (l : List Int) : Prop := intE.Is w v l ∧ l.length * 8 ≤ 140737488351232 ∧ ∀ x ∈ l, -9223372036854775808 ≤ x ∧ x ≤ 9223372036854775807

theorem wf_bd {x : Int} (h : (Lit.int .i64 x).wf = true) : -9223372036854775808 ≤ x ∧ x ≤ 9223372036854775807 := Joins.in64_of_wf h

theorem open_argInts {t e : TypeId} {ts : List TypeId} {ds : List (DataW H)} {j : Nat} {d : DataW H} {ps : List MemPlace} {a : Option Addr} {n c : Nat}
    (ht : P.underlying t = some (.slice e)) (he : P.underlying e = some (.int .i64)) (hc : P.cellsOf e = 1) (hb : P.bytesOf e = 8)
    (hsz : (DataW.weightsEach P ts ds).all (· ≤ reachBytes) = true) (htj : ts[j]? = some t) (hdj : ds[j]? = some d)
    (h : DataW.Trod enc P w base spare held t (.slice a n c) d ps) : ∃ l, ArgInts w (.slice a n c) l := by
  obtain ⟨fuel, hf⟩ := h
  obtain ⟨A, c', xs, e1, e2, e3, e4, e5, e6⟩ := trod_slice_rel (α := Int) (fun x cs => cs = [.int .i64 x] ∧ (Lit.int .i64 x).wf = true) ht (fun fuel cs x hx => trod_int he hx) hf
  simp [Value.cells] at e1
  obtain ⟨rfl, rfl, rfl⟩ := e1
  refine ⟨xs, ⟨a, c, rfl, e2, e3, e4, fun i x hx => ?_⟩, ?_, fun x hx => ?_⟩
  · obtain ⟨ad, cs', rfl, h1, rfl, _⟩ := e5 i x hx
    rw [hc] at h1
    exact ⟨ad, rfl, h1⟩
  · rcases e6 with ⟨_, rfl⟩ | ⟨el, sp, rfl, e7⟩
    · simp
    · have z := sized_slice hsz htj hdj ht
      rw [hb, e7] at z
      have : reachBytes = 140737488351232 := rfl
      have := Nat.mul_le_mul_right 8 (Nat.le_add_right xs.length sp.length)
      omega
  · obtain ⟨i, hi⟩ := List.getElem?_of_mem hx
    obtain ⟨ad, cs', _, _, _, h2⟩ := e5 i x hi
    exact wf_bd h2
end
end Go.Ov

/- How arguments that are slices of extents are opened. -/
namespace Go.Ov
open Go.RowKit Go.ChangeShapes Go.WideShapes Go.ChangeAt Go.Deep

def inExt (e : Ext) : Prop := (-9223372036854775808 ≤ e.at_ ∧ e.at_ ≤ 9223372036854775807) ∧ (-9223372036854775808 ≤ e.sector ∧ e.sector ≤ 9223372036854775807) ∧ (-9223372036854775808 ≤ e.count ∧ e.count ≤ 9223372036854775807) ∧ (-9223372036854775808 ≤ e.skip ∧ e.skip ≤ 9223372036854775807) ∧ (-9223372036854775808 ≤ e.take ∧ e.take ≤ 9223372036854775807)
/-- an argument that is a slice of extents -/
def ArgExts (w : World) (v : Value) (l : List Ext) : Prop := extE.Is w v l ∧ l.length * 40 ≤ 140737488351232 ∧ ∀ x ∈ l, inExt x

section
variable {H : Type} {enc : TypeId × Value → H} {P : Program} {w : World} {base : Nat} {spare : Nat → Bool} {held : Bool}

theorem trod_ext {e t : TypeId} (hs : ∃ f0 f1 f2 f3 f4 : Field, P.underlying e = some (.struct #[f0, f1, f2, f3, f4]) ∧ f0.type = t ∧ f1.type = t ∧ f2.type = t ∧ f3.type = t ∧ f4.type = t ∧ f0.offset = 0 ∧ f1.offset = 1 ∧ f2.offset = 2 ∧ f3.offset = 3 ∧ f4.offset = 4)
    (hi : P.underlying t = some (.int .i64)) (hc : P.cellsOf e = 5) (hc1 : P.cellsOf t = 1) {fuel : Nat} {cs : List Value} {x : DataW H × List MemPlace}
    (h : DataW.trod enc P w base spare held fuel e cs = some x) : ∃ y : Ext, cs = y.vals ∧ inExt y := by
  obtain ⟨f0, f1, f2, f3, f4, hu, t0, t1, t2, t3, t4, o0, o1, o2, o3, o4⟩ := hs
  obtain ⟨xs, n, _, rfl, hl, hlen, hf⟩ := DataW.trod_struct hu h
  rw [hc] at hl
  match cs, hl with
  | [c0, c1, c2, c3, c4], _ =>
    have g0 := hf 0 f0 rfl
    have g1 := hf 1 f1 rfl
    have g2 := hf 2 f2 rfl
    have g3 := hf 3 f3 rfl
    have g4 := hf 4 f4 rfl
    rw [t0, o0, hc1] at g0
    rw [t1, o1, hc1] at g1
    rw [t2, o2, hc1] at g2
    rw [t3, o3, hc1] at g3
    rw [t4, o4, hc1] at g4
    have hx : xs.length = 5 := hlen
    rw [List.getElem?_eq_getElem (by omega)] at g0 g1 g2 g3 g4
    obtain ⟨n0, h0, w0⟩ := trod_int hi g0
    obtain ⟨n1, h1, w1⟩ := trod_int hi g1
    obtain ⟨n2, h2, w2⟩ := trod_int hi g2
    obtain ⟨n3, h3, w3⟩ := trod_int hi g3
    obtain ⟨n4, h4, w4⟩ := trod_int hi g4
    simp at h0 h1 h2 h3 h4
    subst h0; subst h1; subst h2; subst h3; subst h4
    exact ⟨⟨n0, n1, n2, n3, n4⟩, rfl, wf_bd w0, wf_bd w1, wf_bd w2, wf_bd w3, wf_bd w4⟩

theorem open_argExts {t e ti : TypeId} {ts : List TypeId} {ds : List (DataW H)} {j : Nat} {d : DataW H} {ps : List MemPlace} {a : Option Addr} {n c : Nat}
    (ht : P.underlying t = some (.slice e)) (hs : ∃ f0 f1 f2 f3 f4 : Field, P.underlying e = some (.struct #[f0, f1, f2, f3, f4]) ∧ f0.type = ti ∧ f1.type = ti ∧ f2.type = ti ∧ f3.type = ti ∧ f4.type = ti ∧ f0.offset = 0 ∧ f1.offset = 1 ∧ f2.offset = 2 ∧ f3.offset = 3 ∧ f4.offset = 4)
    (hc : P.cellsOf e = 5) (hb : P.bytesOf e = 40) (hi : P.underlying ti = some (.int .i64)) (hc1 : P.cellsOf ti = 1)
    (hsz : (DataW.weightsEach P ts ds).all (· ≤ reachBytes) = true) (htj : ts[j]? = some t) (hdj : ds[j]? = some d)
    (h : DataW.Trod enc P w base spare held t (.slice a n c) d ps) : ∃ l, ArgExts w (.slice a n c) l := by
  obtain ⟨fuel, hf⟩ := h
  obtain ⟨A, c', xs, e1, e2, e3, e4, e5, e6⟩ := trod_slice_rel (α := Ext) (fun x cs => cs = x.vals ∧ inExt x) ht (fun fuel cs x hx => trod_ext hs hi hc hc1 hx) hf
  simp [Value.cells] at e1
  obtain ⟨rfl, rfl, rfl⟩ := e1
  refine ⟨xs, ⟨a, c, rfl, e2, e3, e4, fun i x hx => ?_⟩, ?_, fun x hx => ?_⟩
  · obtain ⟨ad, cs', rfl, h1, rfl, _⟩ := e5 i x hx
    rw [hc] at h1
    exact ⟨ad, rfl, h1⟩
  · rcases e6 with ⟨_, rfl⟩ | ⟨el, sp, rfl, e7⟩
    · simp
    · have z := sized_slice hsz htj hdj ht
      rw [hb, e7] at z
      have : reachBytes = 140737488351232 := rfl
      have := Nat.mul_le_mul_right 40 (Nat.le_add_right xs.length sp.length)
      omega
  · obtain ⟨i, hi⟩ := List.getElem?_of_mem hx
    obtain ⟨ad, cs', _, _, _, h2⟩ := e5 i x hi
    exact h2
end
end Go.Ov

/- Records as data. No program in sight. -/
namespace Go.Ov
open Go.RowKit

/-- a record -/
structure Rec where
  kind : Int
  track : Int
  fr : Int
  tt : Int
  l : List Ext
def RecIs (w : World) (v : Value) (r : Rec) : Prop := ∃ u, v = .agg #[.int .i64 r.kind, .int .i64 r.track, .int .i64 r.fr, .int .i64 r.tt, u] ∧ extE.Is w u r.l
theorem RecIs.bl {w w' : World} {v : Value} {r : Rec} (h : RecIs w v r) (hb : Bl w w') : RecIs w' v r := by
  obtain ⟨u, e, h⟩ := h; exact ⟨u, e, h.bl hb⟩
/-- a record that may be, by any -/
def rightM (r : Rec) : Rec :=
  if 1 + within r.kind 5 ≤ 2 then ⟨1 + within r.kind 5, within r.track 100, 0, 0, []⟩
  else if 1 + within r.kind 5 = 3 then ⟨3, within r.track 100, within r.fr (within r.tt 1001 + 1), within r.tt 1001, rowM r.l 20⟩
  else ⟨1 + within r.kind 5, 0, 0, 0, []⟩
def in64 (x : Int) : Prop := -9223372036854775808 ≤ x ∧ x ≤ 9223372036854775807
def inRec (r : Rec) : Prop := in64 r.kind ∧ in64 r.track ∧ in64 r.fr ∧ in64 r.tt ∧ ∀ x ∈ r.l, inExt x
def ArgRec (w : World) (v : Value) (r : Rec) : Prop := RecIs w v r ∧ inRec r
def ArgIntss (w : World) (v : Value) (ls : List (List Int)) : Prop := ∃ A c hs, v = .slice A hs.length c ∧ hs.length ≤ c ∧ c ≤ maxLen ∧ headE.At w A hs ∧ IRows w hs ls
/-- a record in a block -/
def RecAt (w : World) (B : Nat) (r : Rec) : Prop := ∃ A n c, w.cell? ⟨B, 0, none⟩ = some (.int .i64 r.kind) ∧ w.cell? ⟨B, 1, none⟩ = some (.int .i64 r.track) ∧ w.cell? ⟨B, 2, none⟩ = some (.int .i64 r.fr) ∧
  w.cell? ⟨B, 3, none⟩ = some (.int .i64 r.tt) ∧ w.cell? ⟨B, 4, none⟩ = some (.slice A n c) ∧ extE.Is w (.slice A n c) r.l
theorem RecAt.bl {w w' : World} {B : Nat} {r : Rec} (h : RecAt w B r) (hb : Bl w w') : RecAt w' B r := by
  obtain ⟨A, n, c, h0, h1, h2, h3, h4, h5⟩ := h
  exact ⟨A, n, c, hb.cell h0, hb.cell h1, hb.cell h2, hb.cell h3, hb.cell h4, h5.bl hb⟩
theorem bcell {W w1 : World} (hb : Bl W w1) : (∀ b o, b < W.heap.size → w1.cell? ⟨b, o, none⟩ = W.cell? ⟨b, o, none⟩) ∧ (∀ b o, b < W.heap.size → w1.frozen? ⟨b, o, none⟩ = W.frozen? ⟨b, o, none⟩) :=
  ⟨fun b o h => Below.cell hb (p := ⟨b, o, none⟩) h, fun b o h => Below.frozen hb (p := ⟨b, o, none⟩) h⟩
end Go.Ov
