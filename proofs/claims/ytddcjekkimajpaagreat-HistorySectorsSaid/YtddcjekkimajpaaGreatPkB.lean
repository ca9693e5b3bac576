/- Several texts joined (see each one's head). -/
import Derived.Test.YtddcjekkimajpaaGreatPkA
import Derived.ProofKit
import Derived.OpenShut
import Derived.ShutString
import Derived.ChangeOld
import Derived.SizedLaws
import Derived.Deep.Slices
import Derived.Lib.SmallJoins
import Derived.Deep.RegionHeld3
import Derived.IntWalk
import Derived.ArgAppend
import Derived.Deep.DeepMust
/- How a law's arguments are opened: slices of whatever elements. -/
namespace Go.Ov
open Go.RowKit Go.ChangeShapes Go.WideShapes Go.ChangeAt Go.Deep

section
variable {H : Type} {enc : TypeId × Value → H} {P : Program} {w : World} {base : Nat} {spare : Nat → Bool} {held : Bool}

theorem trod_slice_rel {α : Type} [Inhabited α] {t e : TypeId} (R : α → List Value → Prop) (ht : P.underlying t = some (.slice e))
    (hel : ∀ fuel cs x, DataW.trod enc P w base spare held fuel e cs = some x → ∃ a, R a cs)
    {fuel : Nat} {cs : List Value} {x : DataW H × List MemPlace} (h : DataW.trod enc P w base spare held fuel t cs = some x) :
    ∃ (A : Option Addr) (c : Nat) (xs : List α), cs = [.slice A xs.length c] ∧ xs.length ≤ c ∧ c ≤ maxLen ∧ (A = none → c = 0) ∧
      (∀ i y, xs[i]? = some y → ∃ ad cs', A = some ad ∧ (∀ j u, cs'[j]? = some u → w.cell? (ad.add (i * P.cellsOf e + j)) = some u) ∧ R y cs') ∧
      (x.1 = .nil ∧ xs = [] ∨ ∃ el sp, x.1 = .slice el sp ∧ el.length = xs.length) := by
  rcases open_slice ht h with ⟨rfl, rfl⟩ | ⟨a, len, cap, m, n, D, Pl, rfl, hb, hl, hm, hmm, rfl, hx⟩
  · exact ⟨none, 0, [], rfl, Nat.le_refl _, Nat.zero_le _, fun _ => rfl, fun i y hy => by simp at hy, .inl ⟨rfl, rfl⟩⟩
  · have hlm : len ≤ m := by rw [hmm]; split <;> omega
    obtain ⟨f, hf⟩ := choose_lt (α := α) (n := len) (p := fun i y => ∃ cs', (∀ j u, cs'[j]? = some u → w.cell? (a.add (i * P.cellsOf e + j)) = some u) ∧ R y cs') (fun i hi => by
      obtain ⟨cs', h1, h2⟩ := hx i (by omega)
      obtain ⟨y, hy⟩ := hel _ _ _ h2
      refine ⟨y, cs', fun j u hu => ?_, hy⟩
      obtain ⟨_, hlen, hc⟩ := World.cells?_some h1
      have hj : j < cs'.length := (List.getElem?_eq_some_iff.1 hu).1
      have := hc j (by omega)
      rw [← add_add]
      rw [this, hu])
    refine ⟨some a, cap, (List.range len).map f, by simp, by simpa using hl, hm, (fun h => by cases h), fun i y hy => ?_, .inr ⟨_, _, rfl, by simp⟩⟩
    have hi : i < len := by have := (List.getElem?_eq_some_iff.1 hy).1; simpa using this
    rw [List.getElem?_map, List.getElem?_range hi] at hy
    simp at hy; subst hy
    obtain ⟨cs', h1, h2⟩ := hf i hi
    exact ⟨a, cs', rfl, h1, h2⟩

theorem trod_int {t : TypeId} {k : IntKind} (ht : P.underlying t = some (.int k)) {fuel : Nat} {cs : List Value} {x : DataW H × List MemPlace} (h : DataW.trod enc P w base spare held fuel t cs = some x) :
    ∃ n : Int, cs = [.int k n] ∧ (Lit.int k n).wf = true := by
  obtain ⟨n, hn, _, hw⟩ := DataW.trod_int ht h
  exact ⟨n, hn, hw⟩

/-- an argument that is a slice of ints -/
def ArgInts (w : World) (v : Value) (l : List Int) : Prop := intE.Is w v l ∧ l.length * 8 ≤ 140737488351232 ∧ ∀ x ∈ l, -9223372036854775808 ≤ x ∧ x ≤ 9223372036854775807

theorem wf_bd {x : Int} (h : (Lit.int .i64 x).wf = true) : -9223372036854775808 ≤ x ∧ x ≤ 9223372036854775807 := Joins.in64_of_wf h

theorem open_argInts {t e : TypeId} {ts : List TypeId} {ds : List (DataW H)} {j : Nat} {d : DataW H} {ps : List MemPlace} {a : Option Addr} {n c : Nat}
    (ht : P.underlying t = some (.slice e)) (he : P.underlying e = some (.int .i64)) (hc : P.cellsOf e = 1) (hb : P.bytesOf e = 8)
    (hsz : (DataW.weightsEach P ts ds).all (· ≤ reachBytes) = true) (htj : ts[j]? = some t) (hdj : ds[j]? = some d)
    (h : DataW.Trod enc P w base spare held t (.slice a n c) d ps) : ∃ l, ArgInts w (.slice a n c) l := by
  obtain ⟨fuel, hf⟩ := h
  obtain ⟨A, c', xs, e1, e2, e3, e4, e5, e6⟩ := trod_slice_rel (α := Int) (fun x cs => cs = [.int .i64 x] ∧ (Lit.int .i64 x).wf = true) ht (fun fuel cs x hx => trod_int he hx) hf
  simp [Value.cells] at e1
  obtain ⟨rfl, rfl, rfl⟩ := e1
  refine ⟨xs, ⟨a, c, rfl, e2, e3, e4, fun i x hx => ?_⟩, ?_, fun x hx => ?_⟩
  · obtain ⟨ad, cs', rfl, h1, rfl, _⟩ := e5 i x hx
    rw [hc] at h1
    exact ⟨ad, rfl, h1⟩
  · rcases e6 with ⟨_, rfl⟩ | ⟨el, sp, rfl, e7⟩
    · simp
    · have z := sized_slice hsz htj hdj ht
      rw [hb, e7] at z
      have : reachBytes = 140737488351232 := rfl
      have := Nat.mul_le_mul_right 8 (Nat.le_add_right xs.length sp.length)
      omega
  · obtain ⟨i, hi⟩ := List.getElem?_of_mem hx
    obtain ⟨ad, cs', _, _, _, h2⟩ := e5 i x hi
    exact wf_bd h2
end
end Go.Ov

/- How arguments that are slices of extents are opened. -/
namespace Go.Ov
open Go.RowKit Go.ChangeShapes Go.WideShapes Go.ChangeAt Go.Deep

def inExt (e : Ext) : Prop := (-9223372036854775808 ≤ e.at_ ∧ e.at_ ≤ 9223372036854775807) ∧ (-9223372036854775808 ≤ e.sector ∧ e.sector ≤ 9223372036854775807) ∧ (-9223372036854775808 ≤ e.count ∧ e.count ≤ 9223372036854775807) ∧ (-9223372036854775808 ≤ e.skip ∧ e.skip ≤ 9223372036854775807) ∧ (-9223372036854775808 ≤ e.take ∧ e.take ≤ 9223372036854775807)
/-- an argument that is a slice of extents -/
def ArgExts (w : World) (v : Value) (l : List Ext) : Prop := extE.Is w v l ∧ l.length * 40 ≤ 140737488351232 ∧ ∀ x ∈ l, inExt x

section
variable {H : Type} {enc : TypeId × Value → H} {P : Program} {w : World} {base : Nat} {spare : Nat → Bool} {held : Bool}

theorem trod_ext {e t : TypeId} (hs : ∃ f0 f1 f2 f3 f4 : Field, P.underlying e = some (.struct #[f0, f1, f2, f3, f4]) ∧ f0.type = t ∧ f1.type = t ∧ f2.type = t ∧ f3.type = t ∧ f4.type = t ∧ f0.offset = 0 ∧ f1.offset = 1 ∧ f2.offset = 2 ∧ f3.offset = 3 ∧ f4.offset = 4)
    (hi : P.underlying t = some (.int .i64)) (hc : P.cellsOf e = 5) (hc1 : P.cellsOf t = 1) {fuel : Nat} {cs : List Value} {x : DataW H × List MemPlace}
    (h : DataW.trod enc P w base spare held fuel e cs = some x) : ∃ y : Ext, cs = y.vals ∧ inExt y := by
  obtain ⟨f0, f1, f2, f3, f4, hu, t0, t1, t2, t3, t4, o0, o1, o2, o3, o4⟩ := hs
  obtain ⟨xs, n, _, rfl, hl, hlen, hf⟩ := DataW.trod_struct hu h
  rw [hc] at hl
  match cs, hl with
  | [c0, c1, c2, c3, c4], _ =>
    have g0 := hf 0 f0 rfl
    have g1 := hf 1 f1 rfl
    have g2 := hf 2 f2 rfl
    have g3 := hf 3 f3 rfl
    have g4 := hf 4 f4 rfl
    rw [t0, o0, hc1] at g0
    rw [t1, o1, hc1] at g1
    rw [t2, o2, hc1] at g2
    rw [t3, o3, hc1] at g3
    rw [t4, o4, hc1] at g4
    have hx : xs.length = 5 := hlen
    rw [List.getElem?_eq_getElem (by omega)] at g0 g1 g2 g3 g4
    obtain ⟨n0, h0, w0⟩ := trod_int hi g0
    obtain ⟨n1, h1, w1⟩ := trod_int hi g1
    obtain ⟨n2, h2, w2⟩ := trod_int hi g2
    obtain ⟨n3, h3, w3⟩ := trod_int hi g3
    obtain ⟨n4, h4, w4⟩ := trod_int hi g4
    simp at h0 h1 h2 h3 h4
    subst h0; subst h1; subst h2; subst h3; subst h4
    exact ⟨⟨n0, n1, n2, n3, n4⟩, rfl, wf_bd w0, wf_bd w1, wf_bd w2, wf_bd w3, wf_bd w4⟩

theorem open_argExts {t e ti : TypeId} {ts : List TypeId} {ds : List (DataW H)} {j : Nat} {d : DataW H} {ps : List MemPlace} {a : Option Addr} {n c : Nat}
    (ht : P.underlying t = some (.slice e)) (hs : ∃ f0 f1 f2 f3 f4 : Field, P.underlying e = some (.struct #[f0, f1, f2, f3, f4]) ∧ f0.type = ti ∧ f1.type = ti ∧ f2.type = ti ∧ f3.type = ti ∧ f4.type = ti ∧ f0.offset = 0 ∧ f1.offset = 1 ∧ f2.offset = 2 ∧ f3.offset = 3 ∧ f4.offset = 4)
    (hc : P.cellsOf e = 5) (hb : P.bytesOf e = 40) (hi : P.underlying ti = some (.int .i64)) (hc1 : P.cellsOf ti = 1)
    (hsz : (DataW.weightsEach P ts ds).all (· ≤ reachBytes) = true) (htj : ts[j]? = some t) (hdj : ds[j]? = some d)
    (h : DataW.Trod enc P w base spare held t (.slice a n c) d ps) : ∃ l, ArgExts w (.slice a n c) l := by
  obtain ⟨fuel, hf⟩ := h
  obtain ⟨A, c', xs, e1, e2, e3, e4, e5, e6⟩ := trod_slice_rel (α := Ext) (fun x cs => cs = x.vals ∧ inExt x) ht (fun fuel cs x hx => trod_ext hs hi hc hc1 hx) hf
  simp [Value.cells] at e1
  obtain ⟨rfl, rfl, rfl⟩ := e1
  refine ⟨xs, ⟨a, c, rfl, e2, e3, e4, fun i x hx => ?_⟩, ?_, fun x hx => ?_⟩
  · obtain ⟨ad, cs', rfl, h1, rfl, _⟩ := e5 i x hx
    rw [hc] at h1
    exact ⟨ad, rfl, h1⟩
  · rcases e6 with ⟨_, rfl⟩ | ⟨el, sp, rfl, e7⟩
    · simp
    · have z := sized_slice hsz htj hdj ht
      rw [hb, e7] at z
      have : reachBytes = 140737488351232 := rfl
      have := Nat.mul_le_mul_right 40 (Nat.le_add_right xs.length sp.length)
      omega
  · obtain ⟨i, hi⟩ := List.getElem?_of_mem hx
    obtain ⟨ad, cs', _, _, _, h2⟩ := e5 i x hi
    exact h2
end
end Go.Ov

/- Records as data. No program in sight. -/
namespace Go.Ov
open Go.RowKit

/-- a record -/
structure Rec where
  kind : Int
  track : Int
  fr : Int
  tt : Int
  l : List Ext
def RecIs (w : World) (v : Value) (r : Rec) : Prop := ∃ u, v = .agg #[.int .i64 r.kind, .int .i64 r.track, .int .i64 r.fr, .int .i64 r.tt, u] ∧ extE.Is w u r.l
theorem RecIs.bl {w w' : World} {v : Value} {r : Rec} (h : RecIs w v r) (hb : Bl w w') : RecIs w' v r := by
  obtain ⟨u, e, h⟩ := h; exact ⟨u, e, h.bl hb⟩
/-- a record that may be, by any -/
def rightM (r : Rec) : Rec :=
  if 1 + within r.kind 5 ≤ 2 then ⟨1 + within r.kind 5, within r.track 100, 0, 0, []⟩
  else if 1 + within r.kind 5 = 3 then ⟨3, within r.track 100, within r.fr (within r.tt 1001 + 1), within r.tt 1001, rowM r.l 20⟩
  else ⟨1 + within r.kind 5, 0, 0, 0, []⟩
def in64 (x : Int) : Prop := -9223372036854775808 ≤ x ∧ x ≤ 9223372036854775807
def inRec (r : Rec) : Prop := in64 r.kind ∧ in64 r.track ∧ in64 r.fr ∧ in64 r.tt ∧ ∀ x ∈ r.l, inExt x
def ArgRec (w : World) (v : Value) (r : Rec) : Prop := RecIs w v r ∧ inRec r
def ArgIntss (w : World) (v : Value) (ls : List (List Int)) : Prop := ∃ A c hs, v = .slice A hs.length c ∧ hs.length ≤ c ∧ c ≤ maxLen ∧ headE.At w A hs ∧ IRows w hs ls
/-- a record in a block -/
def RecAt (w : World) (B : Nat) (r : Rec) : Prop := ∃ A n c, w.cell? ⟨B, 0, none⟩ = some (.int .i64 r.kind) ∧ w.cell? ⟨B, 1, none⟩ = some (.int .i64 r.track) ∧ w.cell? ⟨B, 2, none⟩ = some (.int .i64 r.fr) ∧
  w.cell? ⟨B, 3, none⟩ = some (.int .i64 r.tt) ∧ w.cell? ⟨B, 4, none⟩ = some (.slice A n c) ∧ extE.Is w (.slice A n c) r.l
theorem RecAt.bl {w w' : World} {B : Nat} {r : Rec} (h : RecAt w B r) (hb : Bl w w') : RecAt w' B r := by
  obtain ⟨A, n, c, h0, h1, h2, h3, h4, h5⟩ := h
  exact ⟨A, n, c, hb.cell h0, hb.cell h1, hb.cell h2, hb.cell h3, hb.cell h4, h5.bl hb⟩
theorem bcell {W w1 : World} (hb : Bl W w1) : (∀ b o, b < W.heap.size → w1.cell? ⟨b, o, none⟩ = W.cell? ⟨b, o, none⟩) ∧ (∀ b o, b < W.heap.size → w1.frozen? ⟨b, o, none⟩ = W.frozen? ⟨b, o, none⟩) :=
  ⟨fun b o h => Below.cell hb (p := ⟨b, o, none⟩) h, fun b o h => Below.frozen hb (p := ⟨b, o, none⟩) h⟩
end Go.Ov

/- Drawn regions, walked in the few orders that stand for all: operations whose value is the same in every world that meets S go first. -/
namespace Go.Ov
open Go

/-- The orders that stand for all. -/
inductive Plan where
  | done
  | stop
  | take (i : Nat) (t : Plan)
  | ev (i : Nat) (t more : Plan)
  deriving Inhabited

section
variable {P : Program} {ops : Array Oper} {Q : Exit → Act → World → Prop} {md : Region.Mode} {S : World → Prop}

/-- The operation with a number, by the list. -/
def nth : List Oper → Nat → Option Oper
  | [], _ => none
  | o :: _, 0 => some o
  | _ :: l, n + 1 => nth l n
theorem nth_eq : ∀ (l : List Oper) (n : Nat), nth l n = l[n]?
  | [], n => by simp [nth]
  | o :: l, 0 => by simp [nth]
  | o :: l, n + 1 => by simp [nth, nth_eq l n]
theorem nth_ops {ops : Array Oper} {i : Nat} {o : Oper} (h : nth ops.toList i = some o) : ops[i]? = some o := by
  rw [nth_eq] at h; simpa using h

/-- 'tk': the operations to be taken ahead of the others where that is free. -/
def ways (md : Region.Mode) (ops : Array Oper) (tk : List Nat) : Nat → Array Bool → Option Plan
  | 0, listed => if (Region.ready md ops listed).isEmpty then some .done else none
  | fuel + 1, listed =>
    let rs := Region.ready md ops listed
    if rs.isEmpty then some .done else
    match rs.find? (fun i => tk.contains i && Region.free md ops listed i) with
    | some i => (ways md ops tk fuel (listed.setIfInBounds i true)).map (.take i)
    | none => rs.foldr (fun i acc => match ways md ops tk fuel (listed.setIfInBounds i true), acc with
        | some t, some m => some (.ev i t m)
        | _, _ => none) (some .stop)

/-- The walk along these orders. -/
def wpWay (P : Program) (ops : Array Oper) (Q : Exit → Act → World → Prop) (S : World → Prop) : Plan → Act → World → Prop
  | .done, a, w => Q .normal a w
  | .stop, _, _ => True
  | .take i t, a, w => ∃ o v, ops[i]? = some o ∧ YieldsIf P ops S o v a ∧ wpWay P ops Q S t (a.put o.dst v) w
  | .ev i t m, a, w => wpOp P ops Q i (fun a' w' => S w' ∧ wpWay P ops Q S t a' w') a w ∧ wpWay P ops Q S m a w

theorem ways_sound (hs : Region.noSelect ops = true) (hQ : ∀ c a w, ¬ Q (.panic c) a w) (tk : List Nat) : ∀ (fuel : Nat) (listed : Array Bool) (y : Plan) (a : Act) (w : World),
    ways md ops tk fuel listed = some y → S w → wpWay P ops Q S y a w → wpAnyH P md ops Q S fuel listed a w
  | 0, listed, y, a, w, hy, _, h => by
    unfold ways at hy
    split at hy
    · rename_i he
      cases hy
      exact ⟨by simpa using he, h⟩
    · cases hy
  | fuel + 1, listed, y, a, w, hy, hS, h => by
    unfold ways at hy
    simp only at hy
    split at hy
    · rename_i he
      cases hy
      exact wpAnyH_done (by simpa using he) h _
    · split at hy
      · rename_i i hi
        have hm := List.mem_of_find?_eq_some hi
        have hf := List.find?_some hi
        simp only [Bool.and_eq_true] at hf
        cases ht : ways md ops tk fuel (listed.setIfInBounds i true) with
        | none => rw [ht] at hy; cases hy
        | some t =>
          rw [ht] at hy
          cases hy
          obtain ⟨o, v, ho, hyi, hr⟩ := h
          exact wpAnyH_take ho hs hf.2 (by simpa using hm) (fun c a w hp => (hQ _ _ _ hp).elim) hyi hS (ways_sound hs hQ tk fuel _ _ _ _ ht hS hr)
      · refine wpAnyH_all rfl (by intro h0; simp_all) ?_
        have key : ∀ (rs : List Nat) (y : Plan), rs.foldr (fun i acc => match ways md ops tk fuel (listed.setIfInBounds i true), acc with
            | some t, some m => some (Plan.ev i t m)
            | _, _ => none) (some .stop) = some y → wpWay P ops Q S y a w →
            ∀ i ∈ rs, wpOp P ops Q i (fun a' w' => S w' ∧ wpAnyH P md ops Q S fuel (listed.setIfInBounds i true) a' w') a w := by
          intro rs
          induction rs with
          | nil => intro _ _ _ i hi; cases hi
          | cons r rs ih =>
            intro y hy h i hi
            rw [List.foldr_cons] at hy
            cases ht : ways md ops tk fuel (listed.setIfInBounds r true) with
            | none => rw [ht] at hy; cases hy
            | some t =>
              rw [ht] at hy
              split at hy
              · rename_i t' m htt hm
                cases htt
                cases hy
                rcases List.mem_cons.1 hi with rfl | hi
                · exact wpOp_mono (fun a' w' hw => ⟨hw.1, ways_sound hs hQ tk fuel _ _ _ _ ht hw.1 hw.2⟩) h.1
                · exact ih m hm h.2 i hi
              · cases hy
        exact key _ _ hy h

theorem NoPanic.not (Q : Exit → Act → World → Prop) (c : List PanicEntry) (a : Act) (w : World) : ¬ NoPanic Q (.panic c) a w := fun h => h

theorem wp_region_ways {id : Nat} {a : Act} {w : World} (tk : List Nat) {y : Plan} (hm : P.follows .mixedOrders = true) (hs : Region.noSelect ops = true)
    (hy : ways .any ops tk ops.size (Array.replicate ops.size false) = some y) (hS : S w.drew)
    (h : S w.drew → wpWay P ops (NoPanic Q) S y a w.drew) : (Code.region id ops true).wp P Q a w :=
  wp_region_noPanic (wp_region_held_drew hm hS fun hS => ways_sound hs (NoPanic.not Q) tk _ _ _ _ _ hy hS (h hS))

theorem wpWay_done {a : Act} {w : World} (h : Q .normal a w) : wpWay P ops (NoPanic Q) S .done a w := h
theorem wpWay_take {i : Nat} {t : Plan} {a : Act} {w : World} {o : Oper} {v : Value} (ho : nth ops.toList i = some o) (hw : Region.wanted o (yielded ops a.tmps) = true)
    (hv : ∀ w, S w → (execOp a.eval o).run P w = .ok (.value v) w) (h : wpWay P ops Q S t (a.put o.dst v) w) : wpWay P ops Q S (.take i t) a w :=
  ⟨o, v, nth_ops ho, .inl ⟨hw, hv⟩, h⟩
theorem wpWay_skip {i : Nat} {t : Plan} {a : Act} {w : World} {o : Oper} (ho : nth ops.toList i = some o) (hw : Region.wanted o (yielded ops a.tmps) = false)
    (h : wpWay P ops Q S t (a.put o.dst undef) w) : wpWay P ops Q S (.take i t) a w :=
  ⟨o, undef, nth_ops ho, .inr ⟨hw, rfl⟩, h⟩
theorem wpWay_stop {a : Act} {w : World} : wpWay P ops Q S .stop a w := trivial
theorem wpWay_pass {i : Nat} {t m : Plan} {a : Act} {w : World} {o : Oper} (ho : nth ops.toList i = some o) (hw : Region.wanted o (yielded ops a.tmps) = false)
    (hS : S w) (h : wpWay P ops Q S t (a.put o.dst undef) w) (hm : wpWay P ops Q S m a w) : wpWay P ops Q S (.ev i t m) a w :=
  ⟨by unfold wpOp; simp only [nth_ops ho, hw]; exact ⟨hS, h⟩, hm⟩

theorem Oper.wp_imp {o : Oper} {a : Act} {w : World} {K K' : Act → World → Prop} {Q' : Exit → Act → World → Prop} (h : ∀ a w, K a w → K' a w)
    (hp : ∀ c a w, Q (.panic c) a w → Q' (.panic c) a w) (hl : LetsOut Q → LetsOut Q')
    (hh : o.wp P a w K Q) : o.wp P a w K' Q' := by
  unfold Oper.wp at *
  generalize (execOp a.eval o).run P w = r at *
  cases r with
  | ok n w' =>
    cases n <;> simp only [Oper.upon] at hh ⊢ <;>
      first
        | exact h _ _ hh
        | exact Calls.mono hh (fun e w'' he => by cases e <;> first | exact h _ _ he | exact hp _ _ _ he | exact hl he)
        | exact Rows.mono hh (fun _ _ he => h _ _ he)
  | halt x w' => cases x <;> simp only [Oper.upon] at hh ⊢ <;> exact hp _ _ _ hh

/-- An event is walked as a list of one operation. -/
theorem wpWay_ev {i : Nat} {t m : Plan} {a : Act} {w : World} {o : Oper} (ho : nth ops.toList i = some o)
    (h : ∀ K : Exit → Act → World → Prop, (∀ a' w', S w' ∧ wpWay P ops Q S t a' w' → K .normal a' w') → wpList P ops K [o] a w)
    (hm : wpWay P ops Q S m a w) : wpWay P ops Q S (.ev i t m) a w := by
  refine ⟨?_, hm⟩
  have h1 := h (fun e a' w' => match e with | .normal => S w' ∧ wpWay P ops Q S t a' w' | _ => False) (fun a' w' h => h)
  unfold wpOp
  simp only [nth_ops ho]
  unfold wpList at h1
  split
  · rename_i hw
    simp only [hw, if_true] at h1
    rcases h1 with h1 | ⟨_, a0, w0, h0⟩
    · exact .inl (Oper.wp_imp (fun a w h => h) (fun c a w h => h.elim) (fun ⟨_, _, h⟩ => h.elim) h1)
    · exact h0.elim
  · rename_i hw
    simp only [hw] at h1
    exact h1

end
end Go.Ov

/- Contracts of package tree: fresh, cut, first, empty, count. -/
namespace Go.Proofs.YtddcjekkimajpaaGreat.ExtW
open Go.RowKit Go.Ov Go.Proofs.YtddcjekkimajpaaGreat.Need

set_option maxHeartbeats 1000000 in
theorem tfresh_any (v : Value) (l : List Ext) (w : World) (h : extE.Is w v l) (hn : l.length * 40 ≤ 140737488355328) :
    Calls Tryz.prog 57 #[v] w fun e w' => ∃ u, e = .returned u ∧ extE.Own 81 w' w.heap.size u l ∧ Bl w w' := by
  have HH := Lib.hid h
  clear h
  go_enter Tryz.func57, Tryz.ntmps57
  go_wp2_with (at_builtin; refine Enc.Own.append (E := extE) rfl (.const (.slice none 0 0)) (.tmp 3) 44 rfl w.heap.size 81 (.agg #[.int .i64 0, .int .i64 0, .int .i64 0, .int .i64 0, .int .i64 0]) 5 40 Tryz.underlying44 infoExt rfl rfl (by decide) (by decide) (.slice none 0 0) [] rfl (Enc.Own.nil _ _ _) v l rfl HH.out ?hlen (Nat.le_refl _) ?_; (case hlen => simpa using hn); intro v1 w1 ho hg)
  go_ret
  exact ⟨_, rfl, ho, (Bl.refl _).grown hg (fun k hk => by simp [Value.ownBlock] at hk)⟩

theorem Enc.Own.store1 {T : TypeId} {w : World} {base g n cap : Nat} {xs : List Int} (h : intE.Own T w base (.slice (some ⟨g, 0, none⟩) n cap) xs) (j : Nat) (y : Int) :
    intE.Own T (w.setCell ⟨g, j, none⟩ (.int .i64 y)) base (.slice (some ⟨g, 0, none⟩) n cap) (xs.set j y) := by
  have hn : n = xs.length := by
    obtain ⟨A, c, e, _⟩ := h.is
    simp at e; exact e.2.1
  subst hn
  have h1 := (World.ownsRow.stored (n := xs.length) h j (.int .i64 y)).1
  have e : (xs.flatMap intE.c).set j (.int .i64 y) = (xs.set j y).flatMap intE.c := by
    have : ∀ (l : List Int) (j : Nat), (l.flatMap intE.c).set j (.int .i64 y) = (l.set j y).flatMap intE.c := by
      intro l
      induction l with
      | nil => intro j; rfl
      | cons x l ih =>
        intro j
        cases j with
        | zero => rfl
        | succ j => rw [List.set_cons_succ, List.flatMap_cons, List.flatMap_cons, ← ih j]; rfl
    exact this xs j
  rw [e] at h1
  unfold Enc.Own
  rw [List.length_set]; exact h1
theorem Enc.Own.cells1 {T : TypeId} {w : World} {base g n cap : Nat} {xs : List Int} (h : intE.Own T w base (.slice (some ⟨g, 0, none⟩) n cap) xs) (j : Nat) (y : Int) (hj : xs[j]? = some y) :
    w.cell? ⟨g, j, none⟩ = some (.int .i64 y) ∧ w.frozen? ⟨g, j, none⟩ = false := by
  have hn : n = xs.length := by
    obtain ⟨A, c, e, _⟩ := h.is
    simp at e; exact e.2.1
  subst hn
  have hl : j < xs.length := (List.getElem?_eq_some_iff.1 hj).1
  refine ⟨?_, World.ownsRow.frozenAt h j⟩
  rw [World.ownsRow.cellAt h j (by show j < xs.length * 1; omega)]
  have := flat_get intE xs j y hj 0 _ rfl
  rw [show intE.sz = 1 from rfl, Nat.mul_one, Nat.add_zero] at this
  exact this

theorem infoIntT : (Tryz.prog.info? 3).map (fun i => (i.zero, i.size, i.bytes)) = some (some (.int .i64 0), 1, 8) := by kernel_rfl

def szI (n i : Nat) : Int := sizeM n (grp n) i
def szs (n k : Nat) : List Int := (List.range k).map (szI n)
theorem szs_succ (n k : Nat) : szs n (k + 1) = szs n k ++ [szI n k] := by simp [szs, List.range_succ]
theorem szs_len (n k : Nat) : (szs n k).length = k := by simp [szs]

set_option maxRecDepth 100000 in
set_option maxHeartbeats 1000000 in
theorem tcut_any (n : Nat) (w : World) (hn : n ≤ 1000000) :
    Calls Tryz.prog 119 #[.int .i64 n, .int .i64 8] w fun e w' => ∃ u, e = .returned u ∧ intE.Own 3 w' w.heap.size u (szs n (grp n)) ∧ Bl w w' := by
  have eg : ((n : Int) + 8 - 1) / 8 = grp n := by unfold grp; omega
  have hg : grp n ≤ 1000000 := by unfold grp; omega
  go_enter Tryz.func119, Tryz.ntmps119
  go_wp2
  rw [eg]
  have hgn : grp n = 0 → n = 0 := by unfold grp; omega
  go_loopg [6, 15] (grp n) (fun gk v i wr => ∃ k : Nat, k ≤ grp n ∧ gk = grp n - k ∧ i = .int .i64 k ∧ Hid (intE.Own 3 wr w.heap.size v (szs n k)) ∧ Hid (Bl w wr))
  case atStart => exact ⟨0, by omega, rfl, rfl, Lib.hid (Enc.Own.nil _ _ _), Lib.hid (Bl.refl _)⟩
  case round =>
    obtain ⟨k, hk, rfl, rfl, HO, HB⟩ := hrel
    by_cases hlt : k < grp n
    · have hss := Lib.hid (szs_succ n k)
      have hsl := Lib.hid (szs_len n k)
      have hsz := Lib.hid (show szI n k = ((n / grp n : Nat) : Int) + (if k < n % grp n then 1 else 0 : Nat) by unfold szI sizeM; push_cast; rfl)
      generalize hG : grp n = G at *
      have hG0 : (0 : Int) < G := by omega
      generalize szs n k = xs at *
      have hdiv : (n : Int) / (G : Int) = ((n / G : Nat) : Int) := by push_cast; rfl
      have hmod : (n : Int) % (G : Int) = ((n % G : Nat) : Int) := by push_cast; rfl
      have hdl : n / G ≤ n := Nat.div_le_self _ _
      generalize n / G = D at *
      generalize n % G = M at *
      have hGne : ¬ (G : Int) = 0 := by omega
      go_upto_if 28 with (at_builtin; refine Enc.Own.append1 (E := intE) rfl (.tmp 18) (.tmp 22) 23 rfl w.heap.size 3 (.int .i64 0) 1 8 Tryz.underlying23 infoIntT rfl rfl (by decide) (by decide) u6 xs rfl HO.out (D : Int) _ rfl rfl rfl ?hlen ?hbase ?_; (case hlen => have := hsl.out; omega); (case hbase => exact HB.out.size); intro v1 w1 ho hg)
      have HB1 := Lib.hid ((HB.out.alloc _).grown hg (fun k hk => (Enc.Own.lt HO.out k hk).1))
      rcases ho.parts with ⟨_, hz⟩ | ⟨g, c, rfl, hob⟩
      · simp at hz
      have hl2 : (xs ++ [(D : Int)]).length = k + 1 := by simp [hsl.out]
      rw [hl2] at hob ⊢
      have hgb := hob.1
      have HO1 := Lib.hid (show intE.Own 3 w1 w.heap.size (.slice (some ⟨g, 0, none⟩) (k + 1) c) (xs ++ [(D : Int)]) by rw [← hl2]; exact ho)
      have hgt : g < w1.heap.size := (Enc.Own.lt ho g rfl).2
      obtain ⟨d0, d1⟩ := Enc.Own.cells1 HO1.out k (D : Int) (by rw [List.getElem?_append_right (by rw [hsl.out]; exact Nat.le_refl _), hsl.out]; simp)
      clear ho hg HO hob hl2
      have hkM : (k : Int) < G := by omega
      by_cases hM : k < M
      · have hM2 : (k : Int) < M := by omega
        go_wp2_with fail
        go_roundg (G - (k + 1))
        case measure => omega
        case rel =>
          refine ⟨k + 1, by omega, rfl, by go_num, Lib.hid ?_, Lib.hid (Bl.set HB1.out _ _ _ hgb)⟩
          have := Enc.Own.store1 HO1.out k ((D : Int) + 1)
          rw [hss.out, hsz.out, if_pos hM]
          rw [List.set_append_right _ _ (by rw [hsl.out]; exact Nat.le_refl _), hsl.out] at this
          simpa using this
      · have hM2 : ¬ (k : Int) < M := by omega
        go_wp2_with fail
        go_roundg (G - (k + 1))
        case measure => omega
        case rel =>
          refine ⟨k + 1, by omega, rfl, by go_num, Lib.hid ?_, HB1⟩
          have := HO1.out
          rw [hss.out, hsz.out, if_neg hM]
          unfold Enc.Own at this ⊢
          rw [List.length_append, hsl.out] at this ⊢
          simpa using this
    · have hke : k = grp n := by omega
      go_wp2_with fail
      go_ret
      exact ⟨_, rfl, by rw [← hke]; exact HO.out, HB.out⟩

def isE (n1 n2 n3 : Nat) : Bool := decide (n1 = 0) && decide (n2 = 0) && decide (n3 = 0)
set_option maxRecDepth 100000 in
set_option maxHeartbeats 1000000 in
theorem tempty_raw (A1 A2 A3 : Option Addr) (n1 c1 n2 c2 n3 c3 : Nat) (w : World) :
    Calls Tryz.prog 92 #[.agg #[.slice A1 n1 c1, .slice A2 n2 c2, .slice A3 n3 c3]] w fun e w' => e = .returned (.bool (isE n1 n2 n3)) ∧ Bl w w' := by
  have hu := Tryz.underlying101
  rcases Nat.eq_zero_or_pos n1 with rfl | h1
  · rcases Nat.eq_zero_or_pos n2 with rfl | h2
    · rcases Nat.eq_zero_or_pos n3 with rfl | h3
      · go_enter Tryz.func92, Tryz.ntmps92
        go_wp2_with fail
        go_ret
        exact ⟨rfl, (Bl.refl _).alloc _⟩
      · have h3' : ((n3 : Int) == 0) = false := by simp; omega
        have hb : isE 0 0 n3 = false := by simp [isE]; omega
        go_enter Tryz.func92, Tryz.ntmps92
        go_wp2_with fail
        go_ret
        exact ⟨ret_bool hb.symm, (Bl.refl _).alloc _⟩
    · have h3' : ((n2 : Int) == 0) = false := by simp; omega
      have hb : isE 0 n2 n3 = false := by simp [isE]; omega
      go_enter Tryz.func92, Tryz.ntmps92
      go_wp2_with fail
      go_ret
      exact ⟨ret_bool hb.symm, (Bl.refl _).alloc _⟩
  · have h3' : ((n1 : Int) == 0) = false := by simp; omega
    have hb : isE n1 n2 n3 = false := by simp [isE]; omega
    go_enter Tryz.func92, Tryz.ntmps92
    go_wp2_with fail
    go_ret
    exact ⟨ret_bool hb.symm, (Bl.refl _).alloc _⟩
theorem tempty_any (l : List Ext) (f : List Int) (p : List NodeM) (h : NH) (w : World) (hr : NodeR w (.mk l f p) h) :
    Calls Tryz.prog 92 #[h.v] w fun e w' => e = .returned (.bool (isE l.length f.length p.length)) ∧ Bl w w' := by
  obtain ⟨h1, h2, hs, h3, h4, _⟩ := hr.inv
  obtain ⟨A1, c1, e1, _⟩ := h1
  obtain ⟨A2, c2, e2, _⟩ := h2
  obtain ⟨A3, c3, e3, _⟩ := h3
  rw [h4] at e3
  unfold NH.v
  rw [e1, e2, e3]
  exact tempty_raw _ _ _ _ _ _ _ _ _ _

set_option maxRecDepth 100000 in
set_option maxHeartbeats 1000000 in
theorem tfirst_any (n : NodeM) (h : NH) (w : World) (hr : NodeR w n h) (hf : n.hasFirst = true) :
    Calls Tryz.prog 111 #[h.v] w fun e w' => e = .returned (.int .i64 n.first1) ∧ Bl w w' := by
  have HR := Lib.hid hr
  have HF := Lib.hid hf
  clear hr hf
  have hu := Tryz.underlying101
  have hue := Tryz.underlying81
  go_enter Tryz.func111, Tryz.ntmps111
  unfold NH.v
  go_wp2_with fail
  go_loopg [] n.count (fun g wr => ∃ m h', g = m.count ∧ Hid (m.first1 = n.first1) ∧ Hid (m.hasFirst = true) ∧ Hid (NodeR w m h') ∧ Hid (Blk wr w.heap.size #[h'.a.v, h'.b.v, h'.c.v] 101) ∧ Hid (Bl w wr))
  case atStart => exact ⟨n, h, rfl, Lib.hid rfl, HF, HR, Lib.hid (Blk.new w _ _), Lib.hid ((Bl.refl _).alloc _)⟩
  case round =>
    obtain ⟨m, h', rfl, HE, HF', HN, HK, HB⟩ := hrel
    obtain ⟨l, f, p⟩ := m
    obtain ⟨i1, i2, hs, i3, i4⟩ := HN.out.inv
    obtain ⟨A1, c1, e1, _, _, _, at1⟩ := i1
    obtain ⟨A3, c3, e3, q3, q4, q5, at3⟩ := i3
    have d0 := HK.out.cell 0
    have d2 := HK.out.cell 2
    have f0 := HK.out.frozen 0
    have f1 := HK.out.frozen 1
    have f2 := HK.out.frozen 2
    have hlt := HK.out.lt
    rw [e1] at d0
    rw [e3] at d2
    simp at d0 d2
    have d1 := HK.out.cell 1
    obtain ⟨A2, c2, e2, _⟩ := i2
    rw [e2] at d1
    simp at d1
    have hu2 := Tryz.underlying99
    have hle : hs.length = p.length := i4.1
    have HL := Lib.hid hle
    have HI4 := Lib.hid i4
    unfold maxLen at q4
    clear i4 hle e2
    cases p with
    | nil =>
      have hl0 : hs.length = 0 := HL.out
      rw [hl0] at d2
      have hll : 0 < l.length := by
        have := HF'.out
        unfold NodeM.hasFirst at this
        cases l with
        | nil => simp at this
        | cons e l => simp
      obtain ⟨e, l', hl'⟩ : ∃ e l', l = e :: l' := by
        cases l with
        | nil => simp at hll
        | cons e l => exact ⟨e, l, rfl⟩
      obtain ⟨ad, rfl, k0⟩ := ext_at0 (at1.bl HB.out) hll
      have hx : l[0].at_ = n.first1 := by
        rw [← HE.out]; subst hl'; rfl
      rw [hx] at k0
      have hli : (0 : Int) < l.length := by omega
      clear hl' hx q5 q3 q4 e1 e3 at1 at3
      go_wp2_with fail
      go_ret
      exact ⟨rfl, HB.out⟩
    | cons x p =>
      have hl0 : 0 < hs.length := by have := HL.out; simp at this; omega
      obtain ⟨ad, rfl, k0, k1, k2⟩ := node_at0 (at3.bl HB.out) hl0
      have hn := HI4.out.2 0 x hs[0] rfl (List.getElem?_eq_getElem hl0)
      have HN2 := Lib.hid hn
      clear hn e1 e3 at1 at3
      generalize hs[0] = h2 at *
      simp only [Head.v] at k0 k1 k2
      have hli : (0 : Int) < hs.length := by omega
      go_wp2_with fail
      go_roundg x.count
      case measure => rw [count_mk, countL_cons]; omega
      case rel =>
        refine ⟨x, h2, rfl, Lib.hid ?_, Lib.hid ?_, HN2, Lib.hid ?_, Lib.hid ?_⟩
        · rw [← HE.out, first1_cons]
        · have := HF'.out; unfold NodeM.hasFirst at this; exact this
        · exact ((HK.out.set 0 h2.a.v).set 1 h2.b.v).set 2 h2.c.v
        · iterate 3 refine Bl.set ?_ _ _ _ (Nat.le_refl _)
          exact HB.out
end Go.Proofs.YtddcjekkimajpaaGreat.ExtW

/- More on slices: an append to a full slice that is not owned; 'x[:hi:hi]'. No program in sight. -/
namespace Go.Ov
open Go.RowKit

theorem Enc.At.cells {α : Type} {E : Enc α} {w : World} {ad : Addr} {ys : List α} (hsz : 0 < E.sz) (hA : E.At w (some ad) ys) (j : Nat) (q : Value) (hq : (ys.flatMap E.c)[j]? = some q) : w.cell? (ad.add j) = some q := by
  have hj : j < ys.length * E.sz := by have := (List.getElem?_eq_some_iff.1 hq).1; rwa [flat_len] at this
  have hi' : j / E.sz < ys.length := by rw [Nat.div_lt_iff_lt_mul (by omega)]; exact hj
  obtain ⟨ad', e', hc'⟩ := hA (j / E.sz) ys[j / E.sz] (List.getElem?_eq_getElem hi')
  obtain rfl : ad = ad' := by injection e'
  have hm : j % E.sz < (E.c ys[j / E.sz]).length := by rw [E.len]; exact Nat.mod_lt _ (by omega)
  have hj2 : j = j / E.sz * E.sz + j % E.sz := by rw [Nat.mul_comm]; exact (Nat.div_add_mod j E.sz).symm
  have h1 := flat_get E ys (j / E.sz) _ (List.getElem?_eq_getElem hi') (j % E.sz) _ (List.getElem?_eq_getElem hm)
  rw [← hj2] at h1
  rw [h1] at hq
  have h2 := hc' (j % E.sz) _ (List.getElem?_eq_getElem hm)
  rw [← hj2] at h2
  rw [h2]; exact hq

/-- append to a slice that has no room: a new row -/
theorem Enc.appendFull {α : Type} {E : Enc α} {P : Program} {w : World} {ops : Array Oper} {rest : List Oper} {o : Oper} {a : Act} {Q : Exit → Act → World → Prop} (hgd : o.guard = none) (s x : Operand) (t : TypeId)
    (ho : o.op = .call { callee := .builtin .append, args := #[s, x], argTypes := #[t, t] })
    (e : TypeId) (z : Value) (size bytes : Nat) (ht : P.underlying t = some (.slice e)) (hinfo : (P.info? e).map (fun i => (i.zero, i.size, i.bytes)) = some (some z, size, bytes))
    (hE : E.sz = size) (hzs : z.cells.size = size) (hsz : 0 < size) (hby : 0 < bytes)
    (A : Option Addr) (xs : List α) (cap : Nat) (hs : a.eval s = .slice A xs.length cap) (hcap : cap = xs.length) (his0 : E.Is w (.slice A xs.length cap) xs)
    (u : Value) (ys : List α) (hx : a.eval x = u) (his : E.Is w u ys) (hy : ys ≠ [])
    (hlen : (xs.length + ys.length) * bytes ≤ 140737488355328)
    (h : ∀ v' w', E.Own e w' w.heap.size v' (xs ++ ys) → w.grownBy w' none → wpList P ops Q rest (a.put o.dst v') w') : wpList P ops Q (o :: rest) a w := by
  obtain ⟨i, hi, hz, hs1, hb1⟩ := info_parts hinfo
  obtain ⟨A', c', e0, _, _, hn0, hA0⟩ := his0
  simp at e0
  obtain ⟨rfl, rfl⟩ := e0
  obtain ⟨B, c, rfl, hc, _, hAn, hA⟩ := his
  have hmax : xs.length + ys.length ≤ maxLen := by
    have : (xs.length + ys.length) * 1 ≤ (xs.length + ys.length) * bytes := Nat.mul_le_mul_left _ hby
    unfold maxLen; omega
  obtain ⟨y, hy0⟩ : ∃ y, ys[0]? = some y := by cases ys with | nil => exact absurd rfl hy | cons y _ => exact ⟨y, rfl⟩
  obtain ⟨ad, rfl, _⟩ := hA 0 y hy0
  have hpos : 0 < ys.length := by cases ys with | nil => exact absurd rfl hy | cons _ _ => simp
  refine wpList_append_grows w hgd s x t ho e i z size bytes ht hi hz hs1 hb1 hzs hsz A xs.length cap (xs.flatMap E.c) hs (fun hA => ⟨by have := hn0 hA; omega, hn0 hA⟩) (by rw [flat_len, hE])
    (fun b hb j q hq => by subst hb; exact Enc.At.cells (by omega) hA0 j q hq) ad ys.length c (ys.flatMap E.c) hx (by rw [flat_len, hE]) (fun j q hq => Enc.At.cells (by omega) hA j q hq) (flat_one E ys) (by omega) hmax hlen ?_
  intro v' w' h1 h2
  refine h v' w' ?_ h2
  unfold Enc.Own
  rw [List.flatMap_append, List.length_append, hE]; exact h1

/-- 'x[:hi:hi]' -/
theorem slice_full {α : Type} {E : Enc α} {P : Program} {t : TypeId} (ht : P.underlying t = some (.slice (P.elem t))) (hs : ∀ w, (sizeOf (P.elem t)).run P w = .ok E.sz w) (A : Option Addr) (c : Nat) (xs : List α) (hi : Nat) (h2 : hi ≤ xs.length) (hc : xs.length ≤ c) :
    (∀ w, (Instr.slice t (.slice A xs.length c) none (some (.int .i64 hi)) (some (.int .i64 hi))).run P w = .ok (.slice A hi hi) w) ∧ ∀ w, E.Is w (.slice A xs.length c) xs → E.Is w (.slice A hi hi) (xs.take hi) := by
  refine ⟨fun w => ?_, fun w h => ?_⟩
  · have hn : (0 : Int) ≤ (hi : Int) ∧ (hi : Int) ≤ (c : Int) := by omega
    have hn2 : (0 : Int) ≤ (hi : Int) ∧ (hi : Int) ≤ (hi : Int) := by omega
    have hm : A.map (fun x => x.add 0) = A := by cases A <;> rfl
    simp [Instr.slice, run_underlying ht, Instr.sliceBounds, Instr.sliceBound, asIntOf, hs]
    rw [if_pos (by omega : hi ≤ c), hm, ite_self]
  · obtain ⟨A', c', e, g1, g2, g3, g4⟩ := h
    simp at e
    obtain ⟨rfl, rfl⟩ := e
    have hl : (xs.take hi).length = hi := by rw [List.length_take]; omega
    refine ⟨A, hi, by rw [hl], by rw [hl]; exact Nat.le_refl _, by omega, fun hA => by have := g3 hA; omega, fun i x hx => ?_⟩
    rw [List.getElem?_take] at hx
    split at hx
    · exact g4 i x hx
    · cases hx
end Go.Ov

/- Contract of tree.made. -/
namespace Go.Proofs.YtddcjekkimajpaaGreat.ExtW
open Go.RowKit Go.Ov Go.Proofs.YtddcjekkimajpaaGreat.Need

def nilH : Head := ⟨none, 0, 0⟩
theorem infoNode : (Tryz.prog.info? 101).map (fun i => (i.zero, i.size, i.bytes)) = some (some (.agg #[.slice none 0 0, .slice none 0 0, .slice none 0 0]), 3, 72) := by kernel_rfl

theorem szs_at (n k : Nat) (h : k < grp n) : (szs n (grp n))[k]? = some ((sizeM n (grp n) k : Nat) : Int) := by
  unfold szs szI
  rw [List.getElem?_map, List.getElem?_range h]; rfl

set_option maxRecDepth 100000 in
set_option maxHeartbeats 4000000 in
theorem tmade_G (v : Value) (l : List Ext) (w : World) (h : extE.Is w v l) (hn : l.length ≤ 1000) :
    Calls Tryz.prog 116 #[v] w fun e w' => ∃ h : NH, e = .returned h.v ∧ NodeR (only w' (fr w)) (madeM l) h ∧ Bl w w' := by
  obtain ⟨A, c, rfl, h1, h2, h3, h4⟩ := h
  have HA := Lib.hid (show extE.Is w (.slice A l.length c) l from ⟨A, c, rfl, h1, h2, h3, h4⟩)
  have hu := Tryz.underlying101
  have hgn : grp l.length ≤ 1000 := by unfold grp; omega
  clear h4 h1 h2 h3
  go_enter Tryz.func116, Tryz.ntmps116
  go_wp2_with fail
  refine (tcut_any l.length _ (by omega)).mono ?_
  rintro e w1 ⟨u, rfl, ho, hb⟩
  have HS := Lib.hid ho
  have HK1 := Lib.hid ((Blk.new w #[.slice none 0 0, .slice none 0 0, .slice none 0 0] 101).bl hb)
  have HB1 := Lib.hid (((Bl.refl w).alloc _).bl hb)
  clear ho hb
  obtain ⟨A2, c2, rfl, _, _, _, at2⟩ := HS.out.is
  rw [szs_len] at *
  have HAT := Lib.hid at2
  clear at2
  have hgi : (grp l.length : Int) ≤ 1000 := by omega
  go_wp2_with fail
  go_loopg [0, 3, 16] (grp l.length) (fun g v0 v3 i wr => ∃ (k : Nat) (hs : List NH), k ≤ grp l.length ∧ g = grp l.length - k ∧ i = .int .i64 k ∧ Hid (extE.Is w1 v0 (l.drop (preM l.length (grp l.length) k))) ∧
    Hid (nodeE.Own 101 wr w1.heap.size v3 hs) ∧ Hid (Stab wr v3.ownBlock fun w' => Stab w' (some w.heap.size) fun w'' => NRows (only w'' (fr w)) hs (pmap (leafM l) (List.range (grp l.length)) k)) ∧ Hid (Bl w1 wr))
  case atStart => exact ⟨0, [], by omega, rfl, rfl, Lib.hid (by rw [preM_zero]; exact HA.out.bl HB1.out), Lib.hid (Enc.Own.nil _ _ _), Lib.hid (fun w' _ w'' _ => NRows.nil _), Lib.hid (Bl.refl _)⟩
  case round =>
    obtain ⟨k, hs, hk, rfl, rfl, HV, HO, HR, HB⟩ := hrel
    by_cases hlt : k < grp l.length
    · obtain ⟨A0, c0, rfl, q1, q2, q3, q4⟩ := HV.out
      have hsz := preM_size l.length (grp l.length) k hlt
      have hps := Lib.hid (preM_succ l.length (grp l.length) k)
      have hpm := Lib.hid (pmap_succ (leafM l) (List.range (grp l.length)) k (by simpa using hlt))
      have hle := Lib.hid (show (pmap (leafM l) (List.range (grp l.length)) k).length = k from pmap_len _ _ _ (by simpa using hk))
      obtain ⟨ad2, rfl, d0⟩ := int_at (HAT.out.bl HB.out) k (by rw [szs_len]; exact hlt)
      have hsa : (szs l.length (grp l.length))[k]'(by rw [szs_len]; exact hlt) = ((sizeM l.length (grp l.length) k : Nat) : Int) := by
        have := szs_at l.length k hlt
        rw [List.getElem?_eq_getElem (by rw [szs_len]; exact hlt)] at this
        exact Option.some.inj this
      rw [hsa] at d0
      have hrl : (l.drop (preM l.length (grp l.length) k)).length = l.length - preM l.length (grp l.length) k := List.length_drop
      have hlf : leafM l k = .mk ((l.drop (preM l.length (grp l.length) k)).take (sizeM l.length (grp l.length) k)) [] [] := rfl
      have hdd : l.drop (preM l.length (grp l.length) k + sizeM l.length (grp l.length) k) = (l.drop (preM l.length (grp l.length) k)).drop (sizeM l.length (grp l.length) k) := by rw [List.drop_drop]
      have HLF := Lib.hid hlf
      have HDD := Lib.hid hdd
      have hgk : (List.range (grp l.length))[k]'(by simpa using hlt) = k := by simp
      rw [hgk] at hpm
      clear hsa hlf hdd hgk q4
      generalize l.drop (preM l.length (grp l.length) k) = R at *
      generalize sizeM l.length (grp l.length) k = S at *
      have hSR : S ≤ R.length := by omega
      have hSi : (S : Int) ≤ R.length := by omega
      obtain ⟨V1, hV1, hI1⟩ := slice_h (E := extE) (P := Tryz.prog) (t := 44) (by kernel_rfl) (fun w => by kernel_rfl) A0 c0 R (S : Int) (by omega) (by omega) q1
      obtain ⟨V2, hV2, hI2⟩ := slice_l (E := extE) (P := Tryz.prog) (t := 44) (by kernel_rfl) (fun w => by kernel_rfl) A0 c0 R (S : Int) (by omega) (by omega)
      have HI1 := Lib.hid hI1
      have HI2 := Lib.hid hI2
      have hR1 : R.length ≤ 1000 := by omega
      clear hI1 hI2 q3 hsz hrl
      go_wp2_with fail
      refine (tfresh_any V1 (R.take S) _ (HI1.out _ (HV.out.bl HB.out)) (by rw [List.length_take]; omega)).mono ?_
      rintro e w2 ⟨u1, rfl, ho, hb⟩
      have HI3 := Lib.hid ho
      obtain ⟨A3, c3, rfl⟩ := ho.slice
      have HB2 := Lib.hid hb
      clear ho hb
      go_wp2_with (at_builtin; refine Enc.Own.append1L (E := nodeE) rfl (.tmp 20) (.tmp 26) 99 rfl w1.heap.size 101 (.agg #[.slice none 0 0, .slice none 0 0, .slice none 0 0]) 3 72 Tryz.underlying99 infoNode rfl rfl (by decide) (by decide) u3 hs rfl (HO.out.bl HB2.out) ⟨⟨A3, S, c3⟩, nilH, nilH⟩ _ rfl rfl rfl ?hlen ?hbase ?_; (case hlen => have := hle.out; have := HR.out.here.here.1; omega); (case hbase => exact (HB.out.bl HB2.out).size); intro v1 w3 ho hg hl)
      have HB3 := Lib.hid (((HB.out.bl HB2.out).alloc _).grown hg (fun k hk => (Enc.Own.lt HO.out k hk).1))
      have HO3 := Lib.hid ho
      have hst : Stab w3 v1.ownBlock (fun w' => Stab w' (some w.heap.size) fun w'' => NRows (only w'' (fr w)) (hs ++ [⟨⟨A3, S, c3⟩, nilH, nilH⟩]) (pmap (leafM l) (List.range (grp l.length)) k ++ [leafM l k])) := by
        have s1 := (HR.out.bl HB2.out).bl ((Bl.refl _).alloc (.cells #[.slice A3 S c3, .slice none 0 0, .slice none 0 0] 101))
        have s2 := Stab.own2 (row := u3.ownBlock) (B := w.heap.size) HI3.out (fun g hg => (Enc.Own.lt HO.out g hg).2) (Nat.lt_of_lt_of_le HK1.out.lt HB.out.size)
        have s3 := s2.bl ((Bl.refl _).alloc (.cells #[.slice A3 S c3, .slice none 0 0, .slice none 0 0] 101))
        refine ((s1.and s3).mono ?_).grow hg hl
        rintro w' ⟨g1, g2⟩
        refine (g1.and g2).mono ?_
        rintro w'' ⟨g1, g2⟩
        refine g1.snoc ?_
        rw [HLF.out]
        exact NodeR.mk' (by have := g2.isM (G := fr w) (fun k hk => fr_ge (Nat.le_trans HB1.out.size HB.out.size) hk); rw [show (R.take S).length = S by rw [List.length_take]; omega] at this; exact this) (Enc.Is.nil _) (Enc.Is.nil _) (NRows.nil _)
      have HST := Lib.hid hst
      have HV3 := Lib.hid (HI2.out _ HV.out)
      clear hst ho hg hl
      go_wp2_with fail
      go_roundg (grp l.length - (k + 1))
      case measure => omega
      case rel => exact ⟨k + 1, _, by omega, rfl, by go_num, Lib.hid (by rw [hps.out, HDD.out]; simpa using HV3.out), HO3, Lib.hid (by rw [hpm.out]; exact HST.out), HB3⟩
    · have hke : k = grp l.length := by omega
      have HR2 := Lib.hid (show Stab wr u3.ownBlock fun w' => Stab w' (some w.heap.size) fun w'' => NRows (only w'' (fr w)) hs (leavesM l) from by
        have := HR.out
        rw [pmap_all _ _ _ (by simp; omega)] at this
        exact this)
      have HX := Lib.hid (leaves_first l)
      have HT := Lib.hid (show topM (leavesM l) = madeM l from rfl)
      have hll := leavesM_len l
      have HIS := Lib.hid ((Stab.own (row := some w.heap.size) HO.out (fun g hg => by injection hg with hg; rw [← hg]; exact HK1.out.lt)).mono fun w' h => h.isM (G := fr w) (fun k hk => fr_ge HB1.out.size hk))
      clear HR HV HO HS HAT hke
      go_wp2_with fail
      obtain ⟨wo, rfl⟩ : ∃ wo : World, wo = wr := ⟨_, rfl⟩
      go_loopg [3] (leavesM l).length (fun g v3 wr => ∃ (ns : List NodeM) (hs : List NH), g = ns.length ∧ Hid (Stab wr (some w.heap.size) fun w' => nodeE.Is (only w' (fr w)) v3 hs ∧ NRows (only w' (fr w)) hs ns) ∧ Hid (topM ns = madeM l) ∧ Hid (∀ x ∈ ns, x.hasFirst = true) ∧ Hid (ns.length ≤ 1000) ∧ Hid (Bl wo wr))
      case atStart => exact ⟨leavesM l, hs, rfl, Lib.hid (HIS.out.and HR2.out.here), HT, HX, Lib.hid (by omega), Lib.hid (Bl.refl _)⟩
      case round =>
        clear HIS HR2 HT HX hll
        obtain ⟨ns, hs, rfl, HR, HT, HX, HN, HD⟩ := hrel
        obtain ⟨wp, rfl⟩ : ∃ wp : World, wp = wr := ⟨_, rfl⟩
        obtain ⟨A5, c5, rfl, p1, p2, p3, p4⟩ := (Sub.un _ _).is HR.out.here.1
        have hln := Lib.hid HR.out.here.2.1
        have hn1 := HN.out
        have hln2 : (hs.length : Int) ≤ 1000 := by have := hln.out; omega
        by_cases hlt1 : 1 < hs.length
        · have hlti : (1 : Int) < hs.length := by omega
          have hgg := grp_le hs.length hlt1
          go_wp2_with fail
          refine (tcut_any hs.length _ (by omega)).mono ?_
          rintro e w2 ⟨u, rfl, ho, hb⟩
          have HS := Lib.hid ho
          have HB2 := Lib.hid hb
          clear ho hb p4
          obtain ⟨A6, c6, rfl, _, _, _, at6⟩ := HS.out.is
          rw [szs_len] at *
          have HAT := Lib.hid at6
          clear at6
          have hgi2 : (grp hs.length : Int) ≤ 1000 := by omega
          go_wp2_with fail
          go_loopg [3, 6, 39] (grp hs.length) (fun g v3 v6 i wr => ∃ (k : Nat) (us : List NH), k ≤ grp hs.length ∧ g = grp hs.length - k ∧ i = .int .i64 k ∧ Hid (Stab w2 (some w.heap.size) fun w' => nodeE.Is (only w' (fr w)) v3 (hs.drop (preM hs.length (grp hs.length) k))) ∧
            Hid (nodeE.Own 101 wr w2.heap.size v6 us) ∧ Hid (Stab wr v6.ownBlock fun w' => Stab w' (some w.heap.size) fun w'' => NRows (only w'' (fr w)) us (pmap (nodeM ns) (List.range (grp hs.length)) k)) ∧ Hid (Bl w2 wr))
          case atStart => exact ⟨0, [], by omega, rfl, rfl, Lib.hid (by rw [preM_zero]; exact (HR.out.bl HB2.out).mono fun w' h => h.1), Lib.hid (Enc.Own.nil _ _ _), Lib.hid (fun w' _ w'' _ => NRows.nil _), Lib.hid (Bl.refl _)⟩
          case round =>
            obtain ⟨k, us, hk, rfl, rfl, HV, HO, HU, HE⟩ := hrel
            by_cases hltk : k < grp hs.length
            · obtain ⟨A0, c0, rfl, q1, q2, q3, q4⟩ := (Sub.un _ _).is HV.out.here
              have hsz := preM_size hs.length (grp hs.length) k hltk
              have hgl : grp hs.length ≤ hs.length := by omega
              have hS1 := size_pos hs.length (grp hs.length) k (by omega) hgl
              have hps := Lib.hid (preM_succ hs.length (grp hs.length) k)
              have hpm := Lib.hid (pmap_succ (nodeM ns) (List.range (grp hs.length)) k (by simpa using hltk))
              have hle := Lib.hid (show (pmap (nodeM ns) (List.range (grp hs.length)) k).length = k from pmap_len _ _ _ (by simpa using hk))
              obtain ⟨ad2, rfl, d0⟩ := int_at (HAT.out.bl HE.out) k (by rw [szs_len]; exact hltk)
              have hsa : (szs hs.length (grp hs.length))[k]'(by rw [szs_len]; exact hltk) = ((sizeM hs.length (grp hs.length) k : Nat) : Int) := by
                have := szs_at hs.length k hltk
                rw [List.getElem?_eq_getElem (by rw [szs_len]; exact hltk)] at this
                exact Option.some.inj this
              rw [hsa] at d0
              have hrl : (hs.drop (preM hs.length (grp hs.length) k)).length = hs.length - preM hs.length (grp hs.length) k := List.length_drop
              have hln2 := hln.out
              have hnf : nodeM ns k = .mk [] (((ns.drop (preM hs.length (grp hs.length) k)).take (sizeM hs.length (grp hs.length) k)).map NodeM.first1) ((ns.drop (preM hs.length (grp hs.length) k)).take (sizeM hs.length (grp hs.length) k)) := by
                unfold nodeM partM; rw [hln2]
              have hnr : Stab w2 (some w.heap.size) fun w' => NRows (only w' (fr w)) ((hs.drop (preM hs.length (grp hs.length) k)).take (sizeM hs.length (grp hs.length) k)) ((ns.drop (preM hs.length (grp hs.length) k)).take (sizeM hs.length (grp hs.length) k)) := (HR.out.bl HB2.out).mono fun w' h => (h.2.drop _).take _
              have hxx : ∀ x ∈ (ns.drop (preM hs.length (grp hs.length) k)).take (sizeM hs.length (grp hs.length) k), x.hasFirst = true := fun x hx => HX.out x (List.mem_of_mem_drop (List.mem_of_mem_take hx))
              have hdd : hs.drop (preM hs.length (grp hs.length) k + sizeM hs.length (grp hs.length) k) = (hs.drop (preM hs.length (grp hs.length) k)).drop (sizeM hs.length (grp hs.length) k) := by rw [List.drop_drop]
              have HNF := Lib.hid hnf
              have HNR := Lib.hid hnr
              have HXX := Lib.hid hxx
              have HDD := Lib.hid hdd
              have hgk : (List.range (grp hs.length))[k]'(by simpa using hltk) = k := by simp
              rw [hgk] at hpm
              clear hsa hnf hdd hgk q4 hnr hxx hln2
              generalize hs.drop (preM hs.length (grp hs.length) k) = R at *
              generalize (ns.drop (preM hs.length (grp hs.length) k)).take (sizeM hs.length (grp hs.length) k) = T at *
              generalize sizeM hs.length (grp hs.length) k = S at *
              have hSR : S ≤ R.length := by omega
              have hSi : (S : Int) ≤ R.length := by omega
              have hS2 : (S : Int) ≤ 1000 := by omega
              obtain ⟨hV1, hI1⟩ := slice_full (E := nodeE) (P := Tryz.prog) (t := 99) (by kernel_rfl) (fun w => by kernel_rfl) A0 c0 R S hSR q1
              obtain ⟨V2, hV2, hI2⟩ := slice_l (E := nodeE) (P := Tryz.prog) (t := 99) (by kernel_rfl) (fun w => by kernel_rfl) A0 c0 R (S : Int) (by omega) (by omega)
              have HI1 := Lib.hid (HV.out.mono fun w' h => hI1 _ h)
              have HI2 := Lib.hid hI2
              have hcc : (S : Int) ≤ c0 := by omega
              clear hI1 hI2 q3 hsz hrl
              go_wp2_with fail
              have htl : T.length = S := by
                have := HNR.out.here.1
                rw [List.length_take] at this; omega
              have HTL := Lib.hid htl
              clear htl
              obtain ⟨wq, rfl⟩ : ∃ wq : World, wq = wr := ⟨_, rfl⟩
              have hB9 : ∃ B9, B9 = wq.heap.size := ⟨_, rfl⟩
              go_loopg [51] S (fun g i wr => ∃ (j : Nat) (fv : Value), j ≤ S ∧ g = S - j ∧ i = .int .i64 j ∧ Hid (Blk wr wq.heap.size #[.slice none 0 0, fv, .slice A0 S S] 101) ∧ Hid (intE.Own 3 wr (wq.heap.size + 1) fv (pmap NodeM.first1 T j)) ∧ Hid (Bl wq wr))
              case atStart => exact ⟨0, .slice none 0 0, by omega, rfl, rfl, Lib.hid (Blk.new _ _ _), Lib.hid (Enc.Own.nil _ _ _), Lib.hid ((Bl.refl _).alloc _)⟩
              case round =>
                obtain ⟨j, fv, hj, rfl, rfl, HK9, HF, HG⟩ := hrel
                have d9 := HK9.out.cell 2
                simp at d9
                by_cases hltj : j < S
                · have hjR : j < (R.take S).length := by rw [List.length_take]; omega
                  have hjT : j < T.length := by have := HTL.out; omega
                  obtain ⟨_, hn⟩ := ((Sub.un _ _).nodes HNR.out.here).at j hjT
                  obtain ⟨A7, c7, e7, z1, z2, z3, at7⟩ := (Sub.un _ _).is HI1.out.here
                  simp only [Value.slice.injEq] at e7
                  obtain ⟨rfl, z0, rfl⟩ := e7
                  clear z0 z1 z2 z3
                  obtain ⟨ad, rfl, k0, k1, k2⟩ := node_at (at7.bl (HE.out.bl HG.out)) j hjR
                  have hxf := HXX.out T[j] (List.getElem_mem hjT)
                  have hpn := Lib.hid (pmap_succ NodeM.first1 T j hjT)
                  have hpl := Lib.hid (pmap_len NodeM.first1 T j (by omega))
                  have HN2 := Lib.hid (hn.bl (HE.out.bl HG.out))
                  generalize (R.take S)[j] = h' at *
                  generalize T[j] = x at *
                  generalize pmap NodeM.first1 T j = fs at *
                  simp only [Head.v] at k0 k1 k2
                  have HXF := Lib.hid hxf
                  clear hn hxf at7
                  obtain ⟨A8, c8, rfl⟩ := HF.out.slice
                  have hji : (j : Int) < S := by omega
                  go_wp2_with fail
                  refine wp_region_ways (S := (fun w' => w'.cell? ⟨wr.heap.size, 0, none⟩ = some (.slice h'.a.A h'.a.n h'.a.cap) ∧ w'.cell? ⟨wr.heap.size, 1, none⟩ = some (.slice h'.b.A h'.b.n h'.b.cap) ∧ w'.cell? ⟨wr.heap.size, 2, none⟩ = some (.slice h'.c.A h'.c.n h'.c.cap))) [0, 2, 6] (y := .take 0 (.take 2 (.ev 1 (.ev 3 (.ev 4 (.ev 5 (.take 6 (.ev 7 (.done) (.stop))) (.stop)) (.stop)) (.stop)) (.ev 3 (.ev 1 (.ev 4 (.ev 5 (.take 6 (.ev 7 (.done) (.stop))) (.stop)) (.stop)) (.ev 4 (.ev 1 (.ev 5 (.take 6 (.ev 7 (.done) (.stop))) (.stop)) (.stop)) (.stop))) (.stop))))) (by kernel_rfl) (by kernel_rfl) (by kernel_rfl) ?_ (fun hHeld => ?_)
                  · have hb := ((Blk.new wr #[.slice h'.a.A h'.a.n h'.a.cap, .slice h'.b.A h'.b.n h'.b.cap, .slice h'.c.A h'.c.n h'.c.cap] 101).bl (Bl.refl _).drew).cell
                    exact ⟨hb 0, hb 1, hb 2⟩
                  have HH := Lib.hid hHeld
                  repeat (first | (refine wpWay_take rfl (by rfl) (by intro w hSw; (try dsimp only at hSw); first | (go_simp; done) | (go_simp; with_reducible rfl)) ?_; try simp only [Act.put, List.setIfInBounds_toArray, List.set_cons_zero, List.set_cons_succ]) | (refine wpWay_skip rfl (by rfl) ?_; try simp only [Act.put, List.setIfInBounds_toArray, List.set_cons_zero, List.set_cons_succ]))
                  clear hHeld
                  have GB := Lib.hid ((((Bl.refl wr).alloc (.cells #[.slice h'.a.A h'.a.n h'.a.cap, .slice h'.b.A h'.b.n h'.b.cap, .slice h'.c.A h'.c.n h'.c.cap] 101)).drew))
                  have GC := Lib.hid ((HK9.out.bl GB.out).cell 1)
                  have GS := HH
                  refine wpWay_ev rfl (fun K hK => ?_) ?_
                  · have c1 := GC.out
                    simp at c1
                    go_wp2_with fail
                    clear c1
                    refine ⟨GS.out, ?_⟩
                    repeat (first | (refine wpWay_take rfl (by rfl) (by intro w hSw; (try dsimp only at hSw); first | (go_simp; done) | (go_simp; with_reducible rfl)) ?_; try simp only [Act.put, List.setIfInBounds_toArray, List.set_cons_zero, List.set_cons_succ]) | (refine wpWay_skip rfl (by rfl) ?_; try simp only [Act.put, List.setIfInBounds_toArray, List.set_cons_zero, List.set_cons_succ]))
                    refine wpWay_ev rfl (fun K hK => ?_) wpWay_stop
                    go_wp2_with fail
                    refine (tfirst_any x h' _ (HN2.out.bl GB.out) HXF.out).mono ?_
                    rintro e w3 ⟨rfl, hb⟩
                    replace GC := Lib.hid (hb.cell GC.out)
                    replace GB := Lib.hid (GB.out.bl hb)
                    replace GS := Lib.hid (And.intro (hb.cell GS.out.1) (And.intro (hb.cell GS.out.2.1) (hb.cell GS.out.2.2)))
                    clear hb
                    go_wp2_with fail
                    refine ⟨GS.out, ?_⟩
                    repeat (first | (refine wpWay_take rfl (by rfl) (by intro w hSw; (try dsimp only at hSw); first | (go_simp; done) | (go_simp; with_reducible rfl)) ?_; try simp only [Act.put, List.setIfInBounds_toArray, List.set_cons_zero, List.set_cons_succ]) | (refine wpWay_skip rfl (by rfl) ?_; try simp only [Act.put, List.setIfInBounds_toArray, List.set_cons_zero, List.set_cons_succ]))
                    refine wpWay_ev rfl (fun K hK => ?_) wpWay_stop
                    go_wp2_with fail
                    have hb4 := Bl.alloc (Bl.refl w3) (.cells #[.int .i64 x.first1] 3)
                    have GC2 := Lib.hid (hb4.cell GC.out)
                    have GS2 := Lib.hid (And.intro (hb4.cell GS.out.1) (And.intro (hb4.cell GS.out.2.1) (hb4.cell GS.out.2.2)))
                    clear hb4
                    refine ⟨GS2.out, ?_⟩
                    repeat (first | (refine wpWay_take rfl (by rfl) (by intro w hSw; (try dsimp only at hSw); first | (go_simp; done) | (go_simp; with_reducible rfl)) ?_; try simp only [Act.put, List.setIfInBounds_toArray, List.set_cons_zero, List.set_cons_succ]) | (refine wpWay_skip rfl (by rfl) ?_; try simp only [Act.put, List.setIfInBounds_toArray, List.set_cons_zero, List.set_cons_succ]))
                    refine wpWay_ev rfl (fun K hK => ?_) wpWay_stop
                    go_wp2_with (at_builtin; refine Enc.Own.append1 (E := intE) rfl (.tmp 56) (.tmp 59) 23 rfl (wq.heap.size + 1) 3 (.int .i64 0) 1 8 Tryz.underlying23 infoIntT rfl rfl (by decide) (by decide) (.slice A8 fs.length c8) fs rfl (HF.out.bl GB.out) x.first1 _ rfl rfl rfl ?hlen ?hbase ?_; (case hlen => have := hpl.out; omega); (case hbase => exact Nat.le_trans HK9.out.lt GB.out.size); intro v5 w4 ho hg)
                    have hne1 : some wq.heap.size ≠ (Value.slice A8 fs.length c8).ownBlock := fun he => by
                      have := (Enc.Own.lt HF.out _ he.symm).1; omega
                    have hne2 : some wr.heap.size ≠ (Value.slice A8 fs.length c8).ownBlock := fun he => by
                      have := (Enc.Own.lt HF.out _ he.symm).2; omega
                    have GS4 := Lib.hid (And.intro (World.grownBy.cell hg GS2.out.1 hne2) (And.intro (World.grownBy.cell hg GS2.out.2.1 hne2) (World.grownBy.cell hg GS2.out.2.2 hne2)))
                    refine ⟨GS4.out, ?_⟩
                    have HK4 := Lib.hid (((HK9.out.bl GB.out).bl ((Bl.refl _).alloc (.cells #[.int .i64 x.first1] 3))).grown hg (fun h => hne1 h.symm))
                    have HB5 := Lib.hid (((HG.out.bl GB.out).alloc _).grown hg (fun k hk => by have := (Enc.Own.lt HF.out k hk).1; omega))
                    have HO5 := Lib.hid ho
                    obtain ⟨A10, c10, rfl⟩ := ho.slice
                    clear hne1 hne2 hg ho
                    repeat (first | (refine wpWay_take rfl (by rfl) (by intro w hSw; (try dsimp only at hSw); first | (go_simp; done) | (go_simp; with_reducible rfl)) ?_; try simp only [Act.put, List.setIfInBounds_toArray, List.set_cons_zero, List.set_cons_succ]) | (refine wpWay_skip rfl (by rfl) ?_; try simp only [Act.put, List.setIfInBounds_toArray, List.set_cons_zero, List.set_cons_succ]))
                    have e0 := HK4.out.cell 1
                    simp at e0
                    have e1 := HK4.out.frozen 1
                    have e2 := HK4.out.lt
                    have e3 := HG.out.size
                    refine wpWay_ev rfl (fun K hK => ?_) wpWay_stop
                    go_wp2_with fail
                    have hnw : wq.heap.size ≠ wr.heap.size := by have := HK9.out.lt; omega
                    refine ⟨⟨?_, ?_, ?_⟩, ?_⟩
                    · rw [World.cell?_setCell_other _ _ _ _ (fun h => hnw (congrArg Addr.block h))]; exact GS4.out.1
                    · rw [World.cell?_setCell_other _ _ _ _ (fun h => hnw (congrArg Addr.block h))]; exact GS4.out.2.1
                    · rw [World.cell?_setCell_other _ _ _ _ (fun h => hnw (congrArg Addr.block h))]; exact GS4.out.2.2
                    refine wpWay_done ?_
                    clear e0 e1 e2 e3
                    go_wp2_with fail
                    go_roundg (S - (j + 1))
                    case measure => omega
                    case rel =>
                      refine ⟨j + 1, _, by omega, rfl, by go_num, Lib.hid (HK4.out.set 1 _), Lib.hid ?_, Lib.hid (Bl.set HB5.out _ _ _ (Nat.le_refl _))⟩
                      have h1 := Enc.Own.set HO5.out wq.heap.size 1 (.slice A10 (fs ++ [x.first1]).length c10) (Nat.lt_succ_self _)
                      rw [hpn.out]
                      simpa using h1
                  · refine wpWay_ev rfl (fun K hK => ?_) wpWay_stop
                    go_wp2_with fail
                    refine (tfirst_any x h' _ (HN2.out.bl GB.out) HXF.out).mono ?_
                    rintro e w3 ⟨rfl, hb⟩
                    replace GC := Lib.hid (hb.cell GC.out)
                    replace GB := Lib.hid (GB.out.bl hb)
                    replace GS := Lib.hid (And.intro (hb.cell GS.out.1) (And.intro (hb.cell GS.out.2.1) (hb.cell GS.out.2.2)))
                    clear hb
                    go_wp2_with fail
                    refine ⟨GS.out, ?_⟩
                    repeat (first | (refine wpWay_take rfl (by rfl) (by intro w hSw; (try dsimp only at hSw); first | (go_simp; done) | (go_simp; with_reducible rfl)) ?_; try simp only [Act.put, List.setIfInBounds_toArray, List.set_cons_zero, List.set_cons_succ]) | (refine wpWay_skip rfl (by rfl) ?_; try simp only [Act.put, List.setIfInBounds_toArray, List.set_cons_zero, List.set_cons_succ]))
                    refine wpWay_ev rfl (fun K hK => ?_) ?_
                    · have c1 := GC.out
                      simp at c1
                      go_wp2_with fail
                      clear c1
                      refine ⟨GS.out, ?_⟩
                      repeat (first | (refine wpWay_take rfl (by rfl) (by intro w hSw; (try dsimp only at hSw); first | (go_simp; done) | (go_simp; with_reducible rfl)) ?_; try simp only [Act.put, List.setIfInBounds_toArray, List.set_cons_zero, List.set_cons_succ]) | (refine wpWay_skip rfl (by rfl) ?_; try simp only [Act.put, List.setIfInBounds_toArray, List.set_cons_zero, List.set_cons_succ]))
                      refine wpWay_ev rfl (fun K hK => ?_) wpWay_stop
                      go_wp2_with fail
                      have hb4 := Bl.alloc (Bl.refl w3) (.cells #[.int .i64 x.first1] 3)
                      have GC2 := Lib.hid (hb4.cell GC.out)
                      have GS2 := Lib.hid (And.intro (hb4.cell GS.out.1) (And.intro (hb4.cell GS.out.2.1) (hb4.cell GS.out.2.2)))
                      clear hb4
                      refine ⟨GS2.out, ?_⟩
                      repeat (first | (refine wpWay_take rfl (by rfl) (by intro w hSw; (try dsimp only at hSw); first | (go_simp; done) | (go_simp; with_reducible rfl)) ?_; try simp only [Act.put, List.setIfInBounds_toArray, List.set_cons_zero, List.set_cons_succ]) | (refine wpWay_skip rfl (by rfl) ?_; try simp only [Act.put, List.setIfInBounds_toArray, List.set_cons_zero, List.set_cons_succ]))
                      refine wpWay_ev rfl (fun K hK => ?_) wpWay_stop
                      go_wp2_with (at_builtin; refine Enc.Own.append1 (E := intE) rfl (.tmp 56) (.tmp 59) 23 rfl (wq.heap.size + 1) 3 (.int .i64 0) 1 8 Tryz.underlying23 infoIntT rfl rfl (by decide) (by decide) (.slice A8 fs.length c8) fs rfl (HF.out.bl GB.out) x.first1 _ rfl rfl rfl ?hlen ?hbase ?_; (case hlen => have := hpl.out; omega); (case hbase => exact Nat.le_trans HK9.out.lt GB.out.size); intro v5 w4 ho hg)
                      have hne1 : some wq.heap.size ≠ (Value.slice A8 fs.length c8).ownBlock := fun he => by
                        have := (Enc.Own.lt HF.out _ he.symm).1; omega
                      have hne2 : some wr.heap.size ≠ (Value.slice A8 fs.length c8).ownBlock := fun he => by
                        have := (Enc.Own.lt HF.out _ he.symm).2; omega
                      have GS4 := Lib.hid (And.intro (World.grownBy.cell hg GS2.out.1 hne2) (And.intro (World.grownBy.cell hg GS2.out.2.1 hne2) (World.grownBy.cell hg GS2.out.2.2 hne2)))
                      refine ⟨GS4.out, ?_⟩
                      have HK4 := Lib.hid (((HK9.out.bl GB.out).bl ((Bl.refl _).alloc (.cells #[.int .i64 x.first1] 3))).grown hg (fun h => hne1 h.symm))
                      have HB5 := Lib.hid (((HG.out.bl GB.out).alloc _).grown hg (fun k hk => by have := (Enc.Own.lt HF.out k hk).1; omega))
                      have HO5 := Lib.hid ho
                      obtain ⟨A10, c10, rfl⟩ := ho.slice
                      clear hne1 hne2 hg ho
                      repeat (first | (refine wpWay_take rfl (by rfl) (by intro w hSw; (try dsimp only at hSw); first | (go_simp; done) | (go_simp; with_reducible rfl)) ?_; try simp only [Act.put, List.setIfInBounds_toArray, List.set_cons_zero, List.set_cons_succ]) | (refine wpWay_skip rfl (by rfl) ?_; try simp only [Act.put, List.setIfInBounds_toArray, List.set_cons_zero, List.set_cons_succ]))
                      have e0 := HK4.out.cell 1
                      simp at e0
                      have e1 := HK4.out.frozen 1
                      have e2 := HK4.out.lt
                      have e3 := HG.out.size
                      refine wpWay_ev rfl (fun K hK => ?_) wpWay_stop
                      go_wp2_with fail
                      have hnw : wq.heap.size ≠ wr.heap.size := by have := HK9.out.lt; omega
                      refine ⟨⟨?_, ?_, ?_⟩, ?_⟩
                      · rw [World.cell?_setCell_other _ _ _ _ (fun h => hnw (congrArg Addr.block h))]; exact GS4.out.1
                      · rw [World.cell?_setCell_other _ _ _ _ (fun h => hnw (congrArg Addr.block h))]; exact GS4.out.2.1
                      · rw [World.cell?_setCell_other _ _ _ _ (fun h => hnw (congrArg Addr.block h))]; exact GS4.out.2.2
                      refine wpWay_done ?_
                      clear e0 e1 e2 e3
                      go_wp2_with fail
                      go_roundg (S - (j + 1))
                      case measure => omega
                      case rel =>
                        refine ⟨j + 1, _, by omega, rfl, by go_num, Lib.hid (HK4.out.set 1 _), Lib.hid ?_, Lib.hid (Bl.set HB5.out _ _ _ (Nat.le_refl _))⟩
                        have h1 := Enc.Own.set HO5.out wq.heap.size 1 (.slice A10 (fs ++ [x.first1]).length c10) (Nat.lt_succ_self _)
                        rw [hpn.out]
                        simpa using h1
                    · refine wpWay_ev rfl (fun K hK => ?_) wpWay_stop
                      go_wp2_with fail
                      have hb4 := Bl.alloc (Bl.refl w3) (.cells #[.int .i64 x.first1] 3)
                      have GC2 := Lib.hid (hb4.cell GC.out)
                      have GS2 := Lib.hid (And.intro (hb4.cell GS.out.1) (And.intro (hb4.cell GS.out.2.1) (hb4.cell GS.out.2.2)))
                      clear hb4
                      refine ⟨GS2.out, ?_⟩
                      repeat (first | (refine wpWay_take rfl (by rfl) (by intro w hSw; (try dsimp only at hSw); first | (go_simp; done) | (go_simp; with_reducible rfl)) ?_; try simp only [Act.put, List.setIfInBounds_toArray, List.set_cons_zero, List.set_cons_succ]) | (refine wpWay_skip rfl (by rfl) ?_; try simp only [Act.put, List.setIfInBounds_toArray, List.set_cons_zero, List.set_cons_succ]))
                      refine wpWay_ev rfl (fun K hK => ?_) wpWay_stop
                      have c1 := GC2.out
                      simp at c1
                      go_wp2_with fail
                      clear c1
                      refine ⟨GS2.out, ?_⟩
                      repeat (first | (refine wpWay_take rfl (by rfl) (by intro w hSw; (try dsimp only at hSw); first | (go_simp; done) | (go_simp; with_reducible rfl)) ?_; try simp only [Act.put, List.setIfInBounds_toArray, List.set_cons_zero, List.set_cons_succ]) | (refine wpWay_skip rfl (by rfl) ?_; try simp only [Act.put, List.setIfInBounds_toArray, List.set_cons_zero, List.set_cons_succ]))
                      refine wpWay_ev rfl (fun K hK => ?_) wpWay_stop
                      go_wp2_with (at_builtin; refine Enc.Own.append1 (E := intE) rfl (.tmp 56) (.tmp 59) 23 rfl (wq.heap.size + 1) 3 (.int .i64 0) 1 8 Tryz.underlying23 infoIntT rfl rfl (by decide) (by decide) (.slice A8 fs.length c8) fs rfl (HF.out.bl GB.out) x.first1 _ rfl rfl rfl ?hlen ?hbase ?_; (case hlen => have := hpl.out; omega); (case hbase => exact Nat.le_trans HK9.out.lt GB.out.size); intro v5 w4 ho hg)
                      have hne1 : some wq.heap.size ≠ (Value.slice A8 fs.length c8).ownBlock := fun he => by
                        have := (Enc.Own.lt HF.out _ he.symm).1; omega
                      have hne2 : some wr.heap.size ≠ (Value.slice A8 fs.length c8).ownBlock := fun he => by
                        have := (Enc.Own.lt HF.out _ he.symm).2; omega
                      have GS4 := Lib.hid (And.intro (World.grownBy.cell hg GS2.out.1 hne2) (And.intro (World.grownBy.cell hg GS2.out.2.1 hne2) (World.grownBy.cell hg GS2.out.2.2 hne2)))
                      refine ⟨GS4.out, ?_⟩
                      have HK4 := Lib.hid (((HK9.out.bl GB.out).bl ((Bl.refl _).alloc (.cells #[.int .i64 x.first1] 3))).grown hg (fun h => hne1 h.symm))
                      have HB5 := Lib.hid (((HG.out.bl GB.out).alloc _).grown hg (fun k hk => by have := (Enc.Own.lt HF.out k hk).1; omega))
                      have HO5 := Lib.hid ho
                      obtain ⟨A10, c10, rfl⟩ := ho.slice
                      clear hne1 hne2 hg ho
                      repeat (first | (refine wpWay_take rfl (by rfl) (by intro w hSw; (try dsimp only at hSw); first | (go_simp; done) | (go_simp; with_reducible rfl)) ?_; try simp only [Act.put, List.setIfInBounds_toArray, List.set_cons_zero, List.set_cons_succ]) | (refine wpWay_skip rfl (by rfl) ?_; try simp only [Act.put, List.setIfInBounds_toArray, List.set_cons_zero, List.set_cons_succ]))
                      have e0 := HK4.out.cell 1
                      simp at e0
                      have e1 := HK4.out.frozen 1
                      have e2 := HK4.out.lt
                      have e3 := HG.out.size
                      refine wpWay_ev rfl (fun K hK => ?_) wpWay_stop
                      go_wp2_with fail
                      have hnw : wq.heap.size ≠ wr.heap.size := by have := HK9.out.lt; omega
                      refine ⟨⟨?_, ?_, ?_⟩, ?_⟩
                      · rw [World.cell?_setCell_other _ _ _ _ (fun h => hnw (congrArg Addr.block h))]; exact GS4.out.1
                      · rw [World.cell?_setCell_other _ _ _ _ (fun h => hnw (congrArg Addr.block h))]; exact GS4.out.2.1
                      · rw [World.cell?_setCell_other _ _ _ _ (fun h => hnw (congrArg Addr.block h))]; exact GS4.out.2.2
                      refine wpWay_done ?_
                      clear e0 e1 e2 e3
                      go_wp2_with fail
                      go_roundg (S - (j + 1))
                      case measure => omega
                      case rel =>
                        refine ⟨j + 1, _, by omega, rfl, by go_num, Lib.hid (HK4.out.set 1 _), Lib.hid ?_, Lib.hid (Bl.set HB5.out _ _ _ (Nat.le_refl _))⟩
                        have h1 := Enc.Own.set HO5.out wq.heap.size 1 (.slice A10 (fs ++ [x.first1]).length c10) (Nat.lt_succ_self _)
                        rw [hpn.out]
                        simpa using h1
                · have hfs : pmap NodeM.first1 T j = T.map NodeM.first1 := pmap_all _ _ _ (by have := HTL.out; omega)
                  have HF2 := Lib.hid (show intE.Own 3 wr (wq.heap.size + 1) fv (T.map NodeM.first1) by rw [← hfs]; exact HF.out)
                  clear hfs HF
                  generalize T.map NodeM.first1 = fs at *
                  obtain ⟨A8, c8, rfl⟩ := HF2.out.slice
                  have d0 := HK9.out.cell 0
                  have d1 := HK9.out.cell 1
                  simp at d0 d1
                  go_wp2_with (at_builtin; refine Enc.Own.append1L (E := nodeE) rfl (.tmp 63) (.tmp 65) 99 rfl w2.heap.size 101 (.agg #[.slice none 0 0, .slice none 0 0, .slice none 0 0]) 3 72 Tryz.underlying99 infoNode rfl rfl (by decide) (by decide) u6 us rfl (HO.out.bl HG.out) ⟨nilH, ⟨A8, fs.length, c8⟩, ⟨A0, S, S⟩⟩ _ rfl rfl rfl ?hlen ?hbase ?_; (case hlen => have := hle.out; have := HU.out.here.here.1; omega); (case hbase => exact (HE.out.bl HG.out).size); intro v1 w3 ho hg hl)
                  have HE3 := Lib.hid (((HE.out.bl HG.out).alloc _).grown hg (fun k hk => (Enc.Own.lt HO.out k hk).1))
                  have HO3 := Lib.hid ho
                  have hst : Stab w3 v1.ownBlock (fun w' => Stab w' (some w.heap.size) fun w'' => NRows (only w'' (fr w)) (us ++ [⟨nilH, ⟨A8, fs.length, c8⟩, ⟨A0, S, S⟩⟩]) (pmap (nodeM ns) (List.range (grp hs.length)) k ++ [nodeM ns k])) := by
                    have s1 := HU.out.bl HG.out
                    have hw9 : w.heap.size < wq.heap.size + 1 := by have := HK1.out.lt; have := (((HB.out.bl HD.out).bl HB2.out).bl HE.out).size; omega
                    have s2 := Stab.own2 (row := u6.ownBlock) (B := w.heap.size) HF2.out (fun g hg => by have := (Enc.Own.lt HO.out g hg).2; omega) hw9
                    have s3 := Stab.old (W := w2) (w := wr) (row := u6.ownBlock) (P := fun w' => Stab w' (some w.heap.size) fun w'' => nodeE.Is (only w'' (fr w)) (.slice A0 S S) (R.take S) ∧ NRows (only w'' (fr w)) (R.take S) T) (fun h hb => h.bl hb) (HI1.out.and HNR.out) (HE.out.bl HG.out) (fun g hg => (Enc.Own.lt HO.out g hg).1)
                    refine (((s1.and (s2.and s3)).bl ((Bl.refl _).alloc (.cells #[.slice none 0 0, .slice A8 fs.length c8, .slice A0 S S] 101))).mono ?_).grow hg hl
                    rintro w' ⟨g1, g2, g3⟩
                    refine (g1.and (g2.and g3)).mono ?_
                    rintro w'' ⟨g1, g2, g3, g4⟩
                    refine g1.snoc ?_
                    rw [HNF.out]
                    exact NodeR.mk' (Enc.Is.nil _) (g2.isM (G := fr w) (fun k hk => fr_ge (by have := HK1.out.lt; have := (((HB.out.bl HD.out).bl HB2.out).bl HE.out).size; omega) hk)) g3 g4
                  have HST := Lib.hid hst
                  have HV3 := Lib.hid (HV.out.mono fun w' h => HI2.out _ h)
                  clear hst ho hg hl d0 d1
                  go_wp2_with fail
                  go_roundg (grp hs.length - (k + 1))
                  case measure => omega
                  case rel => exact ⟨k + 1, _, by omega, rfl, by go_num, Lib.hid (by rw [hps.out, HDD.out]; simpa using HV3.out), HO3, Lib.hid (by rw [hpm.out]; exact HST.out), HE3⟩
            · have hke : k = grp hs.length := by omega
              have hup : pmap (nodeM ns) (List.range (grp hs.length)) k = upM ns := by
                rw [pmap_all _ _ _ (by simp; omega), hln.out]; rfl
              have HU2 := Lib.hid (show Stab wr (some w.heap.size) (fun w' => NRows (only w' (fr w)) us (upM ns)) by rw [← hup]; exact HU.out.here)
              have HO2 := Lib.hid ((Stab.own (row := some w.heap.size) HO.out (fun g hg => by injection hg with hg; rw [← hg]; exact Nat.lt_of_lt_of_le HK1.out.lt (((HB.out.bl HD.out).bl HB2.out).size))).mono fun w' h => h.isM (G := fr w) (fun k hk => fr_ge (by have := HB1.out.size; have := (((HB.out.bl HD.out).bl HB2.out)).size; omega) hk))
              clear hup HU hke
              go_wp2_with fail
              go_roundg (upM ns).length
              case measure => rw [upM_len]; have := hln.out; rw [← this]; exact hgg
              case rel =>
                refine ⟨upM ns, us, rfl, Lib.hid (HO2.out.and HU2.out), Lib.hid ?_, Lib.hid (up_first ns HX.out), Lib.hid ?_, Lib.hid ((HD.out.bl HB2.out).bl HE.out)⟩
                · rw [← topM_up ns (by have := hln.out; omega)]; exact HT.out
                · rw [upM_len]; have := hln.out; rw [← this]; omega
        · have hB := Lib.hid ((HB1.out.bl HB.out).bl HD.out)
          have HK := Lib.hid ((HK1.out.bl HB.out).bl HD.out)
          have z0 := HK.out.cell 0
          have z1 := HK.out.cell 1
          have z2 := HK.out.cell 2
          simp at z0 z1 z2
          have z3 := HK.out.frozen 0
          have z4 := HK.out.frozen 1
          have z5 := HK.out.frozen 2
          have z6 := HK.out.lt
          have htn := topM_one ns (by have := hln.out; omega)
          rw [HT.out] at htn
          have HTN := Lib.hid htn
          clear htn
          cases hs with
          | nil =>
            have hns : ns = [] := List.eq_nil_of_length_eq_zero hln.out.symm
            subst hns
            go_wp2_with fail
            refine bodyPost_ret (v := .agg #[.slice none 0 0, .slice none 0 0, .slice none 0 0]) (by simp [results, Tryz.results116, go_sem, z0, z1, z2]) rfl ⟨⟨nilH, nilH, nilH⟩, rfl, ?_, ?_⟩
            · rw [HTN.out]; exact NodeR.mk' (Enc.Is.nil _) (Enc.Is.nil _) (Enc.Is.nil _) (NRows.nil _)
            · iterate 3 refine Bl.set ?_ _ _ _ (Nat.le_refl _)
              exact hB.out
          | cons h0 hs =>
            have hl0 : hs = [] := by
              cases hs with
              | nil => rfl
              | cons a b => simp at hlt1
            subst hl0
            have hns : ∃ n, ns = [n] := by
              have := hln.out
              cases ns with
              | nil => simp at this
              | cons n b => cases b with
                | nil => exact ⟨n, rfl⟩
                | cons c d => simp at this
            obtain ⟨n, rfl⟩ := hns
            obtain ⟨ad, rfl, k0, k1, k2⟩ := node_at0 p4 (by simp)
            simp only [List.getElem_cons_zero, Head.v] at k0 k1 k2
            have HN0 := Lib.hid (HR.out.mono fun w' h => h.2.2 0 n h0 rfl rfl)
            go_wp2_with fail
            refine bodyPost_ret (v := .agg #[.slice h0.a.A h0.a.n h0.a.cap, .slice h0.b.A h0.b.n h0.b.cap, .slice h0.c.A h0.c.n h0.c.cap]) (by simp [results, Tryz.results116, go_sem, z0, z1, z2]) rfl ⟨h0, rfl, ?_, ?_⟩
            · rw [HTN.out]
              exact (((HN0.out.set _ _).set _ _).set _ _).here
            · iterate 3 refine Bl.set ?_ _ _ _ (Nat.le_refl _)
              exact hB.out
theorem tmade_any (v : Value) (l : List Ext) (w : World) (h : extE.Is w v l) (hn : l.length ≤ 1000) :
    Calls Tryz.prog 116 #[v] w fun e w' => ∃ h : NH, e = .returned h.v ∧ NodeR w' (madeM l) h ∧ Bl w w' :=
  (tmade_G v l w h hn).mono fun _ w' ⟨h, e, h1, h2⟩ => ⟨h, e, (Sub.un w' _).node h1, h2⟩
end Go.Proofs.YtddcjekkimajpaaGreat.ExtW

/- Contract of overdublaw16.Row. -/
namespace Go.Proofs.YtddcjekkimajpaaGreat.ExtW
open Go.RowKit Go.Ov Go.Proofs.YtddcjekkimajpaaGreat.Need

set_option maxRecDepth 100000 in
set_option maxHeartbeats 1000000 in
theorem row16_any (v : Value) (l : List Ext) (m : Nat) (w : World) (h : extE.Is w v l) (hm : m ≤ 1000) :
    Calls Tryz.prog 78 #[v, .int .i64 m] w fun e w' => ∃ u, e = .returned u ∧ extE.Own 81 w' w.heap.size u (rowM l m) ∧ Bl w w' := by
  obtain ⟨A, c, rfl, h1, h2, h3, h4⟩ := h
  have HA := Lib.hid h4
  have hl : l.length ≤ 9223372036854775807 := by unfold maxLen at h2; omega
  have hu := Tryz.underlying81
  clear h1 h2 h3 h4
  go_enter Tryz.func78, Tryz.ntmps78
  go_wp2
  go_loopg [5, 6, 7] l.length (fun g s q i wr => ∃ (k : Nat) (a : Int) (xs : List Ext), k ≤ l.length ∧ k ≤ m ∧ g = l.length - k ∧ i = .int .i64 k ∧ q = .int .i64 a ∧ 0 ≤ a ∧ a ≤ 1000 ∧ Hid (rowM l m = xs ++ rowGo a ((l.take m).drop k)) ∧ Hid (xs.length ≤ k) ∧ extE.Own 81 wr w.heap.size s xs ∧ Bl w wr)
  case atStart => exact ⟨0, 0, [], by omega, by omega, rfl, rfl, rfl, by omega, by omega, Lib.hid rfl, Lib.hid (Nat.le_refl _), Enc.Own.nil _ _ _, Bl.refl _⟩
  case round =>
    obtain ⟨k, a, xs, hk, hkm, rfl, rfl, rfl, ha0, ha1, hr, hlen, ho, hbl⟩ := hrel
    have HB := Lib.hid hbl
    have HO := Lib.hid ho
    clear hbl ho
    by_cases hlt : k < l.length ∧ k < m
    · obtain ⟨hlt, hltm⟩ := hlt
      obtain ⟨ad, rfl, c0, c1, c2, c3, c4⟩ := ext_at (HA.out.bl HB.out) k hlt
      have hd : (l.take m).drop k = l[k] :: (l.take m).drop (k + 1) := by
        rw [List.drop_eq_getElem_cons (by rw [List.length_take]; omega)]; simp
      have HD := Lib.hid hd
      clear hd
      generalize l[k] = x at *
      obtain ⟨x0, x1, x2, x3, x4⟩ := x
      dsimp only at c0 c1 c2 c3 c4
      have b1 := within_bd x2 64 (by decide)
      have b2 := within_bd x3 (1 + within x2 64) (by omega)
      have b3 := within_bd x4 (1 + within x2 64 - within x3 (1 + within x2 64)) (by omega)
      have b4 := within_bd x1 4095 (by decide)
      have hs := Lib.hid (show rowGo a (⟨x0, x1, x2, x3, x4⟩ :: (l.take m).drop (k + 1)) = _ from rowGo.eq_2 ..)
      by_cases ht : 1000 - a < 1 + within x4 (1 + within x2 64 - within x3 (1 + within x2 64))
      · go_wp2_with (go_at_call 19; refine (within_any _ _ _ (by omega)).mono ?_; rintro e w' ⟨rfl, rfl⟩)
        go_ret
        refine ⟨_, rfl, ?_, HB.out⟩
        rw [hr.out, HD.out, hs.out]
        try dsimp only
        rw [if_pos ht, List.append_nil]; exact HO.out
      · have HT := Lib.hid ht
        go_wp2_with (first | (go_at_call 19; refine (within_any _ _ _ (by omega)).mono ?_; rintro e w' ⟨rfl, rfl⟩) | (at_builtin; refine Enc.Own.append1 (E := extE) rfl (.tmp 50) (.tmp 63) 44 rfl w.heap.size 81 (.agg #[.int .i64 0, .int .i64 0, .int .i64 0, .int .i64 0, .int .i64 0]) 5 40 Tryz.underlying44 infoExt rfl rfl (by decide) (by decide) u5 xs rfl HO.out ⟨a, 1 + within x1 4095, 1 + within x2 64, within x3 (1 + within x2 64), 1 + within x4 (1 + within x2 64 - within x3 (1 + within x2 64))⟩ _ rfl rfl rfl ?hlen ?hbase ?_; (case hlen => have := hlen.out; omega); (case hbase => exact HB.out.size); intro v1 w1 ho hg))
        go_roundg (l.length - (k + 1))
        case measure => omega
        case rel =>
          refine ⟨k + 1, a + (1 + within x4 (1 + within x2 64 - within x3 (1 + within x2 64))), xs ++ [⟨a, 1 + within x1 4095, 1 + within x2 64, within x3 (1 + within x2 64), 1 + within x4 (1 + within x2 64 - within x3 (1 + within x2 64))⟩], by omega, by omega, rfl, by go_num, rfl, by omega, by omega, Lib.hid ?_, Lib.hid ?_, ho, (HB.out.alloc _).grown hg (fun k hk => (Enc.Own.lt HO.out k hk).1)⟩
          · rw [hr.out, HD.out, hs.out]
            try dsimp only
            rw [if_neg (by have := HT.out; omega), List.append_assoc]; rfl
          · rw [List.length_append]; have := hlen.out; simp only [List.length_cons, List.length_nil]; omega
    · have hend : (l.take m).drop k = [] := List.drop_of_length_le (by rw [List.length_take]; omega)
      have HE := Lib.hid hend
      clear hend
      have hlt' : k < l.length → ¬ k < m := fun p q => hlt ⟨p, q⟩
      clear hlt
      by_cases hkl : k < l.length
      · have hkm' := hlt' hkl
        clear hlt'
        go_wp2
        go_ret
        refine ⟨_, rfl, ?_, HB.out⟩
        rw [hr.out, HE.out, rowGo, List.append_nil]; exact HO.out
      · clear hlt'
        go_wp2
        go_ret
        refine ⟨_, rfl, ?_, HB.out⟩
        rw [hr.out, HE.out, rowGo, List.append_nil]; exact HO.out
end Go.Proofs.YtddcjekkimajpaaGreat.ExtW

/- Contracts of overdubkeep's generic helps at extents and at pairs. -/
namespace Go.Proofs.YtddcjekkimajpaaGreat.ExtW
open Go.RowKit Go.Ov Go.Proofs.YtddcjekkimajpaaGreat.Need

def eqE (x y : Ext) : Bool := decide (x = y)
def eqP (x y : Int × Int) : Bool := decide (x = y)
theorem eq_ext (x0 x1 x2 x3 x4 y0 y1 y2 y3 y4 : Int) (w : World) :
    (Op.equalIn 10000 81 (.agg #[.int .i64 x0, .int .i64 x1, .int .i64 x2, .int .i64 x3, .int .i64 x4]) (.agg #[.int .i64 y0, .int .i64 y1, .int .i64 y2, .int .i64 y3, .int .i64 y4])).run Tryz.prog w = .ok (eqE ⟨x0, x1, x2, x3, x4⟩ ⟨y0, y1, y2, y3, y4⟩) w := by
  have hu := Tryz.underlying81
  have hi := Tryz.underlying3
  unfold eqE
  go_simp
  by_cases h0 : x0 = y0 <;> by_cases h1 : x1 = y1 <;> by_cases h2 : x2 = y2 <;> by_cases h3 : x3 = y3 <;> by_cases h4 : x4 = y4 <;> simp [h0, h1, h2, h3, h4]
def pairE : Enc (Int × Int) := ⟨2, fun x => [.int .i64 x.1, .int .i64 x.2], fun _ => rfl, fun x u h => by simp at h; rcases h with rfl | rfl <;> rfl⟩
theorem pair_at {w : World} {A : Option Addr} {xs : List (Int × Int)} (h : pairE.At w A xs) (k : Nat) (hk : k < xs.length) :
    ∃ ad, A = some ad ∧ w.cell? (ad.add (k * 2)) = some (.int .i64 xs[k].1) ∧ w.cell? ⟨(ad.add (k * 2)).block, (ad.add (k * 2)).off + 1, none⟩ = some (.int .i64 xs[k].2) := by
  obtain ⟨ad, e, hc⟩ := h k _ (List.getElem?_eq_getElem hk)
  refine ⟨ad, e, ?_, ?_⟩
  · exact hc 0 _ rfl
  · rw [← add_at _ _ 1 (by decide)]; exact hc 1 _ rfl
/-- the first m of a slice -/
theorem Enc.Is.take {α : Type} {E : Enc α} {w : World} {A : Option Addr} {c : Nat} {l : List α} (h : E.Is w (.slice A l.length c) l) (m : Nat) : E.Is w (.slice A (min l.length m) c) (l.take m) := by
  obtain ⟨A', c', e, h1, h2, h3, h4⟩ := h
  simp at e
  obtain ⟨rfl, rfl⟩ := e
  refine ⟨A, c, by rw [List.length_take, Nat.min_comm], by rw [List.length_take]; omega, h2, h3, fun i x hx => h4 i x ?_⟩
  rw [List.getElem?_take] at hx
  split at hx
  · exact hx
  · cases hx
set_option maxHeartbeats 1000000 in
theorem kcutExt_any (v : Value) (l : List Ext) (m : Nat) (w : World) (h : extE.Is w v l) (hm : m ≤ 1000) :
    Calls Tryz.prog 55 #[v, .int .i64 m] w fun e w' => ∃ u, e = .returned u ∧ extE.Is w' u (l.take m) ∧ w = w' := by
  obtain ⟨A, c, rfl, h1, h2, h3, h4⟩ := h
  have HH := Lib.hid (show extE.Is w (.slice A l.length c) l from ⟨A, c, rfl, h1, h2, h3, h4⟩)
  clear h4
  unfold maxLen at h2
  cases A with
  | none =>
    have hc : c = 0 := h3 rfl
    have hl : l = [] := List.eq_nil_of_length_eq_zero (by omega)
    subst hc; subst hl
    go_enter Tryz.func55, Tryz.ntmps55
    go_wp2
    go_ret
    refine ⟨_, rfl, ?_, rfl⟩
    have := Enc.Is.take HH.out m
    rwa [show min ([] : List Ext).length m = (min (0 : Int) m).toNat by simp; omega] at this
  | some ad =>
    go_enter Tryz.func55, Tryz.ntmps55
    go_wp2
    go_ret
    refine ⟨_, rfl, ?_, rfl⟩
    have := Enc.Is.take HH.out m
    rwa [show min l.length m = (min (l.length : Int) m).toNat by omega] at this

set_option maxRecDepth 100000 in
set_option maxHeartbeats 1000000 in
theorem sameExt_any (v u : Value) (a b : List Ext) (w : World) (h : extE.Is w v a) (h' : extE.Is w u b) :
    Calls Tryz.prog 39 #[v, u] w fun e w' => e = .returned (.bool (decide (a = b))) ∧ Bl w w' := by
  obtain ⟨A, c, rfl, h1, h2, h3, h4⟩ := h
  obtain ⟨A', c', rfl, h1', h2', h3', h4'⟩ := h'
  have HA := Lib.hid h4
  have HA' := Lib.hid h4'
  have hl : a.length ≤ 9223372036854775807 := by unfold maxLen at h2; omega
  have hl' : b.length ≤ 9223372036854775807 := by unfold maxLen at h2'; omega
  have hu := Tryz.underlying81
  clear h1 h2 h3 h4 h1' h2' h3' h4'
  by_cases hlen : a.length = b.length
  · go_enter Tryz.func39, Tryz.ntmps39
    go_wp2
    have HL := Lib.hid hlen
    clear hlen
    go_loopg [5] b.length (fun g i wr => ∃ k : Nat, k ≤ b.length ∧ g = b.length - k ∧ i = .int .i64 k ∧ Hid (a.take k = b.take k) ∧ Bl w wr)
    case atStart => exact ⟨0, by omega, rfl, rfl, Lib.hid rfl, Bl.refl _⟩
    case round =>
      obtain ⟨k, hk, rfl, rfl, heq, hbl⟩ := hrel
      have HB := Lib.hid hbl
      clear hbl
      by_cases hlt : k < b.length
      · have hlta : k < a.length := by have := HL.out; omega
        have hlti : (k : Int) < a.length := by omega
        obtain ⟨ad, rfl, c0, c1, c2, c3, c4⟩ := ext_at (HA.out.bl HB.out) k hlta
        obtain ⟨ad', rfl, d0, d1, d2, d3, d4⟩ := ext_at (HA'.out.bl HB.out) k hlt
        have ta := Lib.hid (List.take_succ_eq_append_getElem hlta)
        have tb := Lib.hid (List.take_succ_eq_append_getElem hlt)
        have hne := Lib.hid (fun h : a = b => show a[k]'hlta = b[k]'hlt by simp [h])
        generalize a[k] = x at *
        generalize b[k] = y at *
        obtain ⟨x0, x1, x2, x3, x4⟩ := x
        obtain ⟨y0, y1, y2, y3, y4⟩ := y
        dsimp only at c0 c1 c2 c3 c4 d0 d1 d2 d3 d4
        have hqq := eq_ext x0 x1 x2 x3 x4 y0 y1 y2 y3 y4
        go_wp2_with fail
        go_quiet (fail)
        clear hqq
        cases hq : eqE ⟨x0, x1, x2, x3, x4⟩ ⟨y0, y1, y2, y3, y4⟩
        · go_wp2
          go_ret
          refine ⟨ret_bool ?_, HB.out.drewN _⟩
          symm; rw [decide_eq_false_iff_not]
          intro h; have := hne.out h; unfold eqE at hq; simp [this] at hq
        · have HQ := Lib.hid hq
          clear hq
          go_wp2
          go_roundg (b.length - (k + 1))
          case measure => omega
          case rel =>
            refine ⟨k + 1, by omega, rfl, by go_num, Lib.hid ?_, HB.out.drewN _⟩
            have hxy := HQ.out
            unfold eqE at hxy
            rw [ta.out, tb.out, heq.out, of_decide_eq_true hxy]
      · have hna : ¬ k < a.length := by have := HL.out; omega
        go_wp2
        go_ret
        refine ⟨ret_bool ?_, HB.out⟩
        symm; rw [decide_eq_true_eq]
        have h := heq.out
        have := HL.out
        rwa [List.take_of_length_le (by omega), List.take_of_length_le (by omega)] at h
  · have hd : decide (a = b) = false := decide_eq_false (fun h => hlen (by rw [h]))
    have HD := Lib.hid hd
    clear hd
    go_enter Tryz.func39, Tryz.ntmps39
    go_wp2
    go_ret
    exact ⟨ret_bool HD.out.symm, Bl.refl _⟩

end Go.Proofs.YtddcjekkimajpaaGreat.ExtW

/- Contract of overdublaw18.spots. -/
namespace Go.Proofs.YtddcjekkimajpaaGreat.ExtW
open Go.RowKit Go.Ov Go.Proofs.YtddcjekkimajpaaGreat.Need

/-- small extents -/
def small (e : Ext) : Bool := decide (0 ≤ e.skip) && decide (e.skip ≤ 64) && decide (0 ≤ e.take) && decide (e.take ≤ 64)

end Go.Proofs.YtddcjekkimajpaaGreat.ExtW

/- The walk of overdublaw18.ExtentNothing. -/
namespace Go.Proofs.YtddcjekkimajpaaGreat.ExtW
open Go.RowKit Go.Ov Go.Proofs.YtddcjekkimajpaaGreat.Need

theorem splice_eq (v u : Value) (l new : List Ext) (fr tt : Int) (w : World) (h : extE.Is w v l) (hn : extE.Is w u new) (hv : validFrom 0 l = true) (hlen : new.length * 40 ≤ 100000000000000) {R : List Ext} {c : Int} (hm : spliceM l fr tt new = (R, c)) :
    Calls Tryz.prog 103 #[v, .int .i64 fr, .int .i64 tt, u] w fun e w' => ∃ z, e = .returned (.tuple #[z, .int .i64 c]) ∧ extE.Own 81 w' w.heap.size z R ∧ Bl w w' := by
  have := splice_any v u l new fr tt w h hn hv hlen
  rw [hm] at this; exact this
theorem end_eq (v : Value) (l : List Ext) (w : World) (h : extE.Is w v l) {n : Int} (hm : wrap64 (endM l) = n) :
    Calls Tryz.prog 65 #[v] w fun e w' => e = .returned (.int .i64 n) ∧ Bl w w' := by
  have := end_any v l w h
  rw [hm] at this; exact this

theorem valid_small : ∀ (l : List Ext) (a : Int), validFrom a l = true → ∀ e ∈ l, small e = true
  | [], _, _ => fun e h => by simp at h
  | x :: l, a, hv => by
    obtain ⟨e0, e1, e2, e3, e4, e5, e6, e7, e8, e9⟩ := valid_cons hv
    intro e he
    rcases List.mem_cons.1 he with rfl | he
    · simp [small]; omega
    · exact valid_small l _ e9 e he
theorem valid_len (l : List Ext) (h : validFrom 0 l = true) : l.length ≤ 1000 := by have := validFrom_bd l 0 (by decide) h; omega
theorem shift_zero : ∀ (l : List Ext) (a : Int), 0 ≤ a → a ≤ 1000 → validFrom a l = true → shiftM 0 l = l
  | [], _, _, _, _ => rfl
  | x :: l, a, h0, h1, hv => by
    obtain ⟨e0, e1, e2, e3, e4, e5, e6, e7, e8, e9⟩ := valid_cons hv
    show shiftE 0 x :: shiftM 0 l = x :: l
    rw [shift_zero l (a + x.take) (by omega) e8 e9]
    obtain ⟨x0, x1, x2, x3, x4⟩ := x
    simp only at e0
    simp only [shiftE, Int.add_zero]
    rw [wrap_id (by omega) (by omega)]

/-- what the statement says, of the model -/
theorem nothing_pure (R M : List Ext) (at_ : Int) (hR : validFrom 0 R = true) (hM : validFrom 0 M = true) (h0 : 0 ≤ at_) (h1 : at_ ≤ endM R) :
    spliceM R at_ at_ [] = (spliceL R at_ at_ [], 0) ∧ validFrom 0 (spliceL R at_ at_ []) = true ∧ spotsM (spliceL R at_ at_ []) = spotsM R ∧
    spliceM R 0 (endM R) M = (M, 0) ∧ spliceM R 0 (endM R) [] = ([], 0) ∧ spliceM [] 0 0 M = (M, 0) ∧ spliceM R (endM R + 1) (endM R + 1) [] = ([], 1) ∧ spliceM R 0 (-1) [] = ([], 1) := by
  have b1 := valid_bd R 0 (by decide) hR
  have b2 := valid_bd M 0 (by decide) hM
  have hn : endM [] = 0 := rfl
  have good : ∀ (l : List Ext) (fr tt : Int) (new : List Ext), validFrom 0 new = true → 0 ≤ fr → fr ≤ tt → fr ≤ endM l → fr + endM new + endM l - min tt (endM l) ≤ 1000 → spliceM l fr tt new = (spliceL l fr tt new, 0) := by
    intro l fr tt new h1 h2 h3 h4 h5
    unfold spliceM spliceBad spliceLong
    rw [if_neg (by simp [h1]; omega), if_neg (by simp; omega)]
  have whole : ∀ (l new : List Ext), validFrom 0 l = true → validFrom 0 new = true → spliceL l 0 (endM l) new = new := by
    intro l new hl hn
    unfold spliceL
    rw [cut_nil l 0 0 0 (by decide) hl (by decide), shift_zero new 0 (by decide) (by decide) hn, Int.min_self, cut_nil l 0 _ _ (by decide) hl (by omega)]
    simp [shiftM]
  refine ⟨good _ _ _ _ rfl h0 (Int.le_refl _) h1 (by omega), splice_valid R [] _ _ hR rfl h0 (Int.le_refl _) h1 (by omega), ?_, ?_, ?_, ?_, ?_, ?_⟩
  · rw [splice_spots R [] _ _ hR h0 (Int.le_refl _) h1, Int.min_eq_left h1]
    simp [spotsM]
  · rw [good _ _ _ _ hM (by decide) (by omega) (by omega) (by omega), whole R M hR hM]
  · rw [good _ _ _ _ rfl (by decide) (by omega) (by omega) (by omega), whole R [] hR rfl]
  · rw [good [] 0 0 M hM (by decide) (by decide) (by decide) (by rw [hn]; omega)]; exact congrArg (·, 0) (whole [] M rfl hM)
  · unfold spliceM spliceBad; rw [if_pos (by simp; omega)]
  · unfold spliceM spliceBad; rw [if_pos (by simp)]

end Go.Proofs.YtddcjekkimajpaaGreat.ExtW

/- Contracts of tree.New, From, Splice, Nodes, End, Len. -/
namespace Go.Proofs.YtddcjekkimajpaaGreat.ExtW
open Go.RowKit Go.Ov Go.Proofs.YtddcjekkimajpaaGreat.Need

theorem TreeIs.mk' {w : World} {u : Head} {h : NH} {t : TreeM} {b : Nat} {T : TypeId} (hb : Blk w b #[u.v, h.a.v, h.b.v, h.c.v] T) (h1 : extE.Is w u.v t.row) (h2 : NodeR w t.top h) : TreeIs w (.pointer (some ⟨b, 0, none⟩)) t :=
  ⟨b, u, h, rfl, hb.cell 0, hb.cell 1, hb.cell 2, hb.cell 3, h1, h2⟩
theorem madeM_nil : madeM [] = .nil := by
  unfold madeM
  rw [topM_one _ (by rw [leavesM_len]; decide)]; rfl

set_option maxHeartbeats 1000000 in
theorem tnew_G (w : World) : Calls Tryz.prog 73 #[] w fun e w' => ∃ u, e = .returned u ∧ TreeIs (only w' (fr w)) u (treeM []) ∧ Bl w w' := by
  go_enter Tryz.func73, Tryz.ntmps73
  go_wp2
  go_ret
  refine ⟨_, rfl, TreeIs.mk' (u := nilH) (h := ⟨nilH, nilH, nilH⟩) ((Blk.new _ _ _).only (fr_ge (Nat.le_refl _) (Nat.le_refl _))) (Enc.Is.nil _) ?_, (Bl.refl _).alloc _⟩
  rw [show (treeM []).top = .nil from madeM_nil]
  exact NodeR.mk' (Enc.Is.nil _) (Enc.Is.nil _) (Enc.Is.nil _) (NRows.nil _)
theorem tnew_any (w : World) : Calls Tryz.prog 73 #[] w fun e w' => ∃ u, e = .returned u ∧ TreeIs w' u (treeM []) ∧ Bl w w' :=
  (tnew_G w).mono fun _ w' ⟨u, e, h, hb⟩ => ⟨u, e, (Sub.un w' _).tree h, hb⟩

set_option maxRecDepth 100000 in
set_option maxHeartbeats 1000000 in
theorem tfrom_bad (v : Value) (l : List Ext) (w : World) (h : extE.Is w v l) (hv : validFrom 0 l = false) :
    Calls Tryz.prog 104 #[v] w fun e w' => e = .returned (.tuple #[.pointer none, .int .i64 1]) ∧ Bl w w' := by
  have HL := Lib.hid h
  have HV := Lib.hid hv
  clear h hv
  go_enter Tryz.func104, Tryz.ntmps104
  go_wp2_with fail
  refine (valid_any _ _ _ HL.out).mono ?_
  rintro e w1 ⟨rfl, hb⟩
  rw [HV.out]
  go_wp2_with fail
  go_ret2
  exact ⟨rfl, hb⟩

set_option maxRecDepth 100000 in
set_option maxHeartbeats 1000000 in
theorem tfrom_G (v : Value) (l : List Ext) (w : World) (h : extE.Is w v l) (hv : validFrom 0 l = true) :
    Calls Tryz.prog 104 #[v] w fun e w' => ∃ u, e = .returned (.tuple #[u, .int .i64 0]) ∧ TreeIs (only w' (fr w)) u (treeM l) ∧ Bl w w' := by
  have hlen := valid_len l hv
  have HL := Lib.hid h
  have HV := Lib.hid hv
  clear h hv
  have hu := Tryz.underlying103
  go_enter Tryz.func104, Tryz.ntmps104
  go_wp2_with fail
  refine (valid_any _ _ _ HL.out).mono ?_
  rintro e w1 ⟨rfl, hb⟩
  rw [HV.out]
  have HB := Lib.hid hb
  clear hb
  go_wp2_with fail
  refine (tfresh_any _ _ _ (HL.out.bl HB.out) (by omega)).mono ?_
  rintro e w2 ⟨u, rfl, ho, hb⟩
  have HU := Lib.hid (ho.isM (G := fr w) (fun k hk => fr_ge HB.out.size hk))
  obtain ⟨A, c, rfl⟩ := ho.slice
  replace HB := Lib.hid (HB.out.bl hb)
  clear ho hb
  go_wp2_with fail
  refine (tmade_G _ _ _ (HL.out.bl HB.out) hlen).mono ?_
  rintro e w3 ⟨n, rfl, hn, hb⟩
  have HN := Lib.hid ((Sub.mono (fr_le HB.out.size)).node hn)
  replace HU := Lib.hid (HU.out.bl (hb.only (fr w)))
  replace HB := Lib.hid (HB.out.bl hb)
  clear hn hb
  unfold NH.v
  go_wp2_with fail
  go_ret2
  refine ⟨_, rfl, TreeIs.mk' (u := ⟨A, l.length, c⟩) (h := n) ((Blk.new _ _ _).only (fr_ge HB.out.size (Nat.le_refl _))) (HU.out.bl (((Bl.refl _).alloc _).only (fr w))) (HN.out.bl (((Bl.refl _).alloc _).only (fr w))), HB.out.alloc _⟩
theorem tfrom_ok (v : Value) (l : List Ext) (w : World) (h : extE.Is w v l) (hv : validFrom 0 l = true) :
    Calls Tryz.prog 104 #[v] w fun e w' => ∃ u, e = .returned (.tuple #[u, .int .i64 0]) ∧ TreeIs w' u (treeM l) ∧ Bl w w' :=
  (tfrom_G v l w h hv).mono fun _ w' ⟨u, e, h, hb⟩ => ⟨u, e, (Sub.un w' _).tree h, hb⟩

theorem splice_row_valid {l new : List Ext} {fr tt : Int} (hv : validFrom 0 l = true) (h : (spliceM l fr tt new).2 = 0) : validFrom 0 (spliceM l fr tt new).1 = true := by
  unfold spliceM at *
  by_cases hb : spliceBad l fr tt new = true
  · rw [if_pos hb] at h; simp at h
  · rw [if_neg hb] at h ⊢
    by_cases hl : spliceLong l fr tt new = true
    · rw [if_pos hl] at h; simp at h
    · rw [if_neg hl]
      simp only [spliceBad, Bool.or_eq_true, Bool.not_eq_true', decide_eq_true_eq, not_or, Bool.not_eq_false] at hb
      obtain ⟨⟨⟨h1, h2⟩, h3⟩, h4⟩ := hb
      simp only [spliceLong, decide_eq_true_eq] at hl
      exact splice_valid l new fr tt hv h1 (by omega) (by omega) (by omega) (by omega)

/-- what a splice of a tree gives -/
def SpliceRes (w' : World) (e : Ending) (s : List Ext × Int) : Prop :=
  (s.2 = 0 → ∃ u, e = .returned (.tuple #[u, .int .i64 0]) ∧ TreeIs w' u (treeM s.1)) ∧ (s.2 ≠ 0 → e = .returned (.tuple #[.pointer none, .int .i64 s.2]))
theorem SpliceRes.sub {a b : World} {e : Ending} {s : List Ext × Int} (h : SpliceRes a e s) (hs : Sub a b) : SpliceRes b e s := ⟨fun z => by obtain ⟨u, e, t⟩ := h.1 z; exact ⟨u, e, hs.tree t⟩, h.2⟩

set_option maxRecDepth 100000 in
set_option maxHeartbeats 1000000 in
theorem tsplice_G (v u : Value) (t : TreeM) (new : List Ext) (fr tt : Int) (w : World) (h : TreeIs w v t) (hn : extE.Is w u new) (hv : validFrom 0 t.row = true) (hlen : new.length * 40 ≤ 100000000000000) :
    Calls Tryz.prog 75 #[v, .int .i64 fr, .int .i64 tt, u] w fun e w' => SpliceRes (only w' (Go.Ov.fr w)) e (spliceM t.row fr tt new) ∧ Bl w w' := by
  obtain ⟨b, uh, n, rfl, c0, _, _, _, hl, _⟩ := h
  have HL := Lib.hid hl
  have HN := Lib.hid hn
  have HV := Lib.hid hv
  have HS := Lib.hid (splice_row_valid (new := new) (fr := fr) (tt := tt) hv)
  simp only [Head.v] at c0
  clear hl hn hv
  have hu := Tryz.underlying103
  go_enter Tryz.func75, Tryz.ntmps75
  go_wp2_with fail
  refine (splice_any _ _ t.row new _ _ _ HL.out HN.out HV.out hlen).mono ?_
  rintro e w1 ⟨z, rfl, ho, hb⟩
  have HO := Lib.hid ho
  have HB := Lib.hid hb
  clear ho hb
  by_cases hz : (spliceM t.row fr tt new).2 = 0
  · have hz2 := hz
    rw [hz]
    have HZ := Lib.hid hz
    clear hz hz2
    go_wp2_with fail
    refine (tfrom_G _ _ _ HO.out.is (HS.out HZ.out)).mono ?_
    rintro e w2 ⟨u2, rfl, ht, hb⟩
    have HT := Lib.hid ((Sub.mono (fr_le HB.out.size)).tree ht)
    clear ht
    go_wp2_with fail
    go_ret2
    exact ⟨⟨fun _ => ⟨_, rfl, HT.out⟩, fun h => absurd HZ.out h⟩, HB.out.bl hb⟩
  · generalize hs : (spliceM t.row fr tt new).2 = err at *
    have hz1 : (err == 0) = false := by simpa using hz
    have hz2 : (err != 0) = true := by simpa using hz
    have HZ := Lib.hid hz
    have HE := Lib.hid hs
    clear hz hs
    go_wp2_with fail
    go_ret2
    exact ⟨⟨fun h => absurd (HE.out.symm.trans h) HZ.out, fun _ => by rw [HE.out]; rfl⟩, HB.out⟩
theorem tsplice_any (v u : Value) (t : TreeM) (new : List Ext) (fr tt : Int) (w : World) (h : TreeIs w v t) (hn : extE.Is w u new) (hv : validFrom 0 t.row = true) (hlen : new.length * 40 ≤ 100000000000000) :
    Calls Tryz.prog 75 #[v, .int .i64 fr, .int .i64 tt, u] w fun e w' => SpliceRes w' e (spliceM t.row fr tt new) ∧ Bl w w' :=
  (tsplice_G v u t new fr tt w h hn hv hlen).mono fun _ w' ⟨h, hb⟩ => ⟨h.sub (Sub.un w' _), hb⟩

set_option maxHeartbeats 1000000 in
theorem tend_any (v : Value) (t : TreeM) (w : World) (h : TreeIs w v t) (hv : validFrom 0 t.row = true) :
    Calls Tryz.prog 41 #[v] w fun e w' => e = .returned (.int .i64 (endM t.row)) ∧ Bl w w' := by
  obtain ⟨b, uh, n, rfl, c0, _, _, _, hl, _⟩ := h
  have hb := validFrom_bd t.row 0 (by decide) hv
  have hw : wrap64 (endM t.row) = endM t.row := wrap_id (by omega) (by omega)
  have HL := Lib.hid hl
  have HW := Lib.hid hw
  simp only [Head.v] at c0
  clear hl hv hw
  have hu := Tryz.underlying103
  go_enter Tryz.func41, Tryz.ntmps41
  go_wp2_with fail
  refine (end_any _ _ _ HL.out).mono ?_
  rintro e w1 ⟨rfl, hb⟩
  rw [HW.out]
  go_wp2_with fail
  go_ret
  exact ⟨rfl, hb⟩

def nodesOf : NodeM → Nat
  | .mk [] [] [] => 0
  | n => n.count
theorem nodesOf_eq (l : List Ext) (f : List Int) (p : List NodeM) : nodesOf (.mk l f p) = if isE l.length f.length p.length then 0 else (NodeM.mk l f p).count := by
  cases l <;> cases f <;> cases p <;> simp [nodesOf, isE]

end Go.Proofs.YtddcjekkimajpaaGreat.ExtW
