/- Drawn regions, walked in the few orders that stand for all: operations whose value is the same in every world that meets S go first. -/
import Derived.Deep.RegionHeld3
namespace Go.Ov
open Go

/-- The orders that stand for all. -/
inductive Plan where
  | done
  | stop
  | take (i : Nat) (t : Plan)
  | ev (i : Nat) (t more : Plan)
  deriving Inhabited

section
variable {P : Program} {ops : Array Oper} {Q : Exit → Act → World → Prop} {md : Region.Mode} {S : World → Prop}

/-- The operation with a number, by the list. -/
def nth : List Oper → Nat → Option Oper
  | [], _ => none
  | o :: _, 0 => some o
  | _ :: l, n + 1 => nth l n
theorem nth_eq : ∀ (l : List Oper) (n : Nat), nth l n = l[n]?
  | [], n => by simp [nth]
  | o :: l, 0 => by simp [nth]
  | o :: l, n + 1 => by simp [nth, nth_eq l n]
theorem nth_ops {ops : Array Oper} {i : Nat} {o : Oper} (h : nth ops.toList i = some o) : ops[i]? = some o := by
  rw [nth_eq] at h; simpa using h

/-- 'tk': the operations to be taken ahead of the others where that is free. -/
def ways (md : Region.Mode) (ops : Array Oper) (tk : List Nat) : Nat → Array Bool → Option Plan
  | 0, listed => if (Region.ready md ops listed).isEmpty then some .done else none
  | fuel + 1, listed =>
    let rs := Region.ready md ops listed
    if rs.isEmpty then some .done else
    match rs.find? (fun i => tk.contains i && Region.free md ops listed i) with
    | some i => (ways md ops tk fuel (listed.setIfInBounds i true)).map (.take i)
    | none => rs.foldr (fun i acc => match ways md ops tk fuel (listed.setIfInBounds i true), acc with
        | some t, some m => some (.ev i t m)
        | _, _ => none) (some .stop)

/-- The walk along these orders. -/
def wpWay (P : Program) (ops : Array Oper) (Q : Exit → Act → World → Prop) (S : World → Prop) : Plan → Act → World → Prop
  | .done, a, w => Q .normal a w
  | .stop, _, _ => True
  | .take i t, a, w => ∃ o v, ops[i]? = some o ∧ YieldsIf P ops S o v a ∧ wpWay P ops Q S t (a.put o.dst v) w
  | .ev i t m, a, w => wpOp P ops Q i (fun a' w' => S w' ∧ wpWay P ops Q S t a' w') a w ∧ wpWay P ops Q S m a w

theorem ways_sound (hs : Region.noSelect ops = true) (hQ : ∀ c a w, ¬ Q (.panic c) a w) (tk : List Nat) : ∀ (fuel : Nat) (listed : Array Bool) (y : Plan) (a : Act) (w : World),
    ways md ops tk fuel listed = some y → S w → wpWay P ops Q S y a w → wpAnyH P md ops Q S fuel listed a w
  | 0, listed, y, a, w, hy, _, h => by
    unfold ways at hy
    split at hy
    · rename_i he
      cases hy
      exact ⟨by simpa using he, h⟩
    · cases hy
  | fuel + 1, listed, y, a, w, hy, hS, h => by
    unfold ways at hy
    simp only at hy
    split at hy
    · rename_i he
      cases hy
      exact wpAnyH_done (by simpa using he) h _
    · split at hy
      · rename_i i hi
        have hm := List.mem_of_find?_eq_some hi
        have hf := List.find?_some hi
        simp only [Bool.and_eq_true] at hf
        cases ht : ways md ops tk fuel (listed.setIfInBounds i true) with
        | none => rw [ht] at hy; cases hy
        | some t =>
          rw [ht] at hy
          cases hy
          obtain ⟨o, v, ho, hyi, hr⟩ := h
          exact wpAnyH_take ho hs hf.2 (by simpa using hm) (fun c a w hp => (hQ _ _ _ hp).elim) hyi hS (ways_sound hs hQ tk fuel _ _ _ _ ht hS hr)
      · refine wpAnyH_all rfl (by intro h0; simp_all) ?_
        have key : ∀ (rs : List Nat) (y : Plan), rs.foldr (fun i acc => match ways md ops tk fuel (listed.setIfInBounds i true), acc with
            | some t, some m => some (Plan.ev i t m)
            | _, _ => none) (some .stop) = some y → wpWay P ops Q S y a w →
            ∀ i ∈ rs, wpOp P ops Q i (fun a' w' => S w' ∧ wpAnyH P md ops Q S fuel (listed.setIfInBounds i true) a' w') a w := by
          intro rs
          induction rs with
          | nil => intro _ _ _ i hi; cases hi
          | cons r rs ih =>
            intro y hy h i hi
            rw [List.foldr_cons] at hy
            cases ht : ways md ops tk fuel (listed.setIfInBounds r true) with
            | none => rw [ht] at hy; cases hy
            | some t =>
              rw [ht] at hy
              split at hy
              · rename_i t' m htt hm
                cases htt
                cases hy
                rcases List.mem_cons.1 hi with rfl | hi
                · exact wpOp_mono (fun a' w' hw => ⟨hw.1, ways_sound hs hQ tk fuel _ _ _ _ ht hw.1 hw.2⟩) h.1
                · exact ih m hm h.2 i hi
              · cases hy
        exact key _ _ hy h

theorem NoPanic.not (Q : Exit → Act → World → Prop) (c : List PanicEntry) (a : Act) (w : World) : ¬ NoPanic Q (.panic c) a w := fun h => h

theorem wp_region_ways {id : Nat} {a : Act} {w : World} (tk : List Nat) {y : Plan} (hm : P.follows .mixedOrders = true) (hs : Region.noSelect ops = true)
    (hy : ways .any ops tk ops.size (Array.replicate ops.size false) = some y) (hS : S w.drew)
    (h : S w.drew → wpWay P ops (NoPanic Q) S y a w.drew) : (Code.region id ops true).wp P Q a w :=
  wp_region_noPanic (wp_region_held_drew hm hS fun hS => ways_sound hs (NoPanic.not Q) tk _ _ _ _ _ hy hS (h hS))

theorem wpWay_done {a : Act} {w : World} (h : Q .normal a w) : wpWay P ops (NoPanic Q) S .done a w := h
theorem wpWay_take {i : Nat} {t : Plan} {a : Act} {w : World} {o : Oper} {v : Value} (ho : nth ops.toList i = some o) (hw : Region.wanted o (yielded ops a.tmps) = true)
    (hv : ∀ w, S w → (execOp a.eval o).run P w = .ok (.value v) w) (h : wpWay P ops Q S t (a.put o.dst v) w) : wpWay P ops Q S (.take i t) a w :=
  ⟨o, v, nth_ops ho, .inl ⟨hw, hv⟩, h⟩
theorem wpWay_skip {i : Nat} {t : Plan} {a : Act} {w : World} {o : Oper} (ho : nth ops.toList i = some o) (hw : Region.wanted o (yielded ops a.tmps) = false)
    (h : wpWay P ops Q S t (a.put o.dst undef) w) : wpWay P ops Q S (.take i t) a w :=
  ⟨o, undef, nth_ops ho, .inr ⟨hw, rfl⟩, h⟩
theorem wpWay_stop {a : Act} {w : World} : wpWay P ops Q S .stop a w := trivial
theorem wpWay_pass {i : Nat} {t m : Plan} {a : Act} {w : World} {o : Oper} (ho : nth ops.toList i = some o) (hw : Region.wanted o (yielded ops a.tmps) = false)
    (hS : S w) (h : wpWay P ops Q S t (a.put o.dst undef) w) (hm : wpWay P ops Q S m a w) : wpWay P ops Q S (.ev i t m) a w :=
  ⟨by unfold wpOp; simp only [nth_ops ho, hw]; exact ⟨hS, h⟩, hm⟩

theorem Oper.wp_imp {o : Oper} {a : Act} {w : World} {K K' : Act → World → Prop} {Q' : Exit → Act → World → Prop} (h : ∀ a w, K a w → K' a w)
    (hp : ∀ c a w, Q (.panic c) a w → Q' (.panic c) a w) (hl : LetsOut Q → LetsOut Q')
    (hh : o.wp P a w K Q) : o.wp P a w K' Q' := by
  unfold Oper.wp at *
  generalize (execOp a.eval o).run P w = r at *
  cases r with
  | ok n w' =>
    cases n <;> simp only [Oper.upon] at hh ⊢ <;>
      first
        | exact h _ _ hh
        | exact Calls.mono hh (fun e w'' he => by cases e <;> first | exact h _ _ he | exact hp _ _ _ he | exact hl he)
        | exact Rows.mono hh (fun _ _ he => h _ _ he)
  | halt x w' => cases x <;> simp only [Oper.upon] at hh ⊢ <;> exact hp _ _ _ hh

/-- An event is walked as a list of one operation. -/
theorem wpWay_ev {i : Nat} {t m : Plan} {a : Act} {w : World} {o : Oper} (ho : nth ops.toList i = some o)
    (h : ∀ K : Exit → Act → World → Prop, (∀ a' w', S w' ∧ wpWay P ops Q S t a' w' → K .normal a' w') → wpList P ops K [o] a w)
    (hm : wpWay P ops Q S m a w) : wpWay P ops Q S (.ev i t m) a w := by
  refine ⟨?_, hm⟩
  have h1 := h (fun e a' w' => match e with | .normal => S w' ∧ wpWay P ops Q S t a' w' | _ => False) (fun a' w' h => h)
  unfold wpOp
  simp only [nth_ops ho]
  unfold wpList at h1
  split
  · rename_i hw
    simp only [hw, if_true] at h1
    rcases h1 with h1 | ⟨_, a0, w0, h0⟩
    · exact .inl (Oper.wp_imp (fun a w h => h) (fun c a w h => h.elim) (fun ⟨_, _, h⟩ => h.elim) h1)
    · exact h0.elim
  · rename_i hw
    simp only [hw] at h1
    exact h1

end
end Go.Ov
