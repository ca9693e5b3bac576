/- Drawn regions, walked in the few orders that stand for all: operations whose value is the same in every world that meets S go first. -/
import Derived.Deep.RegionHeld3
import Derived.Lib.Hide
namespace Go.Ov
open Go

/-- The orders that stand for all. -/
inductive Way where
  | done
  | stop
  | take (i : Nat) (t : Way)
  | ev (i : Nat) (t more : Way)
  deriving Repr, Inhabited

section
variable {P : Program} {ops : Array Oper} {Q : Exit → Act → World → Prop} {md : Region.Mode} {S : World → Prop}

/-- 'tk': the operations to be taken ahead of the others where that is free. -/
def ways (md : Region.Mode) (ops : Array Oper) (tk : List Nat) : Nat → Array Bool → Option Way
  | 0, listed => if (Region.ready md ops listed).isEmpty then some .done else none
  | fuel + 1, listed =>
    let rs := Region.ready md ops listed
    if rs.isEmpty then some .done else
    match rs.find? (fun i => tk.contains i && Region.free md ops listed i) with
    | some i => (ways md ops tk fuel (listed.setIfInBounds i true)).map (.take i)
    | none => rs.foldr (fun i acc => match ways md ops tk fuel (listed.setIfInBounds i true), acc with
        | some t, some m => some (.ev i t m)
        | _, _ => none) (some .stop)

/-- The walk along these orders. -/
def wpWay (P : Program) (ops : Array Oper) (Q : Exit → Act → World → Prop) (S : World → Prop) : Way → Act → World → Prop
  | .done, a, w => Q .normal a w
  | .stop, _, _ => True
  | .take i t, a, w => ∃ o v, ops[i]? = some o ∧ YieldsIf P ops S o v a ∧ wpWay P ops Q S t (a.put o.dst v) w
  | .ev i t m, a, w => wpOp P ops Q i (fun a' w' => S w' ∧ wpWay P ops Q S t a' w') a w ∧ wpWay P ops Q S m a w

theorem ways_sound (hs : Region.noSelect ops = true) (hQ : ∀ c a w, ¬ Q (.panic c) a w) (tk : List Nat) : ∀ (fuel : Nat) (listed : Array Bool) (y : Way) (a : Act) (w : World),
    ways md ops tk fuel listed = some y → S w → wpWay P ops Q S y a w → wpAnyH P md ops Q S fuel listed a w
  | 0, listed, y, a, w, hy, _, h => by
    unfold ways at hy
    split at hy
    · rename_i he
      cases hy
      exact ⟨by simpa using he, h⟩
    · cases hy
  | fuel + 1, listed, y, a, w, hy, hS, h => by
    unfold ways at hy
    simp only at hy
    split at hy
    · rename_i he
      cases hy
      exact wpAnyH_done (by simpa using he) h _
    · split at hy
      · rename_i i hi
        have hm := List.mem_of_find?_eq_some hi
        have hf := List.find?_some hi
        simp only [Bool.and_eq_true] at hf
        cases ht : ways md ops tk fuel (listed.setIfInBounds i true) with
        | none => rw [ht] at hy; cases hy
        | some t =>
          rw [ht] at hy
          cases hy
          obtain ⟨o, v, ho, hyi, hr⟩ := h
          exact wpAnyH_take ho hs hf.2 (by simpa using hm) (fun c a w hp => (hQ _ _ _ hp).elim) hyi hS (ways_sound hs hQ tk fuel _ _ _ _ ht hS hr)
      · refine wpAnyH_all rfl (by intro h0; simp_all) ?_
        have key : ∀ (rs : List Nat) (y : Way), rs.foldr (fun i acc => match ways md ops tk fuel (listed.setIfInBounds i true), acc with
            | some t, some m => some (Way.ev i t m)
            | _, _ => none) (some .stop) = some y → wpWay P ops Q S y a w →
            ∀ i ∈ rs, wpOp P ops Q i (fun a' w' => S w' ∧ wpAnyH P md ops Q S fuel (listed.setIfInBounds i true) a' w') a w := by
          intro rs
          induction rs with
          | nil => intro _ _ _ i hi; cases hi
          | cons r rs ih =>
            intro y hy h i hi
            rw [List.foldr_cons] at hy
            cases ht : ways md ops tk fuel (listed.setIfInBounds r true) with
            | none => rw [ht] at hy; cases hy
            | some t =>
              rw [ht] at hy
              split at hy
              · rename_i t' m htt hm
                cases htt
                cases hy
                rcases List.mem_cons.1 hi with rfl | hi
                · exact wpOp_mono (fun a' w' hw => ⟨hw.1, ways_sound hs hQ tk fuel _ _ _ _ ht hw.1 hw.2⟩) h.1
                · exact ih m hm h.2 i hi
              · cases hy
        exact key _ _ hy h

theorem NoPanic.not (Q : Exit → Act → World → Prop) (c : List PanicEntry) (a : Act) (w : World) : ¬ NoPanic Q (.panic c) a w := fun h => h

theorem wp_region_ways {id : Nat} {a : Act} {w : World} (tk : List Nat) {y : Way} (hm : P.follows .mixedOrders = true) (hs : Region.noSelect ops = true)
    (hy : ways .any ops tk ops.size (Array.replicate ops.size false) = some y) (hS : S w.drew)
    (h : S w.drew → wpWay P ops (NoPanic Q) S y a w.drew) : (Code.region id ops true).wp P Q a w :=
  wp_region_noPanic (wp_region_held_drew hm hS fun hS => ways_sound hs (NoPanic.not Q) tk _ _ _ _ _ hy hS (h hS))

theorem wpWay_done {a : Act} {w : World} (h : Q .normal a w) : wpWay P ops (NoPanic Q) S .done a w := h
theorem wpWay_take {i : Nat} {t : Way} {a : Act} {w : World} {o : Oper} {v : Value} (ho : ops[i]? = some o) (hw : Region.wanted o (yielded ops a.tmps) = true)
    (hv : ∀ w, S w → (execOp a.eval o).run P w = .ok (.value v) w) (h : wpWay P ops Q S t (a.put o.dst v) w) : wpWay P ops Q S (.take i t) a w :=
  ⟨o, v, ho, .inl ⟨hw, hv⟩, h⟩
theorem wpWay_skip {i : Nat} {t : Way} {a : Act} {w : World} {o : Oper} (ho : ops[i]? = some o) (hw : Region.wanted o (yielded ops a.tmps) = false)
    (h : wpWay P ops Q S t (a.put o.dst undef) w) : wpWay P ops Q S (.take i t) a w :=
  ⟨o, undef, ho, .inr ⟨hw, rfl⟩, h⟩
theorem wpWay_stop {a : Act} {w : World} : wpWay P ops Q S .stop a w := trivial
theorem wpWay_pass {i : Nat} {t m : Way} {a : Act} {w : World} {o : Oper} (ho : ops[i]? = some o) (hw : Region.wanted o (yielded ops a.tmps) = false)
    (hS : S w) (h : wpWay P ops Q S t (a.put o.dst undef) w) (hm : wpWay P ops Q S m a w) : wpWay P ops Q S (.ev i t m) a w :=
  ⟨by unfold wpOp; simp only [ho, hw]; exact ⟨hS, h⟩, hm⟩

theorem Oper.wp_imp {o : Oper} {a : Act} {w : World} {K K' : Act → World → Prop} {Q' : Exit → Act → World → Prop} (h : ∀ a w, K a w → K' a w)
    (hp : ∀ c a w, Q (.panic c) a w → Q' (.panic c) a w) (hl : LetsOut Q → LetsOut Q')
    (hh : o.wp P a w K Q) : o.wp P a w K' Q' := by
  unfold Oper.wp at *
  generalize (execOp a.eval o).run P w = r at *
  cases r with
  | ok n w' =>
    cases n <;> simp only [Oper.upon] at hh ⊢ <;>
      first
        | exact h _ _ hh
        | exact Calls.mono hh (fun e w'' he => by cases e <;> first | exact h _ _ he | exact hp _ _ _ he | exact hl he)
        | exact Rows.mono hh (fun _ _ he => h _ _ he)
  | halt x w' => cases x <;> simp only [Oper.upon] at hh ⊢ <;> exact hp _ _ _ hh

/-- An event is walked as a list of one operation. -/
theorem wpWay_ev {i : Nat} {t m : Way} {a : Act} {w : World} {o : Oper} (ho : ops[i]? = some o)
    (h : ∀ K : Exit → Act → World → Prop, (∀ a' w', S w' ∧ wpWay P ops Q S t a' w' → K .normal a' w') → wpList P ops K [o] a w)
    (hm : wpWay P ops Q S m a w) : wpWay P ops Q S (.ev i t m) a w := by
  refine ⟨?_, hm⟩
  have h1 := h (fun e a' w' => match e with | .normal => S w' ∧ wpWay P ops Q S t a' w' | _ => False) (fun a' w' h => h)
  unfold wpOp
  simp only [ho]
  unfold wpList at h1
  split
  · rename_i hw
    simp only [hw, if_true] at h1
    rcases h1 with h1 | ⟨_, a0, w0, h0⟩
    · exact .inl (Oper.wp_imp (fun a w h => h) (fun c a w h => h.elim) (fun ⟨_, _, h⟩ => h.elim) h1)
    · exact h0.elim
  · rename_i hw
    simp only [hw] at h1
    exact h1

end

open Lean Elab Tactic Meta

unsafe def evalWayImpl (e : Lean.Expr) : MetaM (Option Way) := Lean.Meta.evalExpr (Option Way) (mkApp (mkConst ``Option [.zero]) (mkConst ``Way)) e
@[implemented_by evalWayImpl] opaque evalWay (e : Lean.Expr) : MetaM (Option Way)

def Way.toExpr : Way → Lean.Expr
  | .done => mkConst ``Way.done
  | .stop => mkConst ``Way.stop
  | .take i t => mkApp2 (mkConst ``Way.take) (mkNatLit i) t.toExpr
  | .ev i t m => mkApp3 (mkConst ``Way.ev) (mkNatLit i) t.toExpr m.toExpr

def Way.words : Way → String
  | .done => "."
  | .stop => ""
  | .take i t => s!" {i}" ++ t.words
  | .ev i t .stop => s!" [{i}]" ++ t.words
  | .ev i t m => s!" <[{i}]" ++ t.words ++ " |" ++ m.words ++ ">"

def opsOf (ops : Lean.Expr) : Array Lean.Expr := Id.run do
  let mut l := ops.getArg! 1
  let mut r := #[]
  while l.isAppOfArity ``List.cons 3 do
    r := r.push (l.getArg! 1)
    l := l.getArg! 2
  return r

/-- The slots that hold something written out, for a message. -/
def slotsOf (a : Lean.Expr) : MessageData := Id.run do
  unless a.isAppOfArity ``Act.mk 2 do return m!"{a}"
  let mut r : MessageData := m!""
  let es := opsOf (a.getArg! 0)
  for h : i in [0:es.size] do
    let e := es[i]
    unless e.isFVar || e.isConstOf ``undef do r := m!"{r} t{i}={e}"
  return r

/-- What is tried first: what looks at no memory; with 'loads', the loads too. -/
def takes (ops : Array Lean.Expr) (loads : Bool) : List Nat := Id.run do
  let mut r := []
  for h : i in [0:ops.size] do
    let o := ops[i]
    unless o.isAppOfArity ``Oper.mk 6 do continue
    let op := o.getArg! 1
    match op.getAppFn.constName? with
    | some n =>
      if worldless.contains n || (loads && n == ``Op.load) then r := i :: r
      else if n == ``Op.call && (op.find? (fun e => e.isConstOf ``Builtin.len || e.isConstOf ``Builtin.cap || e.isConstOf ``Builtin.min || e.isConstOf ``Builtin.max)).isSome then r := i :: r
    | none => pure ()
  return r.reverse

macro "way_put" : tactic => `(tactic| try simp only [Act.put, List.setIfInBounds_toArray, List.set_cons_zero, List.set_cons_succ])

partial def wayWalk (keep tac : TSyntax `tactic) (tell : Bool) : TacticM Unit := Tactic.withoutRecover <| withMainContext do
  let t := (← instantiateMVars (← getMainTarget)).consumeMData
  unless t.isAppOfArity ``wpWay 7 do throwError "go_ways: the goal is no 'wpWay':\n{t}"
  let args := t.getAppArgs
  let y := args[4]!
  let ops := opsOf args[1]!
  if y.isAppOf ``Way.done then
    evalTactic (← `(tactic| refine wpWay_done ?_))
  else if y.isAppOf ``Way.take then
    let i := (y.getArg! 0).nat?.getD ((y.getArg! 0).rawNatLit?.getD 0)
    let oStx ← Term.exprToSyntax ops[i]!
    let s ← saveState
    try
      Tactic.withoutRecover <| evalTactic (← `(tactic| refine wpWay_take (o := $oStx) (v := ?_) rfl (by rfl) ?_ ?_))
      let [_, hy, rest] ← getGoals | throwError "three goals expected"
      setGoals [hy]
      evalTactic (← `(tactic| (intro w hSw; (try dsimp only at hSw); go_simp)))
      unless (← getGoals).isEmpty do evalTactic (← `(tactic| with_reducible rfl))
      unless (← getGoals).isEmpty do throwError "not closed"
      setGoals [rest]
    catch e =>
      s.restore
      try Tactic.withoutRecover <| evalTactic (← `(tactic| refine wpWay_skip (o := $oStx) rfl (by rfl) ?_))
      catch _ => throwError "go_ways: operation {i} can be neither taken nor passed over: {slotsOf args[5]!}\n{((← e.toMessageData.toString).take 300).toString}"
    evalTactic (← `(tactic| way_put))
    wayWalk keep tac tell
  else if y.isAppOf ``Way.ev then
    let i := (y.getArg! 0).nat?.getD ((y.getArg! 0).rawNatLit?.getD 0)
    let more := (y.getArg! 2)
    let oStx ← Term.exprToSyntax ops[i]!
    let s ← saveState
    let passed ← try
        Tactic.withoutRecover <| evalTactic (← `(tactic| refine wpWay_pass (o := $oStx) rfl (by rfl) (by assumption) ?rest ?more))
        pure true
      catch _ => s.restore; pure false
    let mut left : List MVarId := []
    let mut mg : Option MVarId := none
    if passed then
      let gs ← getGoals
      let [r, m] := gs | throwError "go_ways: two goals expected"
      mg := some m
      setGoals [r]
      evalTactic (← `(tactic| way_put))
      wayWalk keep tac tell
      left := ← getGoals
    else
      evalTactic (← `(tactic| refine wpWay_ev (o := $oStx) rfl (fun K hK => ?_) ?_))
      let [st, m] ← getGoals | throwError "go_ways: two goals expected"
      mg := some m
      setGoals [st]
      if tell then logInfo m!"go_ways: operation {i}"
      evalTactic (← `(tactic| go_wp2_with ($tac:tactic)))
      let gs ← getGoals
      let mut out : List MVarId := []
      for g in gs do
        setGoals [g]
        let t ← g.withContext do pure (← instantiateMVars (← g.getType)).consumeMData
        if t.isAppOf ``wpWay then
          wayWalk keep tac tell
        else
          unless t.isAppOf ``And do throwError "go_ways: operation {i} has not run to its end:\n{t}"
          evalTactic (← `(tactic| refine ⟨?_, ?_⟩))
          let [hS, rest] ← getGoals | throwError "go_ways: two goals expected behind the step"
          let name := `hHeld
          let ty ← hS.withContext do instantiateMVars (← hS.getType)
          setGoals [hS]
          evalTactic (← `(tactic| (try dsimp only)))
          unless (← getUnsolvedGoals).isEmpty do
            try evalTactic keep
            catch e => throwError "go_ways: behind operation {i} S could not be shown:\n{ty}\n{e.toMessageData}"
          unless (← getUnsolvedGoals).isEmpty do throwError "go_ways: behind operation {i} S is not shown:\n{ty}"
          let rest ← rest.withContext do
            let r ← rest.assert name ty (mkMVar hS)
            let (_, r) ← r.intro1P
            pure r
          setGoals [rest]
          wayWalk keep tac tell
        out := out ++ (← getGoals)
      left := out
    match mg with
    | some m =>
      setGoals [m]
      if more.isAppOf ``Way.stop then evalTactic (← `(tactic| exact wpWay_stop)) else wayWalk keep tac tell
      setGoals (left ++ (← getGoals))
    | none => pure ()
  else if y.isAppOf ``Way.stop then evalTactic (← `(tactic| exact wpWay_stop))
  else throwError "go_ways: what way is this?\n{y}"

def waysStart (loads : Bool) (S : TSyntax `term) (keep tac : TSyntax `tactic) (tell : Bool) : TacticM Unit := withMainContext do
  let t := (← instantiateMVars (← getMainTarget)).consumeMData
  unless t.isAppOf ``Code.wp && (t.getAppArgs[1]!).isAppOf ``Code.region do throwError "go_ways: the goal is no region"
  if tac.raw.hasMissing || keep.raw.hasMissing || S.raw.hasMissing then throwError "go_ways: an argument did not parse"
  let ops := (t.getAppArgs[1]!).getArg! 1
  let tk := takes (opsOf ops) loads
  let tkE := Lean.toExpr tk
  let n := (opsOf ops).size
  let call := mkAppN (mkConst ``ways) #[mkConst ``Region.Mode.any, ops, tkE, mkNatLit n, mkApp3 (mkConst ``Array.replicate [.zero]) (mkConst ``Bool) (mkNatLit n) (mkConst ``Bool.false)]
  let some y ← evalWay call | throwError "go_ways: no way found"
  if tell then logInfo m!"go_ways:{y.words}"
  let yS ← Term.exprToSyntax y.toExpr
  let tkS ← Term.exprToSyntax tkE
  evalTactic (← `(tactic| refine wp_region_ways (S := $S) $tkS (y := $yS) (by kernel_rfl) (by kernel_rfl) (by kernel_rfl) ?_ (fun hHeld => ?_)))
  let [hS, rest] ← getGoals | throwError "go_ways: two goals expected at the beginning"
  setGoals [hS]
  evalTactic (← `(tactic| (try dsimp only)))
  unless (← getUnsolvedGoals).isEmpty do evalTactic keep
  unless (← getUnsolvedGoals).isEmpty do throwError "go_ways: S could not be shown at the beginning"
  setGoals [rest]
  wayWalk keep tac tell

/-- S; how it is shown anew; the arms for calls. Loads are events here. -/
elab "go_ways " S:term:max ppSpace "(" keep:tactic ")" ppSpace "(" tac:tactic ")" : tactic => waysStart false S keep tac false
elab "go_ways? " S:term:max ppSpace "(" keep:tactic ")" ppSpace "(" tac:tactic ")" : tactic => waysStart false S keep tac true
/-- The same, and the loads go first: S must give what they read. -/
elab "go_waysL " S:term:max ppSpace "(" keep:tactic ")" ppSpace "(" tac:tactic ")" : tactic => waysStart true S keep tac false
elab "go_waysL? " S:term:max ppSpace "(" keep:tactic ")" ppSpace "(" tac:tactic ")" : tactic => waysStart true S keep tac true

/-- Each fact 'Hid (..)' that 'H.out.bl hb' carries to the new world is replaced by the carried one; then hb goes. -/
elab "go_carry " hb:ident : tactic => withMainContext do
  for d in ← getLCtx do
    if d.isImplementationDetail || d.userName.hasMacroScopes then continue
    let ty := (← instantiateMVars d.type).consumeMData
    if ty.isAppOf ``Go.RowKit.Hid then
      let n := mkIdent d.userName
      let s ← saveState
      try Tactic.withoutRecover (evalTactic (← `(tactic| replace $n := Go.Lib.hid (Go.RowKit.Hid.out $n |>.bl $hb))))
      catch _ => s.restore
  evalTactic (← `(tactic| clear $hb))

end Go.Ov
