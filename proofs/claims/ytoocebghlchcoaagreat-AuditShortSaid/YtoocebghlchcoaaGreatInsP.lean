/- What an insertion leaves in a block, in plain words; the runs of copy and overlaps that it takes. No program in sight. -/
import Derived.Test.YtoocebghlchcoaaGreatLibRow
namespace Go.Ov
open Go.RowKit

theorem addr_add (g o j : Nat) : (⟨g, o, none⟩ : Addr).add j = ⟨g, o + j, none⟩ := by unfold Addr.add; split <;> simp_all
theorem addr_add0 (g j : Nat) : (⟨g, 0, none⟩ : Addr).add j = ⟨g, j, none⟩ := by rw [addr_add, Nat.zero_add]
/-- cells laid over a list from a place on -/
def lay {α : Type} (L : List α) (o : Nat) (cs : List α) : List α := L.take o ++ cs ++ L.drop (o + cs.length)
theorem lay_len {α : Type} (L : List α) (o : Nat) (cs : List α) (h : o + cs.length ≤ L.length) : (lay L o cs).length = L.length := by simp [lay]; omega
theorem lay_take {α : Type} (L : List α) (o : Nat) (cs : List α) (h : o ≤ L.length) : (lay L o cs).take o = L.take o := by
  unfold lay
  rw [List.append_assoc, List.take_append_of_le_length (by rw [List.length_take]; omega), List.take_take, Nat.min_self]
theorem lay_upto {α : Type} (L : List α) (o : Nat) (cs : List α) (h : o ≤ L.length) : (lay L o cs).take (o + cs.length) = L.take o ++ cs := by
  unfold lay
  rw [List.take_append_of_le_length (by simp; omega), List.take_of_length_le (by simp; omega)]
theorem lay_drop {α : Type} (L : List α) (o : Nat) (cs : List α) (h : o ≤ L.length) : (lay L o cs).drop (o + cs.length) = L.drop (o + cs.length) := by
  unfold lay
  rw [List.drop_append_of_le_length (by simp; omega), List.drop_of_length_le (by simp; omega), List.nil_append]
/-- first X at a, then D behind it -/
theorem lay_two {α : Type} (L X D : List α) (a : Nat) (h : a + X.length + D.length ≤ L.length) :
    (lay (lay L a X) (a + X.length) D).take (a + X.length + D.length) = L.take a ++ X ++ D := by
  rw [lay_upto _ _ _ (by rw [lay_len _ _ _ (by omega)]; omega), lay_upto _ _ _ (by omega)]
/-- first D behind a gap, then X into the gap -/
theorem lay_gap {α : Type} (L X D : List α) (a : Nat) (h : a + X.length + D.length ≤ L.length) :
    (lay (lay L (a + X.length) D) a X).take (a + X.length + D.length) = L.take a ++ X ++ D := by
  have h1 : (lay L (a + X.length) D).length = L.length := lay_len _ _ _ h
  have h2 : (lay L (a + X.length) D).take a = L.take a := by
    have := congrArg (List.take a) (lay_take L (a + X.length) D (by omega))
    rwa [List.take_take, List.take_take, Nat.min_eq_left (by omega)] at this
  rw [List.take_add, lay_upto _ _ _ (by omega), lay_drop _ _ _ (by omega), h2]
  congr 1
  have h3 := lay_upto L (a + X.length) D (by omega)
  have h4 := congrArg (List.drop (a + X.length)) h3
  rw [List.drop_take] at h4
  rw [show a + X.length + D.length - (a + X.length) = D.length by omega] at h4
  rw [h4, List.drop_append_of_le_length (by rw [List.length_take]; omega), List.drop_of_length_le (by rw [List.length_take]; omega), List.nil_append]

section
variable {P : Program}
theorem run_copyK (w : World) (dT sT ty elem : TypeId) (k g o dLen dCap : Nat) (a : Addr) (sLen sCap : Nat) (cur : List Value) (t : TypeId) (cs : List Value)
    (hu : P.underlying dT = some (.slice elem)) (hs : (P.info? elem).map (·.size) = some k)
    (hg : w.heap[g]? = some (.cells cur.toArray t (0, 0))) (hn : cs.length = Nat.min sLen dLen * k)
    (hsrc : ∀ j v, cs[j]? = some v → w.cell? (a.add j) = some v) (hfit : o + cs.length ≤ cur.length) (h1 : ∀ v ∈ cs, v.oneCell' = true) :
    (Builtin.copy_ #[dT, sT] ty #[.slice (some ⟨g, o, none⟩) dLen dCap, .slice (some a) sLen sCap]).run P w =
      .ok (goInt (Nat.min sLen dLen)) (w.setRow g (lay cur o cs).toArray) := by
  have := run_copy_rowK (P := P) w dT sT ty elem k g o dLen dCap a sLen sCap cur.toArray t cs hu hs hg hn hsrc (by simpa using hfit) h1
  simpa [lay] using this

theorem wpList_append_run {w w' : World} {ops : Array Oper} {rest : List Oper} {o : Oper} {a : Act} {Q : Exit → Act → World → Prop} (hgd : o.guard = none) (s x : Operand) (t tn : TypeId)
    (ho : o.op = .call { callee := .builtin .append, args := #[s, x], argTypes := #[t, tn] }) (vs vx r : Value) (hs : a.eval s = vs) (hx : a.eval x = vx)
    (hr : (Builtin.append_ #[t, tn] o.type #[vs, vx]).run P w = .ok r w') (h : wpList P ops Q rest (a.put o.dst r) w') : wpList P ops Q (o :: rest) a w := by
  refine wpList_plain hgd fun K hK => ?_
  unfold Oper.wp execOp
  simp only [ho, resolve, invoke, builtin, Sem.run_bind, Sem.run_pure, Result.andThen_ok, List.map_toArray, List.map_cons, List.map_nil, hs, hx, hr]
  exact hK _ _ h
end
end Go.Ov
