/- Extents as data: the model's rows of extents, the document's functions on them. No program in sight. -/
import Derived.Test.YtoocebghlchcoaaGreatLib
import Derived.Lib.MinMax
namespace Go.Ov
open Go.RowKit

structure Ext where
  at_ : Int
  sector : Int
  count : Int
  skip : Int
  take : Int
  deriving DecidableEq

def Ext.vals (e : Ext) : List Value := [.int .i64 e.at_, .int .i64 e.sector, .int .i64 e.count, .int .i64 e.skip, .int .i64 e.take]
def Ext.v (e : Ext) : Value := .agg #[.int .i64 e.at_, .int .i64 e.sector, .int .i64 e.count, .int .i64 e.skip, .int .i64 e.take]
def extE : Enc Ext := ⟨5, Ext.vals, fun _ => rfl, fun x u h => by simp [Ext.vals] at h; rcases h with rfl | rfl | rfl | rfl | rfl <;> rfl⟩
instance : Inhabited Ext := ⟨⟨0, 0, 0, 0, 0⟩⟩

theorem add_at (ad : Addr) (m j : Nat) (hj : 0 < j) : ad.add (m + j) = ⟨(ad.add m).block, (ad.add m).off + j, none⟩ := by
  unfold Addr.add
  rw [if_neg (by omega)]
  split
  · rename_i h; subst h; simp
  · simp [Nat.add_assoc]

theorem ext_at {w : World} {A : Option Addr} {xs : List Ext} (h : extE.At w A xs) (k : Nat) (hk : k < xs.length) :
    ∃ ad, A = some ad ∧ w.cell? (ad.add (k * 5)) = some (.int .i64 xs[k].at_) ∧ w.cell? ⟨(ad.add (k * 5)).block, (ad.add (k * 5)).off + 1, none⟩ = some (.int .i64 xs[k].sector) ∧
      w.cell? ⟨(ad.add (k * 5)).block, (ad.add (k * 5)).off + 2, none⟩ = some (.int .i64 xs[k].count) ∧ w.cell? ⟨(ad.add (k * 5)).block, (ad.add (k * 5)).off + 3, none⟩ = some (.int .i64 xs[k].skip) ∧
      w.cell? ⟨(ad.add (k * 5)).block, (ad.add (k * 5)).off + 4, none⟩ = some (.int .i64 xs[k].take) := by
  obtain ⟨ad, e, hc⟩ := h k _ (List.getElem?_eq_getElem hk)
  refine ⟨ad, e, ?_, ?_, ?_, ?_, ?_⟩
  · exact hc 0 _ rfl
  · rw [← add_at _ _ 1 (by decide)]; exact hc 1 _ rfl
  · rw [← add_at _ _ 2 (by decide)]; exact hc 2 _ rfl
  · rw [← add_at _ _ 3 (by decide)]; exact hc 3 _ rfl
  · rw [← add_at _ _ 4 (by decide)]; exact hc 4 _ rfl

def oneB (e : Ext) : Bool := decide (1 ≤ e.sector) && decide (e.sector < 4096) && decide (e.count ≤ 64) && decide (0 ≤ e.skip) && decide (e.skip < e.count) && decide (1 ≤ e.take) && decide (e.take ≤ e.count - e.skip)
/-- a row from a place on -/
def validFrom (at_ : Int) : List Ext → Bool
  | [] => true
  | e :: l => oneB e && (e.at_ == at_) && decide (e.take ≤ 1000 - at_) && validFrom (at_ + e.take) l
def shiftE (by_ : Int) (e : Ext) : Ext := ⟨wrap64 (e.at_ + by_), e.sector, e.count, e.skip, e.take⟩
def shiftM (by_ : Int) (l : List Ext) : List Ext := l.map (shiftE by_)
/-- an extent's part from a to b -/
def cutE (a b : Int) (e : Ext) : List Ext :=
  if max e.at_ a < min (wrap64 (e.at_ + e.take)) b then [⟨max e.at_ a, e.sector, e.count, wrap64 (wrap64 (e.skip + max e.at_ a) - e.at_), wrap64 (min (wrap64 (e.at_ + e.take)) b - max e.at_ a)⟩] else []
def cutM (a b : Int) (l : List Ext) : List Ext := l.flatMap (cutE a b)
theorem cutE_len (a b : Int) (e : Ext) : (cutE a b e).length ≤ 1 := by unfold cutE; split <;> simp
def endM (l : List Ext) : Int := (l.map Ext.take).sum

theorem validFrom_bd : ∀ (l : List Ext) (a : Int), a ≤ 1000 → validFrom a l = true → (l.length : Int) ≤ endM l ∧ a + endM l ≤ 1000
  | [], a, h, _ => by simp [endM]; exact h
  | e :: l, a, h, hv => by
    simp only [validFrom, Bool.and_eq_true, decide_eq_true_eq] at hv
    obtain ⟨⟨⟨h1, _⟩, h3⟩, h4⟩ := hv
    have := validFrom_bd l (a + e.take) (by omega) h4
    have ht : 1 ≤ e.take := by simp [oneB] at h1; omega
    simp only [endM, List.map_cons, List.sum_cons, List.length_cons] at this ⊢
    omega
theorem flat1_len {α β : Type} (f : α → List β) (hf : ∀ x, (f x).length ≤ 1) : ∀ l : List α, (l.flatMap f).length ≤ l.length
  | [] => by simp
  | x :: l => by rw [List.flatMap_cons, List.length_append, List.length_cons]; have := flat1_len f hf l; have := hf x; omega
theorem cutM_len (a b : Int) (l : List Ext) : (cutM a b l).length ≤ l.length := flat1_len _ (cutE_len a b) l
theorem shiftM_len (b : Int) (l : List Ext) : (shiftM b l).length = l.length := List.length_map ..

/-- which error a splice has (0: none) -/
def spliceBad (l : List Ext) (fr tt : Int) (new : List Ext) : Bool := !validFrom 0 new || decide (fr < 0) || decide (tt < fr) || decide (endM l < fr)
def spliceL (l : List Ext) (fr tt : Int) (new : List Ext) : List Ext :=
  (cutM 0 fr l ++ shiftM fr new) ++ shiftM (fr + endM new - min tt (endM l)) (cutM (min tt (endM l)) (endM l) l)
def spliceLong (l : List Ext) (fr tt : Int) (new : List Ext) : Bool := decide (1000 < fr + endM new + endM l - min tt (endM l))
def spliceM (l : List Ext) (fr tt : Int) (new : List Ext) : List Ext × Int :=
  if spliceBad l fr tt new then ([], 1) else if spliceLong l fr tt new then ([], 4) else (spliceL l fr tt new, 0)

def rowGo (a : Int) : List Ext → List Ext
  | [] => []
  | e :: l =>
    if 1000 - a < 1 + within e.take (1 + within e.count 64 - within e.skip (1 + within e.count 64)) then []
    else ⟨a, 1 + within e.sector 4095, 1 + within e.count 64, within e.skip (1 + within e.count 64), 1 + within e.take (1 + within e.count 64 - within e.skip (1 + within e.count 64))⟩ ::
      rowGo (a + (1 + within e.take (1 + within e.count 64 - within e.skip (1 + within e.count 64)))) l
def rowM (l : List Ext) (most : Nat) : List Ext := rowGo 0 (l.take most)
theorem rowGo_valid : ∀ (l : List Ext) (a : Int), validFrom a (rowGo a l) = true
  | [], _ => rfl
  | e :: l, a => by
    unfold rowGo
    split
    · rfl
    · rename_i h
      have h1 := within_bd e.count 64 (by decide)
      have h2 := within_bd e.skip (1 + within e.count 64) (by omega)
      have h3 := within_bd e.take (1 + within e.count 64 - within e.skip (1 + within e.count 64)) (by omega)
      have h4 := within_bd e.sector 4095 (by decide)
      simp only [validFrom, rowGo_valid l _, Bool.and_true, beq_self_eq_true, Bool.and_eq_true, decide_eq_true_eq]
      refine ⟨?_, by omega⟩
      simp [oneB]; omega
theorem rowM_valid (l : List Ext) (m : Nat) : validFrom 0 (rowM l m) = true := rowGo_valid _ _
theorem rowGo_len : ∀ (l : List Ext) (a : Int), (rowGo a l).length ≤ l.length
  | [], _ => Nat.le_refl _
  | e :: l, a => by
    unfold rowGo
    split
    · exact Nat.zero_le _
    · simp only [List.length_cons]; have := rowGo_len l (a + (1 + within e.take (1 + within e.count 64 - within e.skip (1 + within e.count 64)))); omega
theorem rowM_len (l : List Ext) (m : Nat) : (rowM l m).length ≤ m := Nat.le_trans (rowGo_len _ _) (by rw [List.length_take]; omega)
end Go.Ov
