/- Contracts of overdubkeep's generic helps at extents and at pairs. -/
import Derived.Test.YtddcjekkimajpaaRowW
namespace Go.Proofs.Ytddcjekkimajpaa.ExtW
open Go.RowKit Go.Ov Go.Proofs.Ytddcjekkimajpaa.Need

def eqE (x y : Ext) : Bool := decide (x = y)
def eqP (x y : Int × Int) : Bool := decide (x = y)
theorem eq_ext (x0 x1 x2 x3 x4 y0 y1 y2 y3 y4 : Int) (w : World) :
    (Op.equalIn 10000 38 (.agg #[.int .i64 x0, .int .i64 x1, .int .i64 x2, .int .i64 x3, .int .i64 x4]) (.agg #[.int .i64 y0, .int .i64 y1, .int .i64 y2, .int .i64 y3, .int .i64 y4])).run Try.prog w = .ok (eqE ⟨x0, x1, x2, x3, x4⟩ ⟨y0, y1, y2, y3, y4⟩) w := by
  have hu := Try.underlying38
  have hi := Try.underlying3
  unfold eqE
  go_simp
  by_cases h0 : x0 = y0 <;> by_cases h1 : x1 = y1 <;> by_cases h2 : x2 = y2 <;> by_cases h3 : x3 = y3 <;> by_cases h4 : x4 = y4 <;> simp [h0, h1, h2, h3, h4]
def pairE : Enc (Int × Int) := ⟨2, fun x => [.int .i64 x.1, .int .i64 x.2], fun _ => rfl, fun x u h => by simp at h; rcases h with rfl | rfl <;> rfl⟩
theorem pair_at {w : World} {A : Option Addr} {xs : List (Int × Int)} (h : pairE.At w A xs) (k : Nat) (hk : k < xs.length) :
    ∃ ad, A = some ad ∧ w.cell? (ad.add (k * 2)) = some (.int .i64 xs[k].1) ∧ w.cell? ⟨(ad.add (k * 2)).block, (ad.add (k * 2)).off + 1, none⟩ = some (.int .i64 xs[k].2) := by
  obtain ⟨ad, e, hc⟩ := h k _ (List.getElem?_eq_getElem hk)
  refine ⟨ad, e, ?_, ?_⟩
  · exact hc 0 _ rfl
  · rw [← add_at _ _ 1 (by decide)]; exact hc 1 _ rfl
/-- the first m of a slice -/
theorem Enc.Is.take {α : Type} {E : Enc α} {w : World} {A : Option Addr} {c : Nat} {l : List α} (h : E.Is w (.slice A l.length c) l) (m : Nat) : E.Is w (.slice A (min l.length m) c) (l.take m) := by
  obtain ⟨A', c', e, h1, h2, h3, h4⟩ := h
  simp at e
  obtain ⟨rfl, rfl⟩ := e
  refine ⟨A, c, by rw [List.length_take, Nat.min_comm], by rw [List.length_take]; omega, h2, h3, fun i x hx => h4 i x ?_⟩
  rw [List.getElem?_take] at hx
  split at hx
  · exact hx
  · cases hx
set_option maxHeartbeats 1000000 in
theorem kcutExt_any (v : Value) (l : List Ext) (m : Nat) (w : World) (h : extE.Is w v l) (hm : m ≤ 1000) :
    Calls Try.prog 51 #[v, .int .i64 m] w fun e w' => ∃ u, e = .returned u ∧ extE.Is w' u (l.take m) ∧ w = w' := by
  obtain ⟨A, c, rfl, h1, h2, h3, h4⟩ := h
  have HH := Lib.hid (show extE.Is w (.slice A l.length c) l from ⟨A, c, rfl, h1, h2, h3, h4⟩)
  clear h4
  unfold maxLen at h2
  cases A with
  | none =>
    have hc : c = 0 := h3 rfl
    have hl : l = [] := List.eq_nil_of_length_eq_zero (by omega)
    subst hc; subst hl
    go_enter Try.func51, Try.ntmps51
    go_wp2
    go_ret
    refine ⟨_, rfl, ?_, rfl⟩
    have := Enc.Is.take HH.out m
    rwa [show min ([] : List Ext).length m = (min (0 : Int) m).toNat by simp; omega] at this
  | some ad =>
    go_enter Try.func51, Try.ntmps51
    go_wp2
    go_ret
    refine ⟨_, rfl, ?_, rfl⟩
    have := Enc.Is.take HH.out m
    rwa [show min l.length m = (min (l.length : Int) m).toNat by omega] at this

set_option maxRecDepth 100000 in
set_option maxHeartbeats 1000000 in
theorem sameExt_any (v u : Value) (a b : List Ext) (w : World) (h : extE.Is w v a) (h' : extE.Is w u b) :
    Calls Try.prog 19 #[v, u] w fun e w' => e = .returned (.bool (decide (a = b))) ∧ Bl w w' := by
  obtain ⟨A, c, rfl, h1, h2, h3, h4⟩ := h
  obtain ⟨A', c', rfl, h1', h2', h3', h4'⟩ := h'
  have HA := Lib.hid h4
  have HA' := Lib.hid h4'
  have hl : a.length ≤ 9223372036854775807 := by unfold maxLen at h2; omega
  have hl' : b.length ≤ 9223372036854775807 := by unfold maxLen at h2'; omega
  have hu := Try.underlying38
  clear h1 h2 h3 h4 h1' h2' h3' h4'
  by_cases hlen : a.length = b.length
  · go_enter Try.func19, Try.ntmps19
    go_wp2
    have HL := Lib.hid hlen
    clear hlen
    go_loopg [5] b.length (fun g i wr => ∃ k : Nat, k ≤ b.length ∧ g = b.length - k ∧ i = .int .i64 k ∧ Hid (a.take k = b.take k) ∧ Bl w wr)
    case atStart => exact ⟨0, by omega, rfl, rfl, Lib.hid rfl, Bl.refl _⟩
    case round =>
      obtain ⟨k, hk, rfl, rfl, heq, hbl⟩ := hrel
      have HB := Lib.hid hbl
      clear hbl
      by_cases hlt : k < b.length
      · have hlta : k < a.length := by have := HL.out; omega
        have hlti : (k : Int) < a.length := by omega
        obtain ⟨ad, rfl, c0, c1, c2, c3, c4⟩ := ext_at (HA.out.bl HB.out) k hlta
        obtain ⟨ad', rfl, d0, d1, d2, d3, d4⟩ := ext_at (HA'.out.bl HB.out) k hlt
        have ta := Lib.hid (List.take_succ_eq_append_getElem hlta)
        have tb := Lib.hid (List.take_succ_eq_append_getElem hlt)
        have hne := Lib.hid (fun h : a = b => show a[k]'hlta = b[k]'hlt by simp [h])
        generalize a[k] = x at *
        generalize b[k] = y at *
        obtain ⟨x0, x1, x2, x3, x4⟩ := x
        obtain ⟨y0, y1, y2, y3, y4⟩ := y
        dsimp only at c0 c1 c2 c3 c4 d0 d1 d2 d3 d4
        have hqq := eq_ext x0 x1 x2 x3 x4 y0 y1 y2 y3 y4
        go_wp2_with fail
        go_quiet (fail)
        clear hqq
        cases hq : eqE ⟨x0, x1, x2, x3, x4⟩ ⟨y0, y1, y2, y3, y4⟩
        · go_wp2
          go_ret
          refine ⟨ret_bool ?_, HB.out.drewN _⟩
          symm; rw [decide_eq_false_iff_not]
          intro h; have := hne.out h; unfold eqE at hq; simp [this] at hq
        · have HQ := Lib.hid hq
          clear hq
          go_wp2
          go_roundg (b.length - (k + 1))
          case measure => omega
          case rel =>
            refine ⟨k + 1, by omega, rfl, by go_num, Lib.hid ?_, HB.out.drewN _⟩
            have hxy := HQ.out
            unfold eqE at hxy
            rw [ta.out, tb.out, heq.out, of_decide_eq_true hxy]
      · have hna : ¬ k < a.length := by have := HL.out; omega
        go_wp2
        go_ret
        refine ⟨ret_bool ?_, HB.out⟩
        symm; rw [decide_eq_true_eq]
        have h := heq.out
        have := HL.out
        rwa [List.take_of_length_le (by omega), List.take_of_length_le (by omega)] at h
  · have hd : decide (a = b) = false := decide_eq_false (fun h => hlen (by rw [h]))
    have HD := Lib.hid hd
    clear hd
    go_enter Try.func19, Try.ntmps19
    go_wp2
    go_ret
    exact ⟨ret_bool HD.out.symm, Bl.refl _⟩

end Go.Proofs.Ytddcjekkimajpaa.ExtW
