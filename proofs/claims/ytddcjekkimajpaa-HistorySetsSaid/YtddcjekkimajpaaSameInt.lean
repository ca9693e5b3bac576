/- Contract of overdubkeep.Same at int. -/
import Derived.Test.YtddcjekkimajpaaKeepW
namespace Go.Proofs.Ytddcjekkimajpaa.ExtW
open Go.RowKit Go.Ov Go.Proofs.Ytddcjekkimajpaa.Need

set_option maxRecDepth 100000 in
set_option maxHeartbeats 1000000 in
theorem sameInt_any (v u : Value) (a b : List Int) (w : World) (h : intE.Is w v a) (h' : intE.Is w u b) :
    Calls Try.prog 43 #[v, u] w fun e w' => e = .returned (.bool (decide (a = b))) ∧ Bl w w' := by
  obtain ⟨A, c, rfl, h1, h2, h3, h4⟩ := h
  obtain ⟨A', c', rfl, h1', h2', h3', h4'⟩ := h'
  have HA := Lib.hid h4
  have HA' := Lib.hid h4'
  have hl : a.length ≤ 9223372036854775807 := by unfold maxLen at h2; omega
  have hl' : b.length ≤ 9223372036854775807 := by unfold maxLen at h2'; omega
  clear h1 h2 h3 h4 h1' h2' h3' h4'
  by_cases hlen : a.length = b.length
  · go_enter Try.func43, Try.ntmps43
    go_wp2
    have HL := Lib.hid hlen
    clear hlen
    go_loopg [5] b.length (fun g i wr => ∃ k : Nat, k ≤ b.length ∧ g = b.length - k ∧ i = .int .i64 k ∧ Hid (a.take k = b.take k) ∧ Bl w wr)
    case atStart => exact ⟨0, by omega, rfl, rfl, Lib.hid rfl, Bl.refl _⟩
    case round =>
      obtain ⟨k, hk, rfl, rfl, heq, hbl⟩ := hrel
      have HB := Lib.hid hbl
      clear hbl
      by_cases hlt : k < b.length
      · have hlta : k < a.length := by have := HL.out; omega
        have hlti : (k : Int) < a.length := by omega
        obtain ⟨ad, rfl, c0⟩ := int_at (HA.out.bl HB.out) k hlta
        obtain ⟨ad', rfl, d0⟩ := int_at (HA'.out.bl HB.out) k hlt
        have ta := Lib.hid (List.take_succ_eq_append_getElem hlta)
        have tb := Lib.hid (List.take_succ_eq_append_getElem hlt)
        have hne := Lib.hid (fun h : a = b => show a[k]'hlta = b[k]'hlt by simp [h])
        generalize a[k] = x at *
        generalize b[k] = y at *
        go_wp2_with fail
        go_quiet (fail)
        by_cases hq : x = y
        rotate_left
        · have hb : (x != y) = true := by simp [hq]
          have HQ := Lib.hid hq
          clear hq
          go_wp2
          go_ret
          refine ⟨ret_bool ?_, HB.out.drewN _⟩
          symm; rw [decide_eq_false_iff_not]
          intro h; exact HQ.out (hne.out h)
        · have hb : (x != y) = false := by simp [hq]
          have HQ := Lib.hid hq
          clear hq
          go_wp2
          go_roundg (b.length - (k + 1))
          case measure => omega
          case rel =>
            refine ⟨k + 1, by omega, rfl, by go_num, Lib.hid ?_, HB.out.drewN _⟩
            rw [ta.out, tb.out, heq.out, HQ.out]
      · have hna : ¬ k < a.length := by have := HL.out; omega
        go_wp2
        go_ret
        refine ⟨ret_bool ?_, HB.out⟩
        symm; rw [decide_eq_true_eq]
        have h := heq.out
        have := HL.out
        rwa [List.take_of_length_le (by omega), List.take_of_length_le (by omega)] at h
  · have hd : decide (a = b) = false := decide_eq_false (fun h => hlen (by rw [h]))
    have HD := Lib.hid hd
    clear hd
    go_enter Try.func43, Try.ntmps43
    go_wp2
    go_ret
    exact ⟨ret_bool HD.out.symm, Bl.refl _⟩

end Go.Proofs.Ytddcjekkimajpaa.ExtW
