/- Contracts of package state: find, without. -/
import Derived.Test.YtddcjekkimajpaaStateP
import Derived.Test.YtddcjekkimajpaaTreeOps
namespace Go.Proofs.Ytddcjekkimajpaa.ExtW
open Go.RowKit Go.Ov Go.Proofs.Ytddcjekkimajpaa.Need

/-- a function value that asks for a track's name -/
def PredOf (K : Nat) : Prop := ∀ (w : World) (i id : Int) (t : Nat) (p : Nat), w.cell? ⟨p, 0, none⟩ = some (.int .i64 id) →
  Calls Try.prog K #[.agg #[.int .i64 i, .pointer (some ⟨t, 0, none⟩)], .pointer (some ⟨p, 0, none⟩)] w fun e w' => e = .returned (.bool (i == id)) ∧ Bl w w'
set_option maxHeartbeats 1000000 in
theorem sfind1_pred : PredOf 66 := by
  intro w i id t p hp
  have hpl : p < w.heap.size := World.block_lt_of_cell? _ _ hp
  have hu := Try.underlying83
  go_enter Try.func66, Try.ntmps66
  go_wp2_with fail
  go_ret
  exact ⟨rfl, (Bl.refl _).alloc _⟩
set_option maxHeartbeats 1000000 in
theorem swithout1_pred : PredOf 69 := by
  intro w i id t p hp
  have hpl : p < w.heap.size := World.block_lt_of_cell? _ _ hp
  have hu := Try.underlying83
  go_enter Try.func69, Try.ntmps69
  go_wp2_with fail
  go_ret
  exact ⟨rfl, (Bl.refl _).alloc _⟩

set_option maxRecDepth 100000 in
set_option maxHeartbeats 1000000 in
theorem idx_sfind1 (v : Value) (hs : List TH) (id : Int) (p : Nat) (w : World) (h : trackE.Is w v hs) (hp : w.cell? ⟨p, 0, none⟩ = some (.int .i64 id)) :
    Calls Try.prog 65 #[v, .func (.func 66) #[] #[.pointer (some ⟨p, 0, none⟩)]] w fun e w' => e = .returned (.int .i64 (idxFrom id 0 (hs.map TH.id))) ∧ Bl w w' := by
  obtain ⟨A, c, rfl, h1, h2, h3, h4⟩ := h
  have HA := Lib.hid h4
  have HP := Lib.hid hp
  have hl : hs.length ≤ 9223372036854775807 := by unfold maxLen at h2; omega
  have hu := Try.underlying83
  clear h1 h2 h3 h4 hp
  go_enter Try.func65, Try.ntmps65
  go_wp2_with fail
  go_loopg [8] hs.length (fun g i wr => ∃ k : Nat, k ≤ hs.length ∧ g = hs.length - k ∧ i = .int .i64 k ∧ Hid (idxFrom id 0 (hs.map TH.id) = idxFrom id k ((hs.drop k).map TH.id)) ∧ Hid (Bl w wr))
  case atStart => exact ⟨0, by omega, rfl, rfl, Lib.hid rfl, Lib.hid (Bl.refl _)⟩
  case round =>
    obtain ⟨k, hk, rfl, rfl, HV, HB⟩ := hrel
    by_cases hlt : k < hs.length
    · obtain ⟨ad, rfl, c0, c1⟩ := track_at (HA.out.bl HB.out) k hlt
      have hd := Lib.hid (List.drop_eq_getElem_cons hlt)
      have hki : (k : Int) < hs.length := by omega
      generalize hs[k] = x at *
      obtain ⟨xi, xb⟩ := x
      dsimp only at c0 c1
      go_wp2_with fail
      refine (sfind1_pred _ xi id xb p (HB.out.cell HP.out)).mono ?_
      rintro e w1 ⟨rfl, hb⟩
      have HB1 := Lib.hid (HB.out.bl hb)
      clear hb
      by_cases he : xi = id
      · have he1 : (xi == id) = true := by simpa using he
        have HE := Lib.hid he
        clear he
        go_wp2_with fail
        go_ret
        refine ⟨ret_int ?_, HB1.out⟩
        rw [HV.out, hd.out, List.map_cons, idxFrom, if_pos HE.out]
      · have he1 : (xi == id) = false := by simpa using he
        have HE := Lib.hid he
        clear he
        go_wp2_with fail
        go_roundg (hs.length - (k + 1))
        case measure => omega
        case rel => exact ⟨k + 1, by omega, rfl, by go_num, Lib.hid (by rw [HV.out, hd.out, List.map_cons, idxFrom, if_neg HE.out]), HB1⟩
    · go_wp2_with fail
      go_ret
      refine ⟨ret_int ?_, HB.out⟩
      rw [HV.out, List.drop_of_length_le (by omega)]; rfl
set_option maxRecDepth 100000 in
set_option maxHeartbeats 1000000 in
theorem idx_swithout1 (v : Value) (hs : List TH) (id : Int) (p : Nat) (w : World) (h : trackE.Is w v hs) (hp : w.cell? ⟨p, 0, none⟩ = some (.int .i64 id)) :
    Calls Try.prog 65 #[v, .func (.func 69) #[] #[.pointer (some ⟨p, 0, none⟩)]] w fun e w' => e = .returned (.int .i64 (idxFrom id 0 (hs.map TH.id))) ∧ Bl w w' := by
  obtain ⟨A, c, rfl, h1, h2, h3, h4⟩ := h
  have HA := Lib.hid h4
  have HP := Lib.hid hp
  have hl : hs.length ≤ 9223372036854775807 := by unfold maxLen at h2; omega
  have hu := Try.underlying83
  clear h1 h2 h3 h4 hp
  go_enter Try.func65, Try.ntmps65
  go_wp2_with fail
  go_loopg [8] hs.length (fun g i wr => ∃ k : Nat, k ≤ hs.length ∧ g = hs.length - k ∧ i = .int .i64 k ∧ Hid (idxFrom id 0 (hs.map TH.id) = idxFrom id k ((hs.drop k).map TH.id)) ∧ Hid (Bl w wr))
  case atStart => exact ⟨0, by omega, rfl, rfl, Lib.hid rfl, Lib.hid (Bl.refl _)⟩
  case round =>
    obtain ⟨k, hk, rfl, rfl, HV, HB⟩ := hrel
    by_cases hlt : k < hs.length
    · obtain ⟨ad, rfl, c0, c1⟩ := track_at (HA.out.bl HB.out) k hlt
      have hd := Lib.hid (List.drop_eq_getElem_cons hlt)
      have hki : (k : Int) < hs.length := by omega
      generalize hs[k] = x at *
      obtain ⟨xi, xb⟩ := x
      dsimp only at c0 c1
      go_wp2_with fail
      refine (swithout1_pred _ xi id xb p (HB.out.cell HP.out)).mono ?_
      rintro e w1 ⟨rfl, hb⟩
      have HB1 := Lib.hid (HB.out.bl hb)
      clear hb
      by_cases he : xi = id
      · have he1 : (xi == id) = true := by simpa using he
        have HE := Lib.hid he
        clear he
        go_wp2_with fail
        go_ret
        refine ⟨ret_int ?_, HB1.out⟩
        rw [HV.out, hd.out, List.map_cons, idxFrom, if_pos HE.out]
      · have he1 : (xi == id) = false := by simpa using he
        have HE := Lib.hid he
        clear he
        go_wp2_with fail
        go_roundg (hs.length - (k + 1))
        case measure => omega
        case rel => exact ⟨k + 1, by omega, rfl, by go_num, Lib.hid (by rw [HV.out, hd.out, List.map_cons, idxFrom, if_neg HE.out]), HB1⟩
    · go_wp2_with fail
      go_ret
      refine ⟨ret_int ?_, HB.out⟩
      rw [HV.out, List.drop_of_length_le (by omega)]; rfl

set_option maxRecDepth 100000 in
set_option maxHeartbeats 1000000 in
theorem sfind_any (v : Value) (s : StM) (id : Int) (w : World) (h : StateIs w v s) :
    Calls Try.prog 39 #[v, .int .i64 id] w fun e w' => e = .returned (.int .i64 (findS s id)) ∧ Bl w w' := by
  obtain ⟨b, u, hs, rfl, c0, h1, h2⟩ := h
  simp only [Head.v] at c0
  have hbl : b < w.heap.size := World.block_lt_of_cell? _ _ c0
  have hu := Try.underlying76
  go_enter Try.func39, Try.ntmps39
  have HI := Lib.hid h1
  have HE := Lib.hid (show hs.map TH.id = s.map (·.1) from TRows.ids h2)
  clear h1 h2
  go_wp2_with fail
  refine (idx_sfind1 _ hs id w.heap.size _ (HI.out.bl ((Bl.refl _).alloc _)) (by go_simp)).mono ?_
  rintro e w1 ⟨rfl, hb⟩
  go_wp2_with fail
  go_ret
  exact ⟨ret_int (by rw [HE.out]; rfl), ((Bl.refl _).alloc _).bl hb⟩
end Go.Proofs.Ytddcjekkimajpaa.ExtW
