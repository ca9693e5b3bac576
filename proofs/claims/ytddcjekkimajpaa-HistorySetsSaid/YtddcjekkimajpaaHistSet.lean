/- Contract of history.Set. -/
import Derived.Test.YtddcjekkimajpaaHistAny
namespace Go.Proofs.Ytddcjekkimajpaa.ExtW
open Go.RowKit Go.Ov Go.Proofs.Ytddcjekkimajpaa.Need

set_option maxHeartbeats 1000000 in
theorem hset_lim (a b : Value) (A A' : Option Addr) (n n' c c' : Nat) (w : World) (h : 4 < n ∨ 4 < n') (hn : n ≤ 1000) (hn' : n' ≤ 1000) :
    Calls Try.prog 29 #[a, b, .slice A n c, .slice A' n' c'] w fun e w' => e = .returned (.int .i64 4) ∧ w = w' := by
  by_cases h1 : 4 < n
  · go_enter Try.func29, Try.ntmps29
    go_wp2_with fail
    go_ret
    exact ⟨rfl, rfl⟩
  · have h2 : 4 < n' := by omega
    clear h
    go_enter Try.func29, Try.ntmps29
    go_wp2_with fail
    go_ret
    exact ⟨rfl, rfl⟩

set_option maxHeartbeats 1000000 in
set_option maxRecDepth 100000 in
theorem hset_any (B : Nat) (m : HistM) (b : Nat) (s : StM) (v v' : Value) (us rs : List Nat) (U R : List StM) (w : World) (h : HistIs 95 w B m) (hs : StateIs w (.pointer (some ⟨b, 0, none⟩)) s)
    (hu : ptrE.Is w v us) (hr : ptrE.Is w v' rs) (hsu : SRows w us U) (hsr : SRows w rs R) (hl : us.length ≤ 4) (hl' : rs.length ≤ 4) :
    Calls Try.prog 29 #[.pointer (some ⟨B, 0, none⟩), .pointer (some ⟨b, 0, none⟩), v, v'] w fun e w' => e = .returned (.int .i64 0) ∧ HistIs 95 w' B ⟨s, U, R⟩ ∧ w.grownBy w' (some B) := by
  obtain ⟨n, u, q, us0, rs0, h0, _⟩ := h
  have HBk := Lib.hid h0
  have HS := Lib.hid hs
  have HU := Lib.hid hu
  have HR := Lib.hid hr
  have HSU := Lib.hid hsu
  have HSR := Lib.hid hsr
  obtain ⟨A, c, rfl, _⟩ := hu
  obtain ⟨A', c', rfl, _⟩ := hr
  have hB := h0.lt
  have huh := Try.underlying95
  clear h0 hs hsu hsr
  go_enter Try.func29, Try.ntmps29
  go_wp2_with fail
  refine (hclone_any _ _ _ HU.out (by omega)).mono ?_
  rintro e w1 ⟨u1, rfl, ho1, hb1⟩
  obtain ⟨A1, c1, rfl⟩ := id ho1.slice
  have HO1 := Lib.hid ho1
  have HB1 := Lib.hid hb1
  clear ho1 hb1
  go_wp2_with fail
  refine (hclone_any _ _ _ (HR.out.bl HB1.out) (by omega)).mono ?_
  rintro e w2 ⟨u2, rfl, ho2, hb2⟩
  obtain ⟨A2, c2, rfl⟩ := id ho2.slice
  have HO2 := Lib.hid ho2
  have HO1' := Lib.hid (HO1.out.bl hb2)
  have HB2 := Lib.hid (HB1.out.bl hb2)
  have HBk2 := Lib.hid (HBk.out.bl HB2.out)
  have hsz1 := HB1.out.size
  clear ho2 hb2 HO1
  have f0 := HBk2.out.frozen 0
  have f1 := HBk2.out.frozen 1
  have f2 := HBk2.out.frozen 2
  have g0 := HBk2.out.cell 0
  have g1 := HBk2.out.cell 1
  have g2 := HBk2.out.cell 2
  have l1 := HBk2.out.lt
  simp [histC, Head.v] at g0 g1 g2
  go_wp2_with fail
  clear f0 f1 f2 g0 g1 g2
  have b1 := HBk2.out.set 0 (.pointer (some ⟨b, 0, none⟩))
  have b2 := b1.set 1 (.slice A1 us.length c1)
  have b3 := b2.set 2 (.slice A2 rs.length c2)
  go_ret
  refine ⟨rfl, hist_done (n' := b) (u' := ⟨A1, us.length, c1⟩) (r' := ⟨A2, rs.length, c2⟩) HB2.out HBk2.out (((keepO_set _ _ _ _).trans (keepO_set _ _ _ _)).trans (keepO_set _ _ _ _)) ?_ (grown_trans (grown_trans (set_grownB _ _ _ _) (set_grownB _ _ _ _)) (set_grownB _ _ _ _)) (HS.out.bl HB2.out) ((FarIs.own HO1'.out).low (by omega)) ((FarIs.own HO2.out).low (by omega)) (HSU.out.bl HB2.out) (HSR.out.bl HB2.out)⟩
  exact b3
end Go.Proofs.Ytddcjekkimajpaa.ExtW
