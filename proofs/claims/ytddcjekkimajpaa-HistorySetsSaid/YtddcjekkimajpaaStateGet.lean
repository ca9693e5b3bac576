/- Contracts of state.New, Tree, Length, Ids; record.Valid. -/
import Derived.Test.YtddcjekkimajpaaStateOps
import Derived.Test.YtddcjekkimajpaaRecP
namespace Go.Proofs.Ytddcjekkimajpaa.ExtW
open Go.RowKit Go.Ov Go.Proofs.Ytddcjekkimajpaa.Need

def getS : StM → Int → Option TreeM
  | [], _ => none
  | t :: s, id => if t.1 = id then some t.2 else getS s id
theorem idx_get (id : Int) : ∀ (s : StM) (k : Nat), (idxFrom id k (s.map (·.1)) = -1 ∧ getS s id = none) ∨ ∃ i, ∃ h : i < s.length, idxFrom id k (s.map (·.1)) = ((k + i : Nat) : Int) ∧ s[i].1 = id ∧ getS s id = some s[i].2
  | [], _ => .inl ⟨rfl, rfl⟩
  | t :: s, k => by
    rw [List.map_cons]
    unfold idxFrom getS
    by_cases e : t.1 = id
    · simp only [if_pos e]
      exact .inr ⟨0, by simp, by simp, e, rfl⟩
    · simp only [if_neg e]
      rcases idx_get id s (k + 1) with ⟨h1, h2⟩ | ⟨i, h, h1, h2, h3⟩
      · exact .inl ⟨h1, h2⟩
      · exact .inr ⟨i + 1, by simp; omega, by rw [h1]; congr 1; omega, by simpa using h2, by simpa using h3⟩
theorem findS_get (s : StM) (id : Int) : (findS s id = -1 ∧ getS s id = none) ∨ ∃ i, ∃ h : i < s.length, findS s id = (i : Int) ∧ s[i].1 = id ∧ getS s id = some s[i].2 := by
  have := idx_get id s 0
  simpa [findS] using this

def TreeRes (w' : World) (e : Ending) (o : Option TreeM) : Prop :=
  (o = none → e = .returned (.tuple #[.pointer none, .bool false])) ∧ ∀ t, o = some t → ∃ u, e = .returned (.tuple #[u, .bool true]) ∧ TreeIs w' u t
def LenRes (e : Ending) (o : Option TreeM) : Prop :=
  (o = none → e = .returned (.tuple #[.int .i64 0, .bool false])) ∧ ∀ t, o = some t → e = .returned (.tuple #[.int .i64 (endM t.row), .bool true])

set_option maxHeartbeats 1000000 in
theorem snew_any (w : World) : Calls Try.prog 11 #[] w fun e w' => ∃ u, e = .returned u ∧ StateIs w' u [] ∧ Bl w w' := by
  go_enter Try.func11, Try.ntmps11
  go_wp2
  go_ret
  exact ⟨_, rfl, ⟨w.heap.size, nilH, [], rfl, (Blk.new _ _ _).cell 0, Enc.Is.nil _, TRows.nil _⟩, (Bl.refl _).alloc _⟩

set_option maxRecDepth 100000 in
set_option maxHeartbeats 1000000 in
theorem stree_any (v : Value) (s : StM) (id : Int) (w : World) (h : StateIs w v s) :
    Calls Try.prog 18 #[v, .int .i64 id] w fun e w' => TreeRes w' e (getS s id) ∧ Bl w w' := by
  have HS := Lib.hid h
  obtain ⟨b, u, hs, rfl, c0, h1, h2⟩ := h
  obtain ⟨A, c, e0, q1, q2, q3, hat⟩ := h1
  rw [e0] at c0
  have HAT := Lib.hid hat
  have HR := Lib.hid h2
  have hu := Try.underlying76
  have hu2 := Try.underlying83
  clear e0 hat
  rcases findS_get s id with ⟨h1, h2⟩ | ⟨i, hi, h1, h2, h3⟩
  · have HG := Lib.hid h2
    have HF := Lib.hid h1
    clear h1 h2
    go_enter Try.func18, Try.ntmps18
    go_wp2_with fail
    refine (sfind_any _ s id _ HS.out).mono ?_
    rintro e w1 ⟨rfl, hb⟩
    rw [HF.out]
    go_wp2_with fail
    go_ret2
    exact ⟨⟨fun _ => rfl, fun t ht => by rw [HG.out] at ht; cases ht⟩, hb⟩
  · have HG := Lib.hid h3
    have HF := Lib.hid h1
    clear h1 h2 h3
    obtain ⟨hi2, hr⟩ := HR.out.at i hi
    have HT := Lib.hid hr.2
    have hln := HR.out.1
    have hii : (i : Int) < hs.length := by omega
    clear hr hln
    go_enter Try.func18, Try.ntmps18
    go_wp2_with fail
    refine (sfind_any _ s id _ HS.out).mono ?_
    rintro e w1 ⟨rfl, hb⟩
    rw [HF.out]
    obtain ⟨ad, rfl, k0, k1⟩ := track_at (HAT.out.bl hb) i hi2
    have c1 := hb.cell c0
    go_wp2_with fail
    go_ret2
    refine ⟨⟨(fun h => by rw [HG.out] at h; cases h), fun t ht => ?_⟩, hb⟩
    rw [HG.out] at ht
    injection ht with ht
    subst ht
    exact ⟨_, rfl, HT.out.bl hb⟩

set_option maxRecDepth 100000 in
set_option maxHeartbeats 1000000 in
theorem slength_any (v : Value) (s : StM) (id : Int) (w : World) (h : StateIs w v s) (hv : ∀ t ∈ s, validFrom 0 t.2.row = true) :
    Calls Try.prog 13 #[v, .int .i64 id] w fun e w' => LenRes e (getS s id) ∧ Bl w w' := by
  have HS := Lib.hid h
  have HV := Lib.hid hv
  obtain ⟨b, u, hs, rfl, _⟩ := h
  clear hv
  rcases findS_get s id with ⟨h1, h2⟩ | ⟨i, hi, h1, h2, h3⟩
  · have HG := Lib.hid h2
    clear h1 h2
    go_enter Try.func13, Try.ntmps13
    go_wp2_with fail
    refine (stree_any _ s id _ HS.out).mono ?_
    rintro e w1 ⟨⟨h1, _⟩, hb⟩
    obtain rfl := h1 HG.out
    clear h1
    go_wp2_with fail
    go_ret2
    exact ⟨⟨fun _ => rfl, fun t ht => by rw [HG.out] at ht; cases ht⟩, hb⟩
  · have HG := Lib.hid h3
    have HVV := Lib.hid (HV.out s[i] (List.getElem_mem hi))
    clear h1 h2 h3
    go_enter Try.func13, Try.ntmps13
    go_wp2_with fail
    refine (stree_any _ s id _ HS.out).mono ?_
    rintro e w1 ⟨⟨_, h1⟩, hb⟩
    obtain ⟨t, rfl, ht⟩ := h1 _ HG.out
    have HT := Lib.hid ht
    clear h1 ht
    go_wp2_with fail
    refine (tend_any _ _ _ HT.out HVV.out).mono ?_
    rintro e w2 ⟨rfl, hb2⟩
    go_wp2_with fail
    go_ret2
    refine ⟨⟨(fun h => by rw [HG.out] at h; cases h), fun t ht => ?_⟩, hb.bl hb2⟩
    rw [HG.out] at ht
    injection ht with ht
    subst ht
    rfl

set_option maxRecDepth 100000 in
set_option maxHeartbeats 1000000 in
theorem sids_any (v : Value) (s : StM) (w : World) (h : StateIs w v s) (hn : s.length ≤ 1000) :
    Calls Try.prog 15 #[v] w fun e w' => ∃ u, e = .returned u ∧ intE.Own 3 w' w.heap.size u (s.map (·.1)) ∧ Bl w w' := by
  obtain ⟨b, u, hs, rfl, c0, h1, h2⟩ := h
  obtain ⟨A, c, e0, q1, q2, q3, hat⟩ := h1
  rw [e0] at c0
  have HAT := Lib.hid hat
  have HI := Lib.hid (TRows.ids h2)
  have hl : hs.length ≤ 1000 := by rw [h2.1]; exact hn
  have hu := Try.underlying76
  have hu2 := Try.underlying83
  clear e0 hat h2 q1 q2 q3
  go_enter Try.func15, Try.ntmps15
  go_wp2_with fail
  go_loopg [3, 11] hs.length (fun g v i wr => ∃ k : Nat, k ≤ hs.length ∧ g = hs.length - k ∧ i = .int .i64 k ∧ Hid (intE.Own 3 wr w.heap.size v (pmap TH.id hs k)) ∧ Hid (Bl w wr))
  case atStart => exact ⟨0, by omega, rfl, rfl, Lib.hid (Enc.Own.nil _ _ _), Lib.hid (Bl.refl _)⟩
  case round =>
    obtain ⟨k, hk, rfl, rfl, HO, HB⟩ := hrel
    by_cases hlt : k < hs.length
    · obtain ⟨ad, rfl, k0, k1⟩ := track_at (HAT.out.bl HB.out) k hlt
      have hps := Lib.hid (pmap_succ TH.id hs k hlt)
      have hpl := Lib.hid (pmap_len TH.id hs k hk)
      generalize hs[k] = x at *
      generalize pmap TH.id hs k = xs at *
      obtain ⟨xi, xb⟩ := x
      dsimp only at k0 k1
      have hki : (k : Int) < hs.length := by omega
      go_wp2_with (at_builtin; refine Enc.Own.append1 (E := intE) rfl (.tmp 15) (.tmp 18) 22 rfl w.heap.size 3 (.int .i64 0) 1 8 Try.underlying22 infoIntT rfl rfl (by decide) (by decide) u3 xs rfl (HO.out.bl ((Bl.refl _).alloc _)) xi _ rfl (by simp) rfl ?hlen ?hbase ?_; (case hlen => have := hpl.out; omega); (case hbase => exact (HB.out.alloc _).size); intro v1 w1 ho hg)
      go_roundg (hs.length - (k + 1))
      case measure => omega
      case rel => exact ⟨k + 1, by omega, rfl, by go_num, Lib.hid (by rw [hps.out]; exact ho), Lib.hid (((HB.out.alloc _).alloc _).grown hg (fun k hk => (Enc.Own.lt HO.out k hk).1))⟩
    · go_wp2_with fail
      go_ret
      exact ⟨_, rfl, by have := HO.out; rw [pmap_all _ _ _ (by omega), HI.out] at this; exact this, HB.out⟩
end Go.Proofs.Ytddcjekkimajpaa.ExtW
