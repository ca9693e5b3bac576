/- Contracts of state.Put, Tree, Length, Ids. -/
import Derived.Test.YtddcjekkimajpaaInsRow
namespace Go.Proofs.Ytddcjekkimajpaa.ExtW
open Go.RowKit Go.Ov Go.Proofs.Ytddcjekkimajpaa.Need

theorem ins_any (v : Value) (hs : List TH) (x : TH) (i vb base : Nat) (w : World) (h : trackE.Own 83 w base v hs) (hv : Blk w vb #[.int .i64 x.id, .pointer (some ⟨x.b, 0, none⟩)] 83) (hvb : v.ownBlock ≠ some vb) (hn : hs.length ≤ 1000) (hi : i ≤ hs.length) (hb : base ≤ w.heap.size) :
    Calls Try.prog 59 #[v, .int .i64 i, .slice (some ⟨vb, 0, none⟩) 1 1] w fun e w' => ∃ u, e = .returned u ∧ trackE.Own 83 w' base u (insL hs i x) ∧ w.grownBy w' v.ownBlock := by
  by_cases he : i = hs.length
  · subst he; exact ins_end v hs x vb base w h hv hn hb
  · rcases h.parts with ⟨_, h0⟩ | ⟨g, c, rfl, _⟩
    · omega
    · obtain ⟨_, _, hc, _⟩ := h.blk
      have hne : vb ≠ g := fun e => hvb (by rw [e]; rfl)
      by_cases hr : hs.length + 1 ≤ c
      · exact ins_room g c hs x i vb base w h hv hne hn (by omega) hr
      · obtain rfl : c = hs.length := by omega
        exact ins_grow g hs x i vb base w h hv hn (by omega) hb

/-- a state, or why not -/
def StRes (w' : World) (e : Ending) (s : StM × Int) : Prop :=
  (s.2 = 0 → ∃ u, e = .returned (.tuple #[u, .int .i64 0]) ∧ StateIs w' u s.1) ∧ (s.2 ≠ 0 → e = .returned (.tuple #[.pointer none, .int .i64 s.2]))
theorem StRes.ok {w' : World} {u : Value} {s : StM} (h : StateIs w' u s) : StRes w' (.returned (.tuple #[u, .int .i64 0])) (s, 0) := ⟨fun _ => ⟨u, rfl, h⟩, fun h => absurd rfl h⟩
theorem StRes.bad {w' : World} {n : Int} (hn : n ≠ 0) (s : StM) : StRes w' (.returned (.tuple #[.pointer none, .int .i64 n])) (s, n) := ⟨fun h => absurd h hn, fun _ => rfl⟩

def putR (s : StM) (id : Int) (t : TreeM) : StM × Int :=
  if id < 0 ∨ 99 < id then ([], 1) else if findS s id < 0 ∧ 6 ≤ s.length then ([], 4) else (putL s id t, 0)

theorem below_le (id : Int) : ∀ s : StM, below id s ≤ s.length
  | [] => Nat.le_refl _
  | t :: s => by unfold below; split; have := below_le id s; simp; omega; exact Nat.zero_le _
theorem below_lt (id : Int) : ∀ (s : StM) (k : Nat) (h : k < s.length), k < below id s → s[k].1 < id
  | t :: s, 0, h, hk => by
    unfold below at hk
    split at hk
    · assumption
    · omega
  | t :: s, k + 1, h, hk => by
    unfold below at hk
    split at hk
    · exact below_lt id s k (by simpa using h) (by omega)
    · omega
theorem below_ge (id : Int) : ∀ (s : StM) (h : below id s < s.length), ¬ s[below id s].1 < id
  | t :: s, h => by
    unfold below at h
    by_cases e : t.1 < id
    · rw [if_pos e] at h
      have := below_ge id s (by simpa using h)
      have e2 : below id (t :: s) = below id s + 1 := by rw [below, if_pos e]
      simp only [e2, List.getElem_cons_succ]; exact this
    · have e2 : below id (t :: s) = 0 := by rw [below, if_neg e]
      simp only [e2, List.getElem_cons_zero]; exact e
theorem TRows.len {w : World} {hs : List TH} {s : StM} (h : TRows w hs s) : hs.length = s.length := h.1

set_option maxRecDepth 100000 in
set_option maxHeartbeats 2000000 in
theorem sput_any (v : Value) (s : StM) (id : Int) (tv : Value) (t : TreeM) (w : World) (h : StateIs w v s) (ht : TreeIs w tv t) (hn : s.length ≤ 6) :
    Calls Try.prog 33 #[v, .int .i64 id, tv] w fun e w' => StRes w' e (putR s id t) ∧ Bl w w' := by
  have HS := Lib.hid h
  have HT := Lib.hid ht
  obtain ⟨b, u, hs0, rfl, c0, h1, h2⟩ := h
  obtain ⟨tb, _, _, rfl, _⟩ := ht
  obtain ⟨A0, cc0, e0, _⟩ := h1
  rw [e0] at c0
  have hl0 : hs0.length ≤ 6 := by rw [h2.1]; exact hn
  have HL0 := Lib.hid h2.1
  have hu := Try.underlying76
  have hu2 := Try.underlying83
  clear h2 e0
  by_cases hb1 : id < 0
  · have hr : putR s id t = ([], 1) := if_pos (.inl hb1)
    have HR := Lib.hid hr
    rw [hr]
    clear hr
    go_enter Try.func33, Try.ntmps33
    go_wp2_with fail
    go_ret2
    exact ⟨StRes.bad (by decide) _, Bl.refl _⟩
  · by_cases hb2 : 99 < id
    · have hr : putR s id t = ([], 1) := if_pos (.inr hb2)
      rw [hr]
      clear hr
      go_enter Try.func33, Try.ntmps33
      go_wp2_with fail
      go_ret2
      exact ⟨StRes.bad (by decide) _, Bl.refl _⟩
    · by_cases hlim : findS s id < 0 ∧ 6 ≤ s.length
      · obtain ⟨hf, hm⟩ := hlim
        have hr : putR s id t = ([], 4) := by unfold putR; rw [if_neg (by omega), if_pos ⟨hf, hm⟩]
        rw [hr]
        have hm2 : 6 ≤ hs0.length := by have := HL0.out; omega
        have hm3 : (6 : Int) ≤ hs0.length := by omega
        clear hr
        go_enter Try.func33, Try.ntmps33
        go_wp2_with fail
        refine (sfind_any _ s id _ HS.out).mono ?_
        rintro e w1 ⟨rfl, hb⟩
        have c1 := hb.cell c0
        go_wp2_with fail
        go_ret2
        exact ⟨StRes.bad (by decide) _, hb⟩
      · have hr : putR s id t = (putL s id t, 0) := by unfold putR; rw [if_neg (by omega), if_neg hlim]
        rw [hr]
        clear hr
        go_enter Try.func33, Try.ntmps33
        go_wp2_with fail
        refine (sfind_any _ s id _ HS.out).mono ?_
        rintro e w1 ⟨rfl, hb⟩
        have c1 := hb.cell c0
        have HB := Lib.hid hb
        clear hb
        rcases (show 0 ≤ findS s id ∨ (findS s id < 0 ∧ hs0.length < 6) from by have := HL0.out; omega) with hf | ⟨hf, hm⟩
        · clear hlim
          go_wp2_with fail
          refine (swithout_own _ s id _ (HS.out.bl HB.out) (by omega)).mono ?_
          rintro e w2 ⟨b2, u2, hs, rfl, hk2, hb2s, ho, hne, hr, hb⟩
          have HW := Lib.hid (HB.out.bl hb)
          have HR := Lib.hid (show TRows w2 (others id hs) (withoutS s id) from (hr.bl hb).filter (fun i => i != id))
          have HSZ := Lib.hid hb.size
          have HR1 := Lib.hid (show TRows w1 (others id hs) (withoutS s id) from hr.filter (fun i => i != id))
          have HB2 := Lib.hid hb
          obtain ⟨A2, c2, e2⟩ := ho.slice
          rw [e2] at hk2 ho hne
          have HK := Lib.hid hk2
          have HO := Lib.hid ho
          have HNE := Lib.hid hne
          have d0 := hk2.cell 0
          simp at d0
          have hlen : (others id hs).length = (withoutS s id).length := HR.out.1
          have hsm : (withoutS s id).length ≤ 6 := Nat.le_trans (List.length_filter_le _ _) hn
          have hcc := HO.out.is
          obtain ⟨A3, c3, e3, _, _, _, hat⟩ := hcc
          simp at e3
          obtain ⟨rfl, rfl⟩ := e3
          have HAT := Lib.hid hat
          have HIDS := Lib.hid (show ∀ k (h : k < (others id hs).length) (h' : k < (withoutS s id).length), (others id hs)[k].id = (withoutS s id)[k].1 from fun k h h' => (HR.out.2 k _ _ (List.getElem?_eq_getElem h') (List.getElem?_eq_getElem h)).1)
          obtain ⟨S2, hS2⟩ : ∃ S2, S2 = withoutS s id := ⟨_, rfl⟩
          obtain ⟨hs2, hhs2⟩ : ∃ hs2, hs2 = others id hs := ⟨_, rfl⟩
          rw [← hS2] at HR HR1 HIDS hlen hsm
          rw [← hhs2] at HR HR1 HO HK HNE HAT HIDS hlen d0
          have HPL := Lib.hid (show putL s id t = insertS S2 id t by rw [hS2]; rfl)
          clear hk2 ho hne hr hb e2 hat hS2
          clear hhs2
          have hl3 : hs2.length ≤ 1000 := by omega
          have HLN := Lib.hid hlen
          clear hlen
          go_wp2_with fail
          go_loopg [9] hs2.length (fun g i wr => ∃ k : Nat, k ≤ hs2.length ∧ k ≤ below id S2 ∧ g = hs2.length - k ∧ i = .int .i64 k ∧ wr = w2)
          case atStart => exact ⟨0, by omega, by omega, rfl, rfl, rfl⟩
          case round =>
            obtain ⟨k, hk, hkb, rfl, rfl, rfl⟩ := hrel
            by_cases hlt : k < hs2.length
            · have hlt2 : k < S2.length := by have := HLN.out; omega
              have hid := HIDS.out k hlt hlt2
              have hbl := below_lt id S2 k hlt2
              have hge := fun e : k = below id S2 => below_ge id S2 (by rw [← e]; exact hlt2)
              obtain ⟨ad, rfl, k0, k1⟩ := track_at HAT.out k hlt
              rw [hid] at k0
              by_cases hq : S2[k].1 < id
              · have hkb2 : k < below id S2 := by
                  by_cases e : k = below id S2
                  · have := hge e
                    simp only [← e] at this
                    exact absurd hq this
                  · omega
                clear hbl hge hid k1
                generalize S2[k].1 = y at *
                have hki : (k : Int) < hs2.length := by omega
                go_wp2_with fail
                go_roundg (hs2.length - (k + 1))
                case measure => omega
                case rel => exact ⟨k + 1, by omega, by omega, rfl, by go_num, rfl⟩
              · have hke : k = below id S2 := by
                  by_cases e : k = below id S2
                  · exact e
                  · exact absurd (hbl (by omega)) hq
                have HKE := Lib.hid hke
                clear hbl hge hid k1 hke
                generalize S2[k].1 = y at *
                have hki : (k : Int) < hs2.length := by omega
                go_wp2_with fail
                have HV := Lib.hid (Blk.new wr #[.int .i64 id, .pointer (some ⟨tb, 0, none⟩)] 83)
                refine (ins_any _ hs2 ⟨id, tb⟩ k wr.heap.size w1.heap.size _ (HO.out.bl ((Bl.refl _).alloc _)) HV.out (fun he => by have := (Enc.Own.lt HO.out _ he).2; omega) hl3 hk (Nat.le_trans HSZ.out ((Bl.refl wr).alloc _).size)).mono ?_
                rintro e w3 ⟨z, rfl, ho, hg⟩
                have HZ := Lib.hid ho
                have HK3 := Lib.hid ((HK.out.bl ((Bl.refl _).alloc _)).grown hg HNE.out)
                have HB4 := Lib.hid ((HB2.out.alloc _).grown hg (fun g hg => (Enc.Own.lt HO.out g hg).1))
                have HB3 := Lib.hid ((HW.out.alloc _).grown hg (fun g hg => by have h1 := (Enc.Own.lt HO.out g hg).1; have h2 := HB.out.size; omega))
                obtain ⟨A4, c4, rfl⟩ := ho.slice
                clear ho hg
                have z0 := HK3.out.cell 0
                simp at z0
                have z1 := HK3.out.frozen 0
                have z2 := HK3.out.lt
                have hzb : (Value.slice A4 (insL hs2 k ⟨id, tb⟩).length c4).ownBlock ≠ some b2 := HZ.out.ne_blk HK3.out (by decide)
                have HZB := Lib.hid hzb
                clear hzb
                go_wp2_with fail
                go_ret2
                have hins : insL hs2 k ⟨id, tb⟩ = hs2.take k ++ ⟨id, tb⟩ :: hs2.drop k := rfl
                have hfin : TRows w1 (insL hs2 k ⟨id, tb⟩) (insertS S2 id t) := by
                  unfold insertS
                  rw [hins, ← HKE.out]
                  exact (HR1.out.take k).append (TRows.cons ⟨rfl, HT.out.bl HB.out⟩ (HR1.out.drop k))
                have hb3 := Bl.set HB3.out b2 0 (.slice A4 (insL hs2 k ⟨id, tb⟩).length c4) (by have := HB.out.size; omega)
                refine ⟨?_, hb3⟩
                rw [HPL.out]
                refine StRes.ok ⟨b2, ⟨A4, (insL hs2 k ⟨id, tb⟩).length, c4⟩, insL hs2 k ⟨id, tb⟩, rfl, (HK3.out.set 0 _).cell 0, ?_, hfin.bl ?_⟩
                · exact Enc.Own.is (HZ.out.grown (setCell_grown _ _ _ _) (.inr HZB.out))
                · exact Bl.set HB4.out _ _ _ hb2s
            · have hke : k = below id S2 := by have := below_le id S2; have := HLN.out; omega
              have HKE := Lib.hid hke
              clear hke
              go_wp2_with fail
              have HV := Lib.hid (Blk.new wr #[.int .i64 id, .pointer (some ⟨tb, 0, none⟩)] 83)
              refine (ins_any _ hs2 ⟨id, tb⟩ k wr.heap.size w1.heap.size _ (HO.out.bl ((Bl.refl _).alloc _)) HV.out (fun he => by have := (Enc.Own.lt HO.out _ he).2; omega) hl3 hk (Nat.le_trans HSZ.out ((Bl.refl wr).alloc _).size)).mono ?_
              rintro e w3 ⟨z, rfl, ho, hg⟩
              have HZ := Lib.hid ho
              have HK3 := Lib.hid ((HK.out.bl ((Bl.refl _).alloc _)).grown hg HNE.out)
              have HB4 := Lib.hid ((HB2.out.alloc _).grown hg (fun g hg => (Enc.Own.lt HO.out g hg).1))
              have HB3 := Lib.hid ((HW.out.alloc _).grown hg (fun g hg => by have h1 := (Enc.Own.lt HO.out g hg).1; have h2 := HB.out.size; omega))
              obtain ⟨A4, c4, rfl⟩ := ho.slice
              clear ho hg
              have z0 := HK3.out.cell 0
              simp at z0
              have z1 := HK3.out.frozen 0
              have z2 := HK3.out.lt
              have hzb : (Value.slice A4 (insL hs2 k ⟨id, tb⟩).length c4).ownBlock ≠ some b2 := HZ.out.ne_blk HK3.out (by decide)
              have HZB := Lib.hid hzb
              clear hzb
              go_wp2_with fail
              go_ret2
              have hins : insL hs2 k ⟨id, tb⟩ = hs2.take k ++ ⟨id, tb⟩ :: hs2.drop k := rfl
              have hfin : TRows w1 (insL hs2 k ⟨id, tb⟩) (insertS S2 id t) := by
                unfold insertS
                rw [hins, ← HKE.out]
                exact (HR1.out.take k).append (TRows.cons ⟨rfl, HT.out.bl HB.out⟩ (HR1.out.drop k))
              have hb3 := Bl.set HB3.out b2 0 (.slice A4 (insL hs2 k ⟨id, tb⟩).length c4) (by have := HB.out.size; omega)
              refine ⟨?_, hb3⟩
              rw [HPL.out]
              refine StRes.ok ⟨b2, ⟨A4, (insL hs2 k ⟨id, tb⟩).length, c4⟩, insL hs2 k ⟨id, tb⟩, rfl, (HK3.out.set 0 _).cell 0, ?_, hfin.bl ?_⟩
              · exact Enc.Own.is (HZ.out.grown (setCell_grown _ _ _ _) (.inr HZB.out))
              · exact Bl.set HB4.out _ _ _ hb2s
        · have hm3 : (hs0.length : Int) < 6 := by omega
          clear hlim
          go_wp2_with fail
          refine (swithout_own _ s id _ (HS.out.bl HB.out) (by omega)).mono ?_
          rintro e w2 ⟨b2, u2, hs, rfl, hk2, hb2s, ho, hne, hr, hb⟩
          have HW := Lib.hid (HB.out.bl hb)
          have HR := Lib.hid (show TRows w2 (others id hs) (withoutS s id) from (hr.bl hb).filter (fun i => i != id))
          have HSZ := Lib.hid hb.size
          have HR1 := Lib.hid (show TRows w1 (others id hs) (withoutS s id) from hr.filter (fun i => i != id))
          have HB2 := Lib.hid hb
          obtain ⟨A2, c2, e2⟩ := ho.slice
          rw [e2] at hk2 ho hne
          have HK := Lib.hid hk2
          have HO := Lib.hid ho
          have HNE := Lib.hid hne
          have d0 := hk2.cell 0
          simp at d0
          have hlen : (others id hs).length = (withoutS s id).length := HR.out.1
          have hsm : (withoutS s id).length ≤ 6 := Nat.le_trans (List.length_filter_le _ _) hn
          have hcc := HO.out.is
          obtain ⟨A3, c3, e3, _, _, _, hat⟩ := hcc
          simp at e3
          obtain ⟨rfl, rfl⟩ := e3
          have HAT := Lib.hid hat
          have HIDS := Lib.hid (show ∀ k (h : k < (others id hs).length) (h' : k < (withoutS s id).length), (others id hs)[k].id = (withoutS s id)[k].1 from fun k h h' => (HR.out.2 k _ _ (List.getElem?_eq_getElem h') (List.getElem?_eq_getElem h)).1)
          obtain ⟨S2, hS2⟩ : ∃ S2, S2 = withoutS s id := ⟨_, rfl⟩
          obtain ⟨hs2, hhs2⟩ : ∃ hs2, hs2 = others id hs := ⟨_, rfl⟩
          rw [← hS2] at HR HR1 HIDS hlen hsm
          rw [← hhs2] at HR HR1 HO HK HNE HAT HIDS hlen d0
          have HPL := Lib.hid (show putL s id t = insertS S2 id t by rw [hS2]; rfl)
          clear hk2 ho hne hr hb e2 hat hS2
          clear hhs2
          have hl3 : hs2.length ≤ 1000 := by omega
          have HLN := Lib.hid hlen
          clear hlen
          go_wp2_with fail
          go_loopg [9] hs2.length (fun g i wr => ∃ k : Nat, k ≤ hs2.length ∧ k ≤ below id S2 ∧ g = hs2.length - k ∧ i = .int .i64 k ∧ wr = w2)
          case atStart => exact ⟨0, by omega, by omega, rfl, rfl, rfl⟩
          case round =>
            obtain ⟨k, hk, hkb, rfl, rfl, rfl⟩ := hrel
            by_cases hlt : k < hs2.length
            · have hlt2 : k < S2.length := by have := HLN.out; omega
              have hid := HIDS.out k hlt hlt2
              have hbl := below_lt id S2 k hlt2
              have hge := fun e : k = below id S2 => below_ge id S2 (by rw [← e]; exact hlt2)
              obtain ⟨ad, rfl, k0, k1⟩ := track_at HAT.out k hlt
              rw [hid] at k0
              by_cases hq : S2[k].1 < id
              · have hkb2 : k < below id S2 := by
                  by_cases e : k = below id S2
                  · have := hge e
                    simp only [← e] at this
                    exact absurd hq this
                  · omega
                clear hbl hge hid k1
                generalize S2[k].1 = y at *
                have hki : (k : Int) < hs2.length := by omega
                go_wp2_with fail
                go_roundg (hs2.length - (k + 1))
                case measure => omega
                case rel => exact ⟨k + 1, by omega, by omega, rfl, by go_num, rfl⟩
              · have hke : k = below id S2 := by
                  by_cases e : k = below id S2
                  · exact e
                  · exact absurd (hbl (by omega)) hq
                have HKE := Lib.hid hke
                clear hbl hge hid k1 hke
                generalize S2[k].1 = y at *
                have hki : (k : Int) < hs2.length := by omega
                go_wp2_with fail
                have HV := Lib.hid (Blk.new wr #[.int .i64 id, .pointer (some ⟨tb, 0, none⟩)] 83)
                refine (ins_any _ hs2 ⟨id, tb⟩ k wr.heap.size w1.heap.size _ (HO.out.bl ((Bl.refl _).alloc _)) HV.out (fun he => by have := (Enc.Own.lt HO.out _ he).2; omega) hl3 hk (Nat.le_trans HSZ.out ((Bl.refl wr).alloc _).size)).mono ?_
                rintro e w3 ⟨z, rfl, ho, hg⟩
                have HZ := Lib.hid ho
                have HK3 := Lib.hid ((HK.out.bl ((Bl.refl _).alloc _)).grown hg HNE.out)
                have HB4 := Lib.hid ((HB2.out.alloc _).grown hg (fun g hg => (Enc.Own.lt HO.out g hg).1))
                have HB3 := Lib.hid ((HW.out.alloc _).grown hg (fun g hg => by have h1 := (Enc.Own.lt HO.out g hg).1; have h2 := HB.out.size; omega))
                obtain ⟨A4, c4, rfl⟩ := ho.slice
                clear ho hg
                have z0 := HK3.out.cell 0
                simp at z0
                have z1 := HK3.out.frozen 0
                have z2 := HK3.out.lt
                have hzb : (Value.slice A4 (insL hs2 k ⟨id, tb⟩).length c4).ownBlock ≠ some b2 := HZ.out.ne_blk HK3.out (by decide)
                have HZB := Lib.hid hzb
                clear hzb
                go_wp2_with fail
                go_ret2
                have hins : insL hs2 k ⟨id, tb⟩ = hs2.take k ++ ⟨id, tb⟩ :: hs2.drop k := rfl
                have hfin : TRows w1 (insL hs2 k ⟨id, tb⟩) (insertS S2 id t) := by
                  unfold insertS
                  rw [hins, ← HKE.out]
                  exact (HR1.out.take k).append (TRows.cons ⟨rfl, HT.out.bl HB.out⟩ (HR1.out.drop k))
                have hb3 := Bl.set HB3.out b2 0 (.slice A4 (insL hs2 k ⟨id, tb⟩).length c4) (by have := HB.out.size; omega)
                refine ⟨?_, hb3⟩
                rw [HPL.out]
                refine StRes.ok ⟨b2, ⟨A4, (insL hs2 k ⟨id, tb⟩).length, c4⟩, insL hs2 k ⟨id, tb⟩, rfl, (HK3.out.set 0 _).cell 0, ?_, hfin.bl ?_⟩
                · exact Enc.Own.is (HZ.out.grown (setCell_grown _ _ _ _) (.inr HZB.out))
                · exact Bl.set HB4.out _ _ _ hb2s
            · have hke : k = below id S2 := by have := below_le id S2; have := HLN.out; omega
              have HKE := Lib.hid hke
              clear hke
              go_wp2_with fail
              have HV := Lib.hid (Blk.new wr #[.int .i64 id, .pointer (some ⟨tb, 0, none⟩)] 83)
              refine (ins_any _ hs2 ⟨id, tb⟩ k wr.heap.size w1.heap.size _ (HO.out.bl ((Bl.refl _).alloc _)) HV.out (fun he => by have := (Enc.Own.lt HO.out _ he).2; omega) hl3 hk (Nat.le_trans HSZ.out ((Bl.refl wr).alloc _).size)).mono ?_
              rintro e w3 ⟨z, rfl, ho, hg⟩
              have HZ := Lib.hid ho
              have HK3 := Lib.hid ((HK.out.bl ((Bl.refl _).alloc _)).grown hg HNE.out)
              have HB4 := Lib.hid ((HB2.out.alloc _).grown hg (fun g hg => (Enc.Own.lt HO.out g hg).1))
              have HB3 := Lib.hid ((HW.out.alloc _).grown hg (fun g hg => by have h1 := (Enc.Own.lt HO.out g hg).1; have h2 := HB.out.size; omega))
              obtain ⟨A4, c4, rfl⟩ := ho.slice
              clear ho hg
              have z0 := HK3.out.cell 0
              simp at z0
              have z1 := HK3.out.frozen 0
              have z2 := HK3.out.lt
              have hzb : (Value.slice A4 (insL hs2 k ⟨id, tb⟩).length c4).ownBlock ≠ some b2 := HZ.out.ne_blk HK3.out (by decide)
              have HZB := Lib.hid hzb
              clear hzb
              go_wp2_with fail
              go_ret2
              have hins : insL hs2 k ⟨id, tb⟩ = hs2.take k ++ ⟨id, tb⟩ :: hs2.drop k := rfl
              have hfin : TRows w1 (insL hs2 k ⟨id, tb⟩) (insertS S2 id t) := by
                unfold insertS
                rw [hins, ← HKE.out]
                exact (HR1.out.take k).append (TRows.cons ⟨rfl, HT.out.bl HB.out⟩ (HR1.out.drop k))
              have hb3 := Bl.set HB3.out b2 0 (.slice A4 (insL hs2 k ⟨id, tb⟩).length c4) (by have := HB.out.size; omega)
              refine ⟨?_, hb3⟩
              rw [HPL.out]
              refine StRes.ok ⟨b2, ⟨A4, (insL hs2 k ⟨id, tb⟩).length, c4⟩, insL hs2 k ⟨id, tb⟩, rfl, (HK3.out.set 0 _).cell 0, ?_, hfin.bl ?_⟩
              · exact Enc.Own.is (HZ.out.grown (setCell_grown _ _ _ _) (.inr HZB.out))
              · exact Bl.set HB4.out _ _ _ hb2s
end Go.Proofs.Ytddcjekkimajpaa.ExtW
