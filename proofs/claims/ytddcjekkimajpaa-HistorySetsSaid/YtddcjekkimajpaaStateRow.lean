/- Contracts of slices.Clone, DeleteFunc, Insert at tracks. -/
import Derived.Test.YtddcjekkimajpaaStateW
import Derived.Test.YtddcjekkimajpaaLibRow
namespace Go.Proofs.Ytddcjekkimajpaa.ExtW
open Go.RowKit Go.Ov Go.Proofs.Ytddcjekkimajpaa.Need

theorem infoTrack : (Try.prog.info? 83).map (fun i => (i.zero, i.size, i.bytes)) = some (some (.agg #[.int .i64 0, .pointer none]), 2, 16) := by kernel_rfl

set_option maxRecDepth 100000 in
set_option maxHeartbeats 1000000 in
theorem cloneTrack_any (v : Value) (hs : List TH) (w : World) (h : trackE.Is w v hs) (hn : hs.length ≤ 1000000) :
    Calls Try.prog 68 #[v] w fun e w' => ∃ u, e = .returned u ∧ trackE.Own 83 w' w.heap.size u hs ∧ Bl w w' := by
  have HH := Lib.hid h
  obtain ⟨A, c, rfl, h1, h2, h3, h4⟩ := h
  have hE := fun w => Lib.run_eql_slice_nil (P := Try.prog) w 74 83 A hs.length c 0 0 Try.underlying74
  cases A with
  | none =>
    have hc : c = 0 := h3 rfl
    have hl : hs = [] := List.eq_nil_of_length_eq_zero (by omega)
    subst hc; subst hl
    clear h4 h3 h2 h1 hE
    have hE := fun w => Lib.run_eql_slice_nil (P := Try.prog) w 74 83 none 0 0 0 0 Try.underlying74
    go_enter Try.func68, Try.ntmps68
    go_wp2_with fail
    go_ret
    exact ⟨_, rfl, Enc.Own.nil _ _ _, Bl.refl _⟩
  | some ad =>
    clear h4 h3 h2 h1
    go_enter Try.func68, Try.ntmps68
    go_wp2_with (at_builtin; refine Enc.Own.append (E := trackE) rfl (.tmp 5) (.tmp 6) 74 rfl w.heap.size 83 (.agg #[.int .i64 0, .pointer none]) 2 16 Try.underlying74 infoTrack rfl rfl (by decide) (by decide) (.slice (some ⟨w.heap.size, 0, none⟩) 0 0) [] rfl (Enc.Own.lit w w.heap.size [] #[] rfl 0 rfl (Nat.le_refl _) (by decide) rfl) (.slice (some ad) hs.length c) hs rfl (HH.out.bl ((Bl.refl _).alloc _)) ?hlen ?hb ?_; (case hlen => simp; omega); (case hb => exact ((Bl.refl w).alloc _).size); intro v1 w1 ho hg)
    go_ret
    exact ⟨_, rfl, by simpa using ho, ((Bl.refl _).alloc _).grown hg (fun k hk => by simp [Value.ownBlock] at hk; omega)⟩

/-- those of another name -/
def others (id : Int) (hs : List TH) : List TH := hs.filter fun h => h.id != id
theorem idx_neg (id : Int) : ∀ (hs : List TH) (k : Nat), idxFrom id k (hs.map TH.id) = -1 → others id hs = hs
  | [], _, _ => rfl
  | h :: hs, k, hi => by
    unfold idxFrom at hi
    rw [List.map_cons] at hi
    simp only at hi
    by_cases e : h.id = id
    · rw [if_pos e] at hi; omega
    · rw [if_neg e] at hi
      unfold others
      rw [List.filter_cons_of_pos (by simpa using e)]
      congr 1
      exact idx_neg id hs (k + 1) hi
theorem idx_pos (id : Int) : ∀ (hs : List TH) (k : Nat), idxFrom id k (hs.map TH.id) ≠ -1 → ∃ i, ∃ h : i < hs.length, idxFrom id k (hs.map TH.id) = ((k + i : Nat) : Int) ∧ hs[i].id = id ∧ others id (hs.take i) = hs.take i
  | [], _, hi => absurd rfl hi
  | h :: hs, k, hi => by
    rw [List.map_cons] at hi ⊢
    unfold idxFrom at hi ⊢
    by_cases e : h.id = id
    · rw [if_pos e]
      exact ⟨0, by simp, by simp, e, rfl⟩
    · rw [if_neg e] at hi ⊢
      obtain ⟨i, h1, h2, h3, h4⟩ := idx_pos id hs (k + 1) hi
      refine ⟨i + 1, by simp; omega, by rw [h2]; congr 1; omega, by simpa using h3, ?_⟩
      unfold others at h4 ⊢
      rw [List.take_succ_cons, List.filter_cons_of_pos (by simpa using e), h4]

theorem others_snoc (id : Int) (l : List TH) (x : TH) : others id (l ++ [x]) = others id l ++ (if x.id = id then [] else [x]) := by
  unfold others
  rw [List.filter_append]
  congr 1
  by_cases e : x.id = id
  · rw [if_pos e, List.filter_cons_of_neg (by simpa using e)]; rfl
  · rw [if_neg e, List.filter_cons_of_pos (by simpa using e)]; rfl
theorem get_of_drop {α : Type} {a b : List α} {j : Nat} (h : a.drop j = b.drop j) (ha : j < a.length) (hb : j < b.length) : a[j] = b[j] ∧ a.drop (j + 1) = b.drop (j + 1) := by
  rw [List.drop_eq_getElem_cons ha, List.drop_eq_getElem_cons hb] at h
  injection h with h1 h2
  exact ⟨h1, h2⟩
theorem set_take_snoc {α : Type} (L : List α) (i : Nat) (x : α) (h : i < L.length) : (L.set i x).take (i + 1) = L.take i ++ [x] := by
  rw [List.take_succ_eq_append_getElem (by rw [List.length_set]; exact h), List.take_set_of_le (Nat.le_refl _)]
  simp
theorem set_drop {α : Type} (L : List α) (i j : Nat) (x : α) (h : i < j) : (L.set i x).drop j = L.drop j := List.drop_set_of_lt h

set_option maxRecDepth 100000 in
set_option maxHeartbeats 4000000 in
theorem delTrack_any (v : Value) (hs : List TH) (id : Int) (p base : Nat) (w : World) (h : trackE.Own 83 w base v hs) (hp : w.cell? ⟨p, 0, none⟩ = some (.int .i64 id)) (hpb : p < base) (hn : hs.length ≤ 1000) :
    Calls Try.prog 67 #[v, .func (.func 69) #[] #[.pointer (some ⟨p, 0, none⟩)]] w fun e w' => ∃ u, e = .returned u ∧ trackE.Own 83 w' base u (others id hs) ∧ w.grownBy w' v.ownBlock ∧ u.ownBlock = v.ownBlock := by
  have HO := Lib.hid h
  have HP := Lib.hid hp
  have hlt := h.lt
  have HLT := Lib.hid hlt
  clear hp hlt
  obtain ⟨A, c, rfl⟩ := h.slice
  have hu := Try.underlying83
  clear h
  go_enter Try.func67, Try.ntmps67
  go_wp2_with fail
  refine (idx_swithout1 _ hs id p _ HO.out.is HP.out).mono ?_
  rintro e w1 ⟨rfl, hb⟩
  have HB := Lib.hid hb
  clear hb
  by_cases hi : idxFrom id 0 (hs.map TH.id) = -1
  · have HE := Lib.hid (idx_neg id hs 0 hi)
    rw [hi]
    clear hi
    go_wp2_with fail
    go_ret
    exact ⟨_, rfl, by rw [HE.out]; exact HO.out.bl HB.out, grown_bl HB.out, rfl⟩
  · obtain ⟨i0, hi0, e0, e1, e2⟩ := idx_pos id hs 0 hi
    rw [Nat.zero_add] at e0
    rw [e0]
    have HE1 := Lib.hid e1
    have HE2 := Lib.hid e2
    have hpart := HO.out.parts
    have hshape : ∃ g, A = some ⟨g, 0, none⟩ := by
      rcases hpart with ⟨_, h0⟩ | ⟨g, c', e', _⟩
      · omega
      · simp at e'; exact ⟨g, e'.1⟩
    obtain ⟨g, rfl⟩ := hshape
    clear hi e0 e1 e2 hpart
    have hgp : base ≤ g := (HLT.out g rfl).1
    have hni : ¬ (i0 : Int) = -1 := by omega
    have hnb : ((i0 : Int) == -1) = false := by rw [beq_eq_false_iff_ne]; omega
    go_wp2_with fail
    have hst := Lib.hid (show hs.take i0 = others id (hs.take (i0 + 1)) by
      rw [List.take_succ_eq_append_getElem hi0, others_snoc, HE2.out, if_pos HE1.out, List.append_nil])
    go_loopg [5, 6] (hs.length - (i0 + 1)) (fun gk s5 s6 wr => ∃ (i j : Nat) (L : List TH), i < j ∧ j ≤ hs.length ∧ gk = hs.length - j ∧ s5 = .int .i64 i ∧ s6 = .int .i64 j ∧ Hid (L.length = hs.length) ∧
      Hid (trackE.Own 83 wr base (.slice (some ⟨g, 0, none⟩) hs.length c) L) ∧ Hid (L.take i = others id (hs.take j)) ∧ Hid (L.drop j = hs.drop j) ∧ Hid (w.grownBy wr (some g)))
    case atStart => exact ⟨i0, i0 + 1, hs, by omega, by omega, rfl, rfl, by go_num, Lib.hid rfl, Lib.hid (HO.out.bl HB.out), hst, Lib.hid rfl, Lib.hid (grown_bl HB.out)⟩
    case round =>
      clear hst HE1 HE2 hni hnb hi0
      obtain ⟨i, j, L, hij, hj, rfl, rfl, rfl, HLL, HW, HT, HD, HG⟩ := hrel
      by_cases hlt : j < hs.length
      · have hll := HLL.out
        obtain ⟨hx, hdr⟩ := get_of_drop HD.out (by omega) hlt
        obtain ⟨c0, c1, f0, f1⟩ := HW.out.at2 rfl j (by omega) (.int .i64 L[j].id) (.pointer (some ⟨L[j].b, 0, none⟩)) rfl
        have hos := others_snoc id (hs.take j) hs[j]
        rw [← List.take_succ_eq_append_getElem hlt] at hos
        rw [← hx] at hos
        have HOS := Lib.hid hos
        have HDR := Lib.hid hdr
        generalize L[j] = x at *
        obtain ⟨xi, xb⟩ := x
        dsimp only at c0 c1
        have hpg : p ≠ g := by omega
        have hpc := Lib.hid (World.grownBy.cell HG.out HP.out (fun h => hpg (by simpa using h)))
        have hji : (j : Int) < hs.length := by omega
        have hii : (i : Int) < hs.length := by omega
        clear hll hx hdr hos
        go_wp2_with fail
        refine (swithout1_pred _ xi id xb p ((Bl.alloc (Bl.refl wr) _).cell hpc.out)).mono ?_
        rintro e w2 ⟨rfl, hb⟩
        have b0 := ((Blk.new wr #[.int .i64 xi, .pointer (some ⟨xb, 0, none⟩)] 83).bl hb).cell 0
        have b1 := ((Blk.new wr #[.int .i64 xi, .pointer (some ⟨xb, 0, none⟩)] 83).bl hb).cell 1
        simp at b0 b1
        have hz : wr.heap.size < w2.heap.size := by have := hb.size; simp at this; omega
        have HW2 := Lib.hid (HW.out.bl (((Bl.refl _).alloc _).bl hb))
        have HG2 := Lib.hid (grown_trans HG.out (grown_bl (((Bl.refl _).alloc _).bl hb)))
        have hgs : g < wr.heap.size := (Enc.Own.lt HW.out g rfl).2
        clear hb c0 c1 f0 f1
        by_cases he : xi = id
        · have he1 : (xi == id) = true := by simpa using he
          have HE := Lib.hid he
          clear he
          go_wp2_with fail
          go_roundg (hs.length - (j + 1))
          case measure => omega
          case rel => exact ⟨i, j + 1, L, by omega, by omega, rfl, rfl, by go_num, HLL, HW2, Lib.hid (by rw [HOS.out, if_pos HE.out, List.append_nil]; exact HT.out), HDR, HG2⟩
        · have he1 : (xi == id) = false := by simpa using he
          have HE := Lib.hid he
          have hll := HLL.out
          obtain ⟨c0, c1, f0, f1⟩ := HW2.out.at2 rfl i (by omega) (.int .i64 L[i].id) (.pointer (some ⟨L[i].b, 0, none⟩)) rfl
          have hgs2 : g < w2.heap.size := by omega
          generalize L[i] = y at *
          obtain ⟨yi, yb⟩ := y
          dsimp only at c0 c1
          clear he hll
          go_wp2_with fail
          go_roundg (hs.length - (j + 1))
          case measure => omega
          case rel =>
            refine ⟨i + 1, j + 1, L.set i ⟨xi, xb⟩, by omega, by omega, rfl, by go_num, by go_num, Lib.hid (by rw [List.length_set]; exact HLL.out), Lib.hid (HW2.out.store2 rfl i ⟨xi, xb⟩ _ _ rfl), Lib.hid ?_, Lib.hid ?_, Lib.hid (grown_trans (grown_trans HG2.out (setCell_grown _ _ _ _)) (setCell_grown _ _ _ _))⟩
            · rw [set_take_snoc _ _ _ (by have := HLL.out; omega), HT.out, HOS.out, if_neg HE.out]
            · rw [set_drop _ _ _ _ (by omega)]; exact HDR.out
      · have hje : j = hs.length := by omega
        have hil : i < hs.length := by omega
        have HF := Lib.hid (show L.take i = others id hs by rw [HT.out, hje, List.take_length])
        have hil2 : i ≤ L.length := by have := HLL.out; omega
        obtain ⟨z0, _, hc1, hc2, cur, hcu1, hcu2, hcu3⟩ := HW.out.blk
        clear z0
        have hsz2 : i * 2 + (hs.length - i) * 2 ≤ cur.size := by rw [hcu2]; show _ ≤ c * 2; omega
        obtain ⟨cur', hcl, hcs, hct⟩ := run_clearK (P := Try.prog) wr 74 83 (.agg #[.int .i64 0, .pointer none]) Try.underlying74 (fun w => by kernel_rfl) (by intro v hv; simp [Value.cells] at hv; rcases hv with rfl | rfl <;> rfl) g (i * 2) (hs.length - i) (c - i) cur 83 hcu1 hsz2 (by decide)
        have HCS := Lib.hid hcs
        have HCT := Lib.hid hct
        have HCU := Lib.hid (And.intro hcu1 (And.intro hcu2 hcu3))
        have hic : (i : Int) < c := by omega
        have hic2 : ¬ c = i := by omega
        have hii : (i : Int) ≤ hs.length := by omega
        clear hcs hct hcu1 hcu2 hcu3 hje HT HD hsz2
        go_wp2_with fail
        go_ret
        refine ⟨_, rfl, ?_, grown_trans HG.out (setRow_grown _ _ _), rfl⟩
        have hh := HCU.out
        refine Enc.Own.ofBlk (by rw [← HF.out, List.length_take]; have := HLL.out; omega) hgp (by omega) hc2 (setRow_at wr g cur' cur _ hh.1) (by rw [HCS.out]; exact hh.2.1) ?_
        show cur'.toList.take (i * 2) = _
        rw [HCT.out, ← HF.out]
        have h3 : cur.toList.take (hs.length * 2) = L.flatMap trackE.c := hh.2.2
        rw [← flat_take trackE L i hil2, ← h3, List.take_take, show trackE.sz = 2 from rfl, Nat.min_eq_left (by omega)]

set_option maxRecDepth 100000 in
set_option maxHeartbeats 1000000 in
theorem swithout_own (v : Value) (s : StM) (id : Int) (w : World) (h : StateIs w v s) (hn : s.length ≤ 1000) :
    Calls Try.prog 41 #[v, .int .i64 id] w fun e w' => ∃ (b : Nat) (u : Head) (hs : List TH), e = .returned (.pointer (some ⟨b, 0, none⟩)) ∧ Blk w' b #[u.v] 76 ∧ w.heap.size ≤ b ∧ trackE.Own 83 w' w.heap.size u.v (others id hs) ∧
      u.v.ownBlock ≠ some b ∧ TRows w hs s ∧ Bl w w' := by
  obtain ⟨b, u, hs, rfl, c0, h1, h2⟩ := h
  simp only [Head.v] at c0
  have hbl : b < w.heap.size := World.block_lt_of_cell? _ _ c0
  have HI := Lib.hid h1
  have HR := Lib.hid h2
  have hl : hs.length ≤ 1000 := by rw [h2.1]; exact hn
  have hu := Try.underlying76
  clear h1 h2
  go_enter Try.func41, Try.ntmps41
  go_wp2_with fail
  refine (cloneTrack_any _ hs _ (HI.out.bl ((Bl.refl _).alloc _)) (by omega)).mono ?_
  rintro e w1 ⟨z, rfl, ho, hb⟩
  have HZ := Lib.hid ho
  have HK := Lib.hid ((Blk.new w #[.int .i64 id] 3).bl hb)
  have HB := Lib.hid (((Bl.refl w).alloc _).bl hb)
  obtain ⟨A1, c1, rfl⟩ := ho.slice
  clear ho hb
  go_wp2_with fail
  refine (delTrack_any _ hs id w.heap.size _ _ HZ.out (HK.out.cell 0) (by simp) hl).mono ?_
  rintro e w2 ⟨y, rfl, ho, hg, hob⟩
  have HO := Lib.hid ho
  have HG := Lib.hid (HB.out.grown hg (fun k hk => by have := (Enc.Own.lt HZ.out k hk).1; simp at this; omega))
  have hsz := hg.size
  obtain ⟨A2, c2, rfl⟩ := ho.slice
  clear ho hg
  go_wp2_with fail
  go_ret
  refine ⟨w2.heap.size, ⟨A2, (others id hs).length, c2⟩, hs, rfl, Blk.new _ _ _, HG.out.size, (HO.out.low (by simp)).bl ((Bl.refl _).alloc _), ?_, HR.out, HG.out.alloc _⟩
  exact fun he => by have := (Enc.Own.lt HO.out _ he).2; omega

theorem swithout_any (v : Value) (s : StM) (id : Int) (w : World) (h : StateIs w v s) (hn : s.length ≤ 1000) :
    Calls Try.prog 41 #[v, .int .i64 id] w fun e w' => ∃ u, e = .returned u ∧ StateIs w' u (withoutS s id) ∧ Bl w w' :=
  (swithout_own v s id w h hn).mono fun e w' => by
    rintro ⟨b, u, hs, rfl, hk, _, ho, _, hr, hb⟩
    exact ⟨_, rfl, ⟨b, u, others id hs, rfl, hk.cell 0, ho.is, (hr.bl hb).filter (fun i => i != id)⟩, hb⟩
end Go.Proofs.Ytddcjekkimajpaa.ExtW
