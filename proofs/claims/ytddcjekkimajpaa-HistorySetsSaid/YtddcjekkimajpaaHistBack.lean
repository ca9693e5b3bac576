/- The walk of overdublaw22.HistoryBack. -/
import Derived.Test.YtddcjekkimajpaaHistPure
import Derived.Test.YtddcjekkimajpaaKeepV
import Derived.Deep.CutBlock
import Derived.Outline
namespace Go.Proofs.Ytddcjekkimajpaa.ExtW
open Go.RowKit Go.Ov Go.Proofs.Ytddcjekkimajpaa.Need

/-- the row of all states, and a history -/
structure BackR (w wr : World) (B gA : Nat) (v : Value) (us : List Nat) (S : List StM) (m : HistM) : Prop where
  z : ZOwn 23 wr gA v us
  s : SRows wr us S
  lt : B < gA
  h : HistIs 95 wr B m
  ok : ∀ s ∈ S, P5 s
  b : Bl w wr
  wB : w.heap.size ≤ B
theorem BackR.len {w wr : World} {B gA : Nat} {v : Value} {us : List Nat} {S : List StM} {m : HistM} (h : BackR w wr B gA v us S m) : us.length = S.length := h.s.1
theorem BackR.Blt {w wr : World} {B gA : Nat} {v : Value} {us : List Nat} {S : List StM} {m : HistM} (h : BackR w wr B gA v us S m) : B < wr.heap.size := Nat.lt_trans h.lt h.z.lt
theorem BackR.bl {w wr wr' : World} {B gA : Nat} {v : Value} {us : List Nat} {S : List StM} {m : HistM} (h : BackR w wr B gA v us S m) (hb : Bl wr wr') : BackR w wr' B gA v us S m :=
  ⟨h.z.bl hb, h.s.bl hb, h.lt, h.h.bl hb, h.ok, h.b.bl hb, h.wB⟩
theorem srows_B {T : TypeId} {w w' : World} {B : Nat} {m : HistM} {us : List Nat} {S : List StM} (hh : HistIs T w B m) (h : SRows w us S) (hg : w.grownBy w' (some B)) : SRows w' us S := by
  obtain ⟨n, u, r, us', rs, h0, _⟩ := hh
  exact srows_kh h0 (fun a v ha hv => by
    have hlt := World.block_lt_of_cell? w a hv
    unfold World.cell? at hv ⊢
    rw [hg.block a.block hlt (fun e => ha (by injection e))]; exact hv) h
theorem BackR.apply {w wr wr' : World} {B gA : Nat} {v : Value} {us : List Nat} {S : List StM} {m m' : HistM} (h : BackR w wr B gA v us S m) (hg : wr.grownBy wr' (some B)) (hh : HistIs 95 wr' B m') : BackR w wr' B gA v us S m' :=
  ⟨h.z.grown hg (fun e => by injection e with e; have := h.lt; omega), srows_B h.h h.s hg, h.lt, hh, h.ok, h.b.grown hg (fun k hk => by injection hk with hk; have := h.wB; omega), h.wB⟩
theorem srows_snoc {w : World} {bs : List Nat} {ss : List StM} {b : Nat} {s : StM} (h : SRows w bs ss) (hs : StateIs w (.pointer (some ⟨b, 0, none⟩)) s) : SRows w (bs ++ [b]) (ss ++ [s]) := h.snoc hs
theorem BackR.push {w wr wr' : World} {B gA gA' b : Nat} {v v' : Value} {us : List Nat} {S : List StM} {m : HistM} {s : StM} (h : BackR w wr B gA v us S m) (hs : StateIs wr (.pointer (some ⟨b, 0, none⟩)) s) (hp : P5 s)
    (hz : ZOwn 23 wr' gA' v' (us ++ [b])) (hg : (wr.alloc (.cells #[.pointer (some ⟨b, 0, none⟩)] 23)).grownBy wr' (some gA)) (hl : gA' = gA ∨ wr.heap.size ≤ gA') (hk : KeepV notZ (wr.alloc (.cells #[.pointer (some ⟨b, 0, none⟩)] 23)) wr') :
    BackR w wr' B gA' v' (us ++ [b]) (S ++ [s]) m := by
  have ha := (Bl.refl wr).alloc (.cells #[.pointer (some ⟨b, 0, none⟩)] 23)
  refine ⟨hz, ((h.s.bl ha).kv goodZ hk).snoc ((hs.bl ha).kv goodZ hk), ?_, (h.h.bl ha).kv goodZ hk hg (fun g e => by injection e with e; have := h.lt; omega), fun t ht => ?_, (h.b.bl ha).grown hg (fun k e => by injection e with e; have := h.lt; have := h.wB; omega), h.wB⟩
  · rcases hl with rfl | hl
    · exact h.lt
    · have := h.Blt; omega
  · rcases List.mem_append.1 ht with ht | ht
    · exact h.ok t ht
    · simp at ht; subst ht; exact hp
theorem BackR.at {w wr : World} {B gA : Nat} {v : Value} {us : List Nat} {S : List StM} {m : HistM} (h : BackR w wr B gA v us S m) {d x : Nat} (hx : us[d]? = some x) : wr.cell? ⟨gA, d, none⟩ = some (.pointer (some ⟨x, 0, none⟩)) := by
  obtain ⟨hl, e⟩ := List.getElem?_eq_some_iff.1 hx
  rw [← e]; exact h.z.at d hl
theorem hAt_now {S : List StM} {lo p : Nat} (hp : p < S.length) (h : ∀ s ∈ S, P5 s) : P5 (hAt S lo p).now := by
  have : (hAt S lo p).now = S[p] := by simp only [hAt]; rw [List.getD_eq_getElem?_getD, List.getElem?_eq_getElem hp]; rfl
  rw [this]; exact h _ (List.getElem_mem hp)

theorem sameS_self (s : StM) : sameS s s = true := by unfold sameS; simp
theorem back_undo (S : List StM) (N j : Nat) (hS : S.length = N + 1) (h1 : j < N) (h2 : j < 4) (_h3 : N ≤ 7) : applyH (hAt S (N - 4) (N - j)) ⟨4, 0, 0, 0, []⟩ = (hAt S (N - 4) (N - (j + 1)), 0) := by
  have hu : 0 < (hAt S (N - 4) (N - j)).undo.length := by rw [hAt_len1 _ _ _ (by omega)]; omega
  rw [applyH_U, dif_pos hu, hAt_undo S (N - 4) (N - j) (by omega) (by omega) (by omega) hu, show N - j - 1 = N - (j + 1) by omega]
theorem back_redo (S : List StM) (N r : Nat) (hS : S.length = N + 1) (h1 : r < N) (h2 : r < 4) (_h3 : N ≤ 7) : applyH (hAt S (N - 4) (N - (r + 1))) ⟨5, 0, 0, 0, []⟩ = (hAt S (N - 4) (N - r), 0) := by
  have hu : 0 < (hAt S (N - 4) (N - (r + 1))).redo.length := by rw [hAt_len2]; omega
  rw [applyH_R, dif_pos hu, hAt_redo S (N - 4) (N - (r + 1)) (by omega) (by omega) (by omega) hu, show N - (r + 1) + 1 = N - r by omega]
def Made (w wc : World) (B : Nat) (v6 : Value) : Prop := ∃ (gA : Nat) (us : List Nat) (S : List StM), 1 ≤ S.length ∧ S.length ≤ 8 ∧ BackR w wc B gA v6 us S (hAt S (S.length - 1 - 4) (S.length - 1))

set_option maxRecDepth 100000 in
set_option maxHeartbeats 4000000 in
theorem back_walk (v : Value) (l : List Int) (n : Int) (w : World) (h : ArgInts w v l) (_hn : -9223372036854775808 ≤ n ∧ n ≤ 9223372036854775807) :
    Calls Try.prog 8 #[v, .int .i64 n] w fun e w' => e = .returned (.bool true) ∧ Bl w w' := by
  obtain ⟨⟨A, c, rfl, _, q1, _, hA⟩, _, _⟩ := h
  have HA := Lib.hid hA
  unfold maxLen at q1
  have hl : l.length ≤ 9223372036854775807 := by omega
  clear hA q1
  go_enter Try.func8, Try.ntmps8
  go_wp2_with fail
  refine (hnew_any _).mono ?_
  rintro e w1 ⟨B, rfl, hBw, hh, hb⟩
  have HH := Lib.hid hh
  have HB := Lib.hid hb
  have hB1 : B < w1.heap.size := by obtain ⟨_, _, _, _, _, h0, _⟩ := id hh; exact h0.lt
  clear hh hb
  go_wp2_with fail
  refine (hnow_any B _ _ HH.out).mono ?_
  rintro e w2 ⟨u, rfl, hs, rfl⟩
  obtain ⟨b0, _, _, rfl, _⟩ := id hs
  have HS := Lib.hid hs
  clear hs
  go_upto_block 0 with fail
  have HR := Lib.hid (show BackR w (w1.alloc (.cells #[.pointer (some ⟨b0, 0, none⟩)] 23)) B w1.heap.size (.slice (some ⟨w1.heap.size, 0, none⟩) 1 1) [b0] [[]] (hAt [[]] (0 - 4) 0) from
    ⟨ZOwn.lit w1 b0 rfl, (SRows.nil _).snoc (HS.out.bl ((Bl.refl _).alloc _)), hB1, HH.out.bl ((Bl.refl _).alloc _), (fun s hs => by simp at hs; subst hs; exact P5.nil), HB.out.bl ((Bl.refl _).alloc _), hBw⟩)
  clear HH HB HS
  go_cut [6] (fun v6 wc => Made w wc B v6)
  case first =>
    go_wp2_with fail
    go_loopg [6, 7] l.length (fun g v6 i wr => ∃ (k gA : Nat) (us : List Nat) (S : List StM), k ≤ l.length ∧ k ≤ 7 ∧ g = l.length - k ∧ i = .int .i64 k ∧ Hid (S.length = k + 1) ∧ Hid (BackR w wr B gA v6 us S (hAt S (k - 4) k)))
    case atStart => exact ⟨0, _, _, _, by omega, by omega, rfl, rfl, Lib.hid rfl, HR⟩
    case round =>
      clear HR
      obtain ⟨k, gA, us, S, hk, hk7, rfl, rfl, HSL, HR⟩ := hrel
      by_cases hlt : k < l.length ∧ k < 7
      · obtain ⟨hlt, hlt12⟩ := hlt
        obtain ⟨ad, rfl, d0⟩ := int_at (HA.out.bl HR.out.b) k hlt
        generalize l[k] = x at d0
        have hx := within_bd x 5 (by decide)
        have hkl : (k : Int) < l.length := by omega
        obtain ⟨dd, hid⟩ : ∃ dd, dd = within x 5 := ⟨_, rfl⟩
        rw [← hid] at hx
        have HID := Lib.hid hid
        obtain ⟨hx0, hx1⟩ := hx
        have hnow := hAt_now (lo := k - 4) (show k < S.length by have := HSL.out; omega) HR.out.ok
        have hc := apply_pair _ dd hnow.1 hnow.len hx0 (by omega)
        have HN := Lib.hid hnow
        have hcap : (hAt S (k - 4) k).undo.length ≤ 4 ∧ (hAt S (k - 4) k).redo.length ≤ 4 := by rw [hAt_len1 _ _ _ (by have := HSL.out; omega), hAt_len2]; have := HSL.out; omega
        obtain ⟨hc1, hc2⟩ := hcap
        have HC1 := Lib.hid hc1
        have HC2 := Lib.hid hc2
        obtain ⟨c6, rfl, hc6⟩ := HR.out.z.slice
        clear hid hnow hc1 hc2
        rcases hc with ⟨g1, g2, g3⟩ | ⟨g1, g2, g3, g4⟩
        · have E := Lib.hid (show applyH (hAt S (k - 4) k) (recC dd) = (hAt (S ++ [putL (hAt S (k - 4) k).now dd (treeM [])]) (k + 1 - 4) (k + 1), 0) by
            rw [applyH_C _ _ hx0 (by omega), g2, if_pos rfl, hAt_step _ _ _ HSL.out])
          have HP := Lib.hid (HN.out.put hx0 hx1 g3)
          clear g1 g2 g3
          go_wp2_with fail
          refine (within_any _ _ _ (by decide)).mono ?_
          rintro e w2 ⟨rfl, rfl⟩
          rw [← HID.out]
          go_wp2_with fail
          refine (happly_any B _ _ (recC dd) _ HR.out.h (rec_is _ 1 dd 0 0) HN.out.1.1 HC1.out HC2.out).mono ?_
          rintro e w2 ⟨rfl, hh, hg⟩
          rw [E.out] at hh ⊢
          have HR2 := Lib.hid (HR.out.apply hg hh)
          clear hh hg
          go_wp2_with fail
          refine (hnow_any B _ _ HR2.out.h).mono ?_
          rintro e x2 ⟨u, rfl, hs, rfl⟩
          obtain ⟨bN, _, _, rfl, _⟩ := id hs
          rw [show (hAt (S ++ [(putL (hAt S (k - 4) k).now dd (treeM []))]) (k + 1 - 4) (k + 1)).now = (putL (hAt S (k - 4) k).now dd (treeM [])) from by
            simp only [hAt]; rw [List.getD_eq_getElem?_getD, List.getElem?_append_right (by have := HSL.out; omega), show k + 1 - S.length = 0 by have := HSL.out; omega]; rfl] at hs
          have HS := Lib.hid hs
          clear hs
          have hln : us.length ≤ 1000000 := by have := HR2.out.len; have := HSL.out; omega
          go_wp2_with (at_builtin; refine ZOwn.append Try.underlying56 infoPtr rfl (.tmp 47) (.tmp 50) rfl HR2.out.z rfl hln bN rfl rfl ?_; intro v1 w4 g' g1 g2 g3 g4; have HR3 := Lib.hid (HR2.out.push HS.out HP.out g1 g2 g3 g4); obtain ⟨c5, rfl, _⟩ := g1.slice; clear g2 g3 g4)
          have hr3 := HR3.out
          rw [List.length_append, List.length_singleton] at hr3
          have HR4 := Lib.hid hr3
          clear hr3
          go_roundg (l.length - (k + 1))
          case measure => omega
          case rel => exact ⟨k + 1, _, _, _, by omega, by omega, rfl, by go_num, Lib.hid (show (S ++ [(putL (hAt S (k - 4) k).now dd (treeM []))]).length = k + 1 + 1 by rw [List.length_append, HSL.out]; rfl), HR4⟩
        · have E := Lib.hid (show applyH (hAt S (k - 4) k) (recC dd) = (hAt S (k - 4) k, 6) by
            rw [applyH_C _ _ hx0 (by omega), g2, if_neg (by decide)])
          have E2 := Lib.hid (show applyH (hAt S (k - 4) k) (recD dd) = (hAt (S ++ [withoutS (hAt S (k - 4) k).now dd]) (k + 1 - 4) (k + 1), 0) by
            rw [applyH_D _ _ hx0 (by omega), g3, if_pos rfl, hAt_step _ _ _ HSL.out])
          have HP := Lib.hid (HN.out.without g4)
          clear g1 g2 g3 g4
          go_wp2_with fail
          refine (within_any _ _ _ (by decide)).mono ?_
          rintro e w2 ⟨rfl, rfl⟩
          rw [← HID.out]
          go_wp2_with fail
          refine (happly_any B _ _ (recC dd) _ HR.out.h (rec_is _ 1 dd 0 0) HN.out.1.1 HC1.out HC2.out).mono ?_
          rintro e w2 ⟨rfl, hh, hg⟩
          rw [E.out] at hh ⊢
          have HR1 := Lib.hid (HR.out.apply hg hh)
          clear hh hg
          go_wp2_with fail
          refine (happly_any B _ _ (recD dd) _ HR1.out.h (rec_is _ 2 dd 0 0) HN.out.1.1 HC1.out HC2.out).mono ?_
          rintro e w3 ⟨rfl, hh, hg⟩
          rw [E2.out] at hh ⊢
          have HR2 := Lib.hid (HR1.out.apply hg hh)
          clear hh hg
          go_wp2_with fail
          refine (hnow_any B _ _ HR2.out.h).mono ?_
          rintro e x2 ⟨u, rfl, hs, rfl⟩
          obtain ⟨bN, _, _, rfl, _⟩ := id hs
          rw [show (hAt (S ++ [(withoutS (hAt S (k - 4) k).now dd)]) (k + 1 - 4) (k + 1)).now = (withoutS (hAt S (k - 4) k).now dd) from by
            simp only [hAt]; rw [List.getD_eq_getElem?_getD, List.getElem?_append_right (by have := HSL.out; omega), show k + 1 - S.length = 0 by have := HSL.out; omega]; rfl] at hs
          have HS := Lib.hid hs
          clear hs
          have hln : us.length ≤ 1000000 := by have := HR2.out.len; have := HSL.out; omega
          go_wp2_with (at_builtin; refine ZOwn.append Try.underlying56 infoPtr rfl (.tmp 47) (.tmp 50) rfl HR2.out.z rfl hln bN rfl rfl ?_; intro v1 w4 g' g1 g2 g3 g4; have HR3 := Lib.hid (HR2.out.push HS.out HP.out g1 g2 g3 g4); obtain ⟨c5, rfl, _⟩ := g1.slice; clear g2 g3 g4)
          have hr3 := HR3.out
          rw [List.length_append, List.length_singleton] at hr3
          have HR4 := Lib.hid hr3
          clear hr3
          go_roundg (l.length - (k + 1))
          case measure => omega
          case rel => exact ⟨k + 1, _, _, _, by omega, by omega, rfl, by go_num, Lib.hid (show (S ++ [(withoutS (hAt S (k - 4) k).now dd)]).length = k + 1 + 1 by rw [List.length_append, HSL.out]; rfl), HR4⟩
      · have hS : S.length - 1 = k := by have := HSL.out; omega
        have HM := Lib.hid (show Made w wr B _ from ⟨gA, us, S, by have := HSL.out; omega, by have := HSL.out; omega, by rw [hS]; exact HR.out⟩)
        clear hS
        rcases (show (k < l.length ∧ ¬ k < 7) ∨ ¬ k < l.length from by by_cases q : k < l.length; exact .inl ⟨q, fun p => hlt ⟨q, p⟩⟩; exact .inr q) with ⟨hkl2, hk7⟩ | hkl2
        all_goals
          clear hlt
          go_wp2_with fail
          go_meet
          exact HM.out
  case rest =>
  obtain ⟨gA, us, S, hS1, hS8, hR⟩ := hcut
  obtain ⟨c6, rfl, hc6⟩ := hR.z.slice
  obtain ⟨N, hN⟩ : ∃ N, N = S.length - 1 := ⟨_, rfl⟩
  have hul : us.length = N + 1 := by have := hR.len; omega
  rw [← hN, hul] at hR
  rw [hul]
  have HR1 := Lib.hid hR
  have HU := Lib.hid hul
  have HNS := Lib.hid (show S.length = N + 1 by omega)
  have hN7 : N ≤ 7 := by omega
  clear hR HR hN hul hc6 hS1 hS8
  go_upto_block 2 with fail
  go_cut [] (fun wx => wx = wc)
  case first =>
    go_wp2_with fail
    go_loopg [54, 9] (N + 1) (fun g v54 v9 wr => ∃ k : Nat, k ≤ N + 1 ∧ g = N + 1 - k ∧ v54 = .int .i64 k ∧ wr = wc)
    case atStart => exact ⟨0, by omega, rfl, rfl, rfl⟩
    case round =>
      obtain ⟨k, hk, rfl, rfl, rfl⟩ := hrel
      by_cases hlt : k < N + 1
      · have d0 := HR1.out.z.at k (by have := HU.out; omega)
        generalize us[k]'(by have := HU.out; omega) = x at d0
        go_wp2_with fail
        go_roundg (N + 1 - (k + 1))
        case measure => omega
        case rel => exact ⟨k + 1, by omega, rfl, by go_num, rfl⟩
      · go_wp2_with fail
        go_meet
        rfl
  case rest =>
  obtain rfl := hcut
  have hb := within_bd n (min (N : Int) 4 + 1) (by omega)
  obtain ⟨bk, hbk⟩ : ∃ bk : Nat, (bk : Int) = within n (min (N : Int) 4 + 1) := ⟨(within n (min (N : Int) 4 + 1)).toNat, by omega⟩
  have hbk4 : bk ≤ N ∧ bk ≤ 4 := by omega
  obtain ⟨hbkN, hbk4⟩ := hbk4
  have HBK := Lib.hid hbk
  clear hb hbk
  have hmn : (1 : Int) ≤ min (N : Int) 4 + 1 := by omega
  have hmn2 : min (N : Int) 4 + 1 ≤ 9223372036854775807 := by omega
  go_wp2_with fail
  refine (within_any _ _ _ hmn2).mono ?_
  rintro e w2 ⟨rfl, rfl⟩
  rw [← HBK.out]
  clear hmn hmn2
  go_upto_block 4 with fail
  go_cut [12] (fun v12 wy => Hid (BackR w wy B gA (.slice (some ⟨gA, 0, none⟩) (N + 1) c6) us S (hAt S (N - 4) (N - bk))))
  case first =>
    go_wp2_with fail
    go_loopg [12] bk (fun g v12 wr => ∃ j : Nat, j ≤ bk ∧ g = bk - j ∧ v12 = .int .i64 (j + 1) ∧ Hid (BackR w wr B gA (.slice (some ⟨gA, 0, none⟩) (N + 1) c6) us S (hAt S (N - 4) (N - j))))
    case atStart => exact ⟨0, by omega, rfl, rfl, HR1⟩
    case round =>
      obtain ⟨j, hj, rfl, rfl, HR⟩ := hrel
      by_cases hlt : j < bk
      · have hjj : (j : Int) + 1 ≤ bk := by omega
        obtain ⟨d, hd⟩ : ∃ d, d = N - (j + 1) := ⟨_, rfl⟩
        have hdl : d < us.length := by have := HU.out; omega
        have d0 := HR.out.z.at d hdl
        have hst := HR.out.s.2 d (S[d]'(by have := HR.out.len; omega)) us[d] (List.getElem?_eq_getElem _) (List.getElem?_eq_getElem _)
        have hp5 := HR.out.ok (S[d]'(by have := HR.out.len; omega)) (List.getElem_mem _)
        have hnow : (hAt S (N - 4) (N - (j + 1))).now = S[d]'(by have := HR.out.len; omega) := by
          rw [← hd]; simp only [hAt]; rw [List.getD_eq_getElem?_getD, List.getElem?_eq_getElem (by have := HR.out.len; omega)]; rfl
        have E := Lib.hid (back_undo S N j HNS.out (by omega) (by omega) (by omega))
        have hok := hAt_now (lo := N - 4) (show N - j < S.length by have := HNS.out; omega) HR.out.ok
        have hl1 : (hAt S (N - 4) (N - j)).undo.length ≤ 4 := by rw [hAt_len1 _ _ _ (by have := HNS.out; omega)]; omega
        have hl2 : (hAt S (N - 4) (N - j)).redo.length ≤ 4 := by rw [hAt_len2]; have := HNS.out; omega
        have HOK := Lib.hid hok
        have HL1 := Lib.hid hl1
        have HL2 := Lib.hid hl2
        have HNow := Lib.hid hnow
        have HP := Lib.hid hp5
        have HX := Lib.hid (List.getElem?_eq_getElem hdl)
        have HSD := Lib.hid (List.getElem?_eq_getElem (show d < S.length by have := HR.out.len; omega))
        generalize S[d]'(by have := HR.out.len; omega) = sd at *
        generalize us[d] = x at *
        clear hst hok hl1 hl2 hnow hp5
        have HD := Lib.hid hd
        have i1 : (0 : Int) ≤ (d : Int) := by omega
        have i2 : (d : Int) < (N : Int) + 1 := by omega
        have i3 : d < N + 1 := by omega
        have i4 : IntKind.i64.wrap ((N : Int) - ((j : Int) + 1)) = (d : Int) := by rw [IntWalk.i64_in _ (by omega)]; omega
        clear hd
        go_wp2_with fail
        refine wp_region_ways (S := (fun w' => w'.cell? ⟨gA, d, none⟩ = some (.pointer (some ⟨x, 0, none⟩)))) [0, 1, 3, 4, 5, 7, 8, 9, 10, 11, 12, 14, 15] (y := .take 0 (.take 1 (.ev 2 (.take 3 (.take 4 (.take 5 (.take 7 (.take 8 (.take 9 (.take 10 (.take 11 (.take 12 (.ev 6 (.ev 13 (.take 14 (.take 15 (.done))) (.stop)) (.stop))))))))))) (.stop)))) (by kernel_rfl) (by kernel_rfl) (by kernel_rfl) ?_ (fun hHeld => ?_)
        · exact ((Bl.refl wr).drew).cell d0
        repeat (first | (refine wpWay_take rfl (by rfl) (by intro w hSw; (try dsimp only at hSw); first | (go_simp; done) | (go_simp; with_reducible rfl)) ?_; try simp only [Act.put, List.setIfInBounds_toArray, List.set_cons_zero, List.set_cons_succ]) | (refine wpWay_skip rfl (by rfl) ?_; try simp only [Act.put, List.setIfInBounds_toArray, List.set_cons_zero, List.set_cons_succ]))
        refine wpWay_ev rfl (fun K hK => ?_) wpWay_stop
        go_wp2_with fail
        refine (happly_any B _ _ ⟨4, 0, 0, 0, []⟩ _ (HR.out.h.bl (Bl.refl wr).drew) (rec_is _ 4 0 0 0) HOK.out.1.1 HL1.out HL2.out).mono ?_
        rintro e w2 ⟨rfl, hh, hg⟩
        rw [E.out] at hh ⊢
        have HR2 := Lib.hid ((HR.out.bl (Bl.refl wr).drew).apply hg hh)
        clear hh hg hHeld d0
        go_wp2_with fail
        refine ⟨HR2.out.at HX.out, ?_⟩
        repeat (first | (refine wpWay_take rfl (by rfl) (by intro w hSw; (try dsimp only at hSw); first | (go_simp; done) | (go_simp; with_reducible rfl)) ?_; try simp only [Act.put, List.setIfInBounds_toArray, List.set_cons_zero, List.set_cons_succ]) | (refine wpWay_skip rfl (by rfl) ?_; try simp only [Act.put, List.setIfInBounds_toArray, List.set_cons_zero, List.set_cons_succ]))
        refine wpWay_ev rfl (fun K hK => ?_) wpWay_stop
        go_wp2_with fail
        refine (hnow_any B _ _ HR2.out.h).mono ?_
        rintro e x2 ⟨u, rfl, hs, rfl⟩
        obtain ⟨bN, _, _, rfl, _⟩ := id hs
        rw [HNow.out] at hs
        have HS := Lib.hid hs
        clear hs
        go_wp2_with fail
        refine ⟨HR2.out.at HX.out, ?_⟩
        repeat (first | (refine wpWay_take rfl (by rfl) (by intro w hSw; (try dsimp only at hSw); first | (go_simp; done) | (go_simp; with_reducible rfl)) ?_; try simp only [Act.put, List.setIfInBounds_toArray, List.set_cons_zero, List.set_cons_succ]) | (refine wpWay_skip rfl (by rfl) ?_; try simp only [Act.put, List.setIfInBounds_toArray, List.set_cons_zero, List.set_cons_succ]))
        refine wpWay_ev rfl (fun K hK => ?_) wpWay_stop
        go_wp2_with fail
        refine (ssame_any _ _ _ _ _ HS.out (HR2.out.s.2 d sd x HSD.out HX.out) HP.out.1.1.2 HP.out.1.1.2).mono ?_
        rintro e x3 ⟨rfl, hb⟩
        rw [sameS_self]
        have HR3 := Lib.hid (HR2.out.bl hb)
        clear hb
        go_wp2_with fail
        refine ⟨HR3.out.at HX.out, ?_⟩
        repeat (first | (refine wpWay_take rfl (by rfl) (by intro w hSw; (try dsimp only at hSw); first | (go_simp; done) | (go_simp; with_reducible rfl)) ?_; try simp only [Act.put, List.setIfInBounds_toArray, List.set_cons_zero, List.set_cons_succ]) | (refine wpWay_skip rfl (by rfl) ?_; try simp only [Act.put, List.setIfInBounds_toArray, List.set_cons_zero, List.set_cons_succ]))
        refine wpWay_done ?_
        clear i4
        go_wp2_with fail
        go_roundg (bk - (j + 1))
        case measure => omega
        case rel => exact ⟨j + 1, by omega, rfl, by go_num, HR3⟩
      · have hjj : ¬ (j : Int) + 1 ≤ bk := by omega
        obtain rfl : j = bk := by omega
        go_wp2_with fail
        go_meet
        exact HR
  case rest =>
  have HR4 := hcut
  clear hcut HR1
  have hcap1 : (hAt S (N - 4) (N - bk)).undo.length = N - bk - (N - 4) := hAt_len1 _ _ _ (by have := HNS.out; omega)
  have hcap2 : (hAt S (N - 4) (N - bk)).redo.length = bk := by rw [hAt_len2]; have := HNS.out; omega
  have HL1 := Lib.hid hcap1
  have HL2 := Lib.hid hcap2
  clear hcap1 hcap2
  have hok := hAt_now (lo := N - 4) (show N - bk < S.length by have := HNS.out; omega) HR4.out.ok
  have HOK := Lib.hid hok
  clear hok
  go_upto_region 26 with fail
  go_cut [101] (fun v wy => v = .bool false ∧ Hid (BackR w wy B gA (.slice (some ⟨gA, 0, none⟩) (N + 1) c6) us S (hAt S (N - 4) (N - bk))))
  case first =>
    by_cases hbm : (bk : Int) = min (N : Int) 4
    · have E := Lib.hid (show applyH (hAt S (N - 4) (N - bk)) ⟨4, 0, 0, 0, []⟩ = (hAt S (N - 4) (N - bk), 5) by
        rw [applyH_U, dif_neg (by rw [HL1.out]; omega)])
      have hb1 : ((bk : Int) == min (N : Int) 4) = true := by rw [beq_iff_eq]; exact hbm
      have HBM := Lib.hid hbm
      clear hbm
      go_wp2_with fail
      refine (happly_any B _ _ ⟨4, 0, 0, 0, []⟩ _ HR4.out.h (rec_is _ 4 0 0 0) HOK.out.1.1 (by rw [HL1.out]; omega) (by rw [HL2.out]; omega)).mono ?_
      rintro e w2 ⟨rfl, hh, hg⟩
      rw [E.out] at hh ⊢
      have HR5 := Lib.hid (HR4.out.apply hg hh)
      clear hh hg
      go_wp2_with fail
      go_meet
      exact ⟨rfl, HR5⟩
    · have hb1 : ((bk : Int) == min (N : Int) 4) = false := by rw [beq_eq_false_iff_ne]; exact hbm
      go_wp2_with fail
      go_meet
      exact ⟨rfl, HR4⟩
  case rest =>
  obtain ⟨rfl, HR5⟩ := hcut
  clear HR4
  go_upto_block 6 with fail
  go_cut [13] (fun v13 wy => Hid (BackR w wy B gA (.slice (some ⟨gA, 0, none⟩) (N + 1) c6) us S (hAt S (N - 4) N)))
  case first =>
    go_wp2_with fail
    go_loopg [13] bk (fun g v13 wr => ∃ r : Nat, r ≤ bk ∧ r = g ∧ v13 = .int .i64 (r - 1) ∧ Hid (BackR w wr B gA (.slice (some ⟨gA, 0, none⟩) (N + 1) c6) us S (hAt S (N - 4) (N - r))))
    case atStart => exact ⟨bk, by omega, rfl, rfl, HR5⟩
    case round =>
      obtain ⟨r, hr, rfl, rfl, HR⟩ := hrel
      by_cases hlt : 0 < r
      · obtain ⟨r, rfl⟩ : ∃ q, r = q + 1 := ⟨r - 1, by omega⟩
        rw [show ((r + 1 : Nat) : Int) - 1 = r by omega]
        obtain ⟨d, hd⟩ : ∃ d, d = N - r := ⟨_, rfl⟩
        have hdl : d < us.length := by have := HU.out; omega
        have d0 := HR.out.z.at d hdl
        have hst := HR.out.s.2 d (S[d]'(by have := HR.out.len; omega)) us[d] (List.getElem?_eq_getElem _) (List.getElem?_eq_getElem _)
        have hp5 := HR.out.ok (S[d]'(by have := HR.out.len; omega)) (List.getElem_mem _)
        have hnow : (hAt S (N - 4) (N - r)).now = S[d]'(by have := HR.out.len; omega) := by
          rw [← hd]; simp only [hAt]; rw [List.getD_eq_getElem?_getD, List.getElem?_eq_getElem (by have := HR.out.len; omega)]; rfl
        have E := Lib.hid (back_redo S N r HNS.out (by omega) (by omega) (by omega))
        have hok := hAt_now (lo := N - 4) (show N - (r + 1) < S.length by have := HNS.out; omega) HR.out.ok
        have hl1 : (hAt S (N - 4) (N - (r + 1))).undo.length ≤ 4 := by rw [hAt_len1 _ _ _ (by have := HNS.out; omega)]; omega
        have hl2 : (hAt S (N - 4) (N - (r + 1))).redo.length ≤ 4 := by rw [hAt_len2]; have := HNS.out; omega
        have HOK := Lib.hid hok
        have HL1 := Lib.hid hl1
        have HL2 := Lib.hid hl2
        have HNow := Lib.hid hnow
        have HP := Lib.hid hp5
        have HX := Lib.hid (List.getElem?_eq_getElem hdl)
        have HSD := Lib.hid (List.getElem?_eq_getElem (show d < S.length by have := HR.out.len; omega))
        generalize S[d]'(by have := HR.out.len; omega) = sd at *
        generalize us[d] = x at *
        clear hst hok hl1 hl2 hnow hp5
        have HD := Lib.hid hd
        have i1 : (0 : Int) ≤ (d : Int) := by omega
        have i2 : (d : Int) < (N : Int) + 1 := by omega
        have i3 : d < N + 1 := by omega
        have i4 : IntKind.i64.wrap ((N : Int) - (r : Int)) = (d : Int) := by rw [IntWalk.i64_in _ (by omega)]; omega
        clear hd
        go_wp2_with fail
        refine wp_region_ways (S := (fun w' => w'.cell? ⟨gA, d, none⟩ = some (.pointer (some ⟨x, 0, none⟩)))) [0, 1, 3, 4, 5, 7, 8, 9, 10, 11, 12, 14, 15] (y := .take 0 (.take 1 (.ev 2 (.take 3 (.take 4 (.take 5 (.take 7 (.take 8 (.take 9 (.take 10 (.take 11 (.take 12 (.ev 6 (.ev 13 (.take 14 (.take 15 (.done))) (.stop)) (.stop))))))))))) (.stop)))) (by kernel_rfl) (by kernel_rfl) (by kernel_rfl) ?_ (fun hHeld => ?_)
        · exact ((Bl.refl wr).drew).cell d0
        repeat (first | (refine wpWay_take rfl (by rfl) (by intro w hSw; (try dsimp only at hSw); first | (go_simp; done) | (go_simp; with_reducible rfl)) ?_; try simp only [Act.put, List.setIfInBounds_toArray, List.set_cons_zero, List.set_cons_succ]) | (refine wpWay_skip rfl (by rfl) ?_; try simp only [Act.put, List.setIfInBounds_toArray, List.set_cons_zero, List.set_cons_succ]))
        refine wpWay_ev rfl (fun K hK => ?_) wpWay_stop
        go_wp2_with fail
        refine (happly_any B _ _ ⟨5, 0, 0, 0, []⟩ _ (HR.out.h.bl (Bl.refl wr).drew) (rec_is _ 5 0 0 0) HOK.out.1.1 HL1.out HL2.out).mono ?_
        rintro e w2 ⟨rfl, hh, hg⟩
        rw [E.out] at hh ⊢
        have HR2 := Lib.hid ((HR.out.bl (Bl.refl wr).drew).apply hg hh)
        clear hh hg hHeld d0
        go_wp2_with fail
        refine ⟨HR2.out.at HX.out, ?_⟩
        repeat (first | (refine wpWay_take rfl (by rfl) (by intro w hSw; (try dsimp only at hSw); first | (go_simp; done) | (go_simp; with_reducible rfl)) ?_; try simp only [Act.put, List.setIfInBounds_toArray, List.set_cons_zero, List.set_cons_succ]) | (refine wpWay_skip rfl (by rfl) ?_; try simp only [Act.put, List.setIfInBounds_toArray, List.set_cons_zero, List.set_cons_succ]))
        refine wpWay_ev rfl (fun K hK => ?_) wpWay_stop
        go_wp2_with fail
        refine (hnow_any B _ _ HR2.out.h).mono ?_
        rintro e x2 ⟨u, rfl, hs, rfl⟩
        obtain ⟨bN, _, _, rfl, _⟩ := id hs
        rw [HNow.out] at hs
        have HS := Lib.hid hs
        clear hs
        go_wp2_with fail
        refine ⟨HR2.out.at HX.out, ?_⟩
        repeat (first | (refine wpWay_take rfl (by rfl) (by intro w hSw; (try dsimp only at hSw); first | (go_simp; done) | (go_simp; with_reducible rfl)) ?_; try simp only [Act.put, List.setIfInBounds_toArray, List.set_cons_zero, List.set_cons_succ]) | (refine wpWay_skip rfl (by rfl) ?_; try simp only [Act.put, List.setIfInBounds_toArray, List.set_cons_zero, List.set_cons_succ]))
        refine wpWay_ev rfl (fun K hK => ?_) wpWay_stop
        go_wp2_with fail
        refine (ssame_any _ _ _ _ _ HS.out (HR2.out.s.2 d sd x HSD.out HX.out) HP.out.1.1.2 HP.out.1.1.2).mono ?_
        rintro e x3 ⟨rfl, hb⟩
        rw [sameS_self]
        have HR3 := Lib.hid (HR2.out.bl hb)
        clear hb
        go_wp2_with fail
        refine ⟨HR3.out.at HX.out, ?_⟩
        repeat (first | (refine wpWay_take rfl (by rfl) (by intro w hSw; (try dsimp only at hSw); first | (go_simp; done) | (go_simp; with_reducible rfl)) ?_; try simp only [Act.put, List.setIfInBounds_toArray, List.set_cons_zero, List.set_cons_succ]) | (refine wpWay_skip rfl (by rfl) ?_; try simp only [Act.put, List.setIfInBounds_toArray, List.set_cons_zero, List.set_cons_succ]))
        refine wpWay_done ?_
        clear i4
        go_wp2_with fail
        go_roundg r
        case measure => omega
        case rel => exact ⟨r, by omega, rfl, by go_num, HR3⟩
      · obtain rfl : r = 0 := by omega
        have hjj : ¬ (0 : Int) ≤ ((0 : Nat) : Int) - 1 := by omega
        go_wp2_with fail
        go_meet
        exact HR
  case rest =>
  have HR6 := hcut
  clear hcut HR5 HL1 HL2 HOK
  have hu0 : (hAt S (N - 4) N).undo.length = N - (N - 4) := hAt_len1 _ _ _ (by have := HNS.out; omega)
  have hr0 : (hAt S (N - 4) N).redo.length = 0 := by rw [hAt_len2]; have := HNS.out; omega
  have hok := hAt_now (lo := N - 4) (show N < S.length by have := HNS.out; omega) HR6.out.ok
  have E := Lib.hid (show applyH (hAt S (N - 4) N) ⟨5, 0, 0, 0, []⟩ = (hAt S (N - 4) N, 5) by rw [applyH_R, dif_neg (by omega)])
  have HU0 := Lib.hid hu0
  have HR0 := Lib.hid hr0
  have HOK := Lib.hid hok
  clear hu0 hr0 hok
  go_wp2_with fail
  refine (happly_any B _ _ ⟨5, 0, 0, 0, []⟩ _ HR6.out.h (rec_is _ 5 0 0 0) HOK.out.1.1 (by rw [HU0.out]; omega) (by rw [HR0.out]; omega)).mono ?_
  rintro e w2 ⟨rfl, hh, hg⟩
  rw [E.out] at hh ⊢
  have HR7 := Lib.hid (HR6.out.apply hg hh)
  clear hh hg HR6 E
  go_wp2_with fail
  refine (hundo_any B _ _ HR7.out.h (by rw [HU0.out]; omega)).mono ?_
  rintro e x2 ⟨y1, us1, rfl, ho, hs, hb⟩
  have hl1 : us1.length = N - (N - 4) := by have := hs.1; rw [HU0.out] at this; exact this
  obtain ⟨A1, c1, rfl⟩ := ho.slice
  rw [hl1]
  have HR8 := Lib.hid (HR7.out.bl hb)
  clear hl1 ho hs hb HR7
  have hm1 : (((N - (N - 4) : Nat) : Int) == min (N : Int) 4) = true := by rw [beq_iff_eq]; omega
  have hm2 : (((N - (N - 4) : Nat) : Int) != min (N : Int) 4) = false := by rw [bne_eq_false_iff_eq]; omega
  by_cases h0 : 0 < N
  · have hm3 : (0 : Int) < min (N : Int) 4 := by omega
    have E := Lib.hid (back_undo S N 0 HNS.out h0 (by decide) hN7)
    have HL := Lib.hid (show (hAt S (N - 4) (N - 1)).undo.length ≤ 4 ∧ (hAt S (N - 4) (N - 1)).redo.length ≤ 4 by rw [hAt_len1 _ _ _ (by have := HNS.out; omega), hAt_len2]; have := HNS.out; omega)
    have HOK2 := Lib.hid (hAt_now (lo := N - 4) (show N - 1 < S.length by have := HNS.out; omega) HR8.out.ok)
    go_wp2_with fail
    refine (happly_any B _ _ ⟨4, 0, 0, 0, []⟩ _ HR8.out.h (rec_is _ 4 0 0 0) HOK.out.1.1 (by rw [HU0.out]; omega) (by rw [HR0.out]; omega)).mono ?_
    rintro e w3 ⟨rfl, hh, hg⟩
    rw [show applyH (hAt S (N - 4) N) ⟨4, 0, 0, 0, []⟩ = _ from E.out] at hh ⊢
    have HR9 := Lib.hid (HR8.out.apply hg hh)
    clear hh hg HR8 E HU0 HR0 HOK
    rcases apply_pair ((hAt S (N - 4) (N - 1))).now 9 HOK2.out.1 HOK2.out.len (by decide) (by decide) with ⟨g1, g2, g3⟩ | ⟨g1, _⟩
    · have E9 := Lib.hid (show applyH ((hAt S (N - 4) (N - 1))) (recC 9) = (stepH ((hAt S (N - 4) (N - 1))) (putL ((hAt S (N - 4) (N - 1))).now 9 (treeM [])), 0) by rw [applyH_C _ _ (by decide) (by decide), g2, if_pos rfl])
      clear g1 g2 g3
      go_wp2_with fail
      refine (happly_any B _ _ (recC 9) _ HR9.out.h (rec_is _ 1 9 0 0) HOK2.out.1.1 HL.out.1 HL.out.2).mono ?_
      rintro e w4 ⟨rfl, hh, hg⟩
      rw [E9.out] at hh ⊢
      have HR10 := Lib.hid (HR9.out.apply hg hh)
      clear hh hg
      go_wp2_with fail
      refine (hredo_any B _ _ HR10.out.h (by simp [stepH])).mono ?_
      rintro e w5 ⟨y2, rs2, rfl, ho, hs, hb⟩
      have hl1 : rs2.length = 0 := hs.1
      obtain ⟨A2, c2, rfl⟩ := ho.slice
      rw [hl1]
      have HR11 := Lib.hid (HR10.out.bl hb)
      clear hl1 ho hs hb
      go_wp2_with fail
      refine (wakes22_any _).mono ?_
      rintro e w6 ⟨rfl, hb⟩
      go_wp2_with fail
      go_ret
      exact ⟨rfl, HR11.out.b.bl hb⟩
    · refine absurd ?_ g1
      rw [getS_none]
      intro t ht he
      have := (HOK2.out.2 t ht).2
      omega
  · obtain rfl : N = 0 := by omega
    have hm3 : ¬ (0 : Int) < min ((0 : Nat) : Int) 4 := by omega
    have HL := Lib.hid (show (hAt S (0 - 4) 0).undo.length ≤ 4 ∧ (hAt S (0 - 4) 0).redo.length ≤ 4 by rw [HU0.out, HR0.out]; omega)
    rcases apply_pair ((hAt S (0 - 4) 0)).now 9 HOK.out.1 HOK.out.len (by decide) (by decide) with ⟨g1, g2, g3⟩ | ⟨g1, _⟩
    · have E9 := Lib.hid (show applyH ((hAt S (0 - 4) 0)) (recC 9) = (stepH ((hAt S (0 - 4) 0)) (putL ((hAt S (0 - 4) 0)).now 9 (treeM [])), 0) by rw [applyH_C _ _ (by decide) (by decide), g2, if_pos rfl])
      clear g1 g2 g3
      go_wp2_with fail
      refine (happly_any B _ _ (recC 9) _ HR8.out.h (rec_is _ 1 9 0 0) HOK.out.1.1 HL.out.1 HL.out.2).mono ?_
      rintro e w4 ⟨rfl, hh, hg⟩
      rw [E9.out] at hh ⊢
      have HR10 := Lib.hid (HR8.out.apply hg hh)
      clear hh hg
      go_wp2_with fail
      refine (hredo_any B _ _ HR10.out.h (by simp [stepH])).mono ?_
      rintro e w5 ⟨y2, rs2, rfl, ho, hs, hb⟩
      have hl1 : rs2.length = 0 := hs.1
      obtain ⟨A2, c2, rfl⟩ := ho.slice
      rw [hl1]
      have HR11 := Lib.hid (HR10.out.bl hb)
      clear hl1 ho hs hb
      go_wp2_with fail
      refine (wakes22_any _).mono ?_
      rintro e w6 ⟨rfl, hb⟩
      go_wp2_with fail
      go_ret
      exact ⟨rfl, HR11.out.b.bl hb⟩
    · refine absurd ?_ g1
      rw [getS_none]
      intro t ht he
      have := (HOK.out.2 t ht).2
      omega
end Go.Proofs.Ytddcjekkimajpaa.ExtW
