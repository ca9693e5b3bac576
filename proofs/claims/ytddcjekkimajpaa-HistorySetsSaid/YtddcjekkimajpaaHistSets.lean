/- The walk of overdublaw22.HistorySets. -/
import Derived.Test.YtddcjekkimajpaaHistBack
import Derived.Test.YtddcjekkimajpaaHistSet
namespace Go.Proofs.Ytddcjekkimajpaa.ExtW
open Go.RowKit Go.Ov Go.Proofs.Ytddcjekkimajpaa.Need

structure SetsR (w wr : World) (B : Nat) (row : Option Nat) (v : Value) (us : List Nat) (S : List StM) (m : HistM) : Prop where
  z : ZRow 23 wr row v us
  s : SRows wr us S
  lt : ∀ g, row = some g → B < g
  h : HistIs 95 wr B m
  ok : ∀ s ∈ S, SOK s
  b : Bl w wr
  wB : w.heap.size ≤ B
theorem SetsR.len {w wr : World} {B : Nat} {row : Option Nat} {v : Value} {us : List Nat} {S : List StM} {m : HistM} (h : SetsR w wr B row v us S m) : us.length = S.length := h.s.1
theorem SetsR.Blt {w wr : World} {B : Nat} {row : Option Nat} {v : Value} {us : List Nat} {S : List StM} {m : HistM} (h : SetsR w wr B row v us S m) : B < wr.heap.size := by
  obtain ⟨_, _, _, _, _, h0, _⟩ := h.h; exact h0.lt
theorem SetsR.bl {w wr wr' : World} {B : Nat} {row : Option Nat} {v : Value} {us : List Nat} {S : List StM} {m : HistM} (h : SetsR w wr B row v us S m) (hb : Bl wr wr') : SetsR w wr' B row v us S m :=
  ⟨h.z.bl hb, h.s.bl hb, h.lt, h.h.bl hb, h.ok, h.b.bl hb, h.wB⟩
theorem SetsR.apply {w wr wr' : World} {B : Nat} {row : Option Nat} {v : Value} {us : List Nat} {S : List StM} {m m' : HistM} (h : SetsR w wr B row v us S m) (hg : wr.grownBy wr' (some B)) (hh : HistIs 95 wr' B m') : SetsR w wr' B row v us S m' :=
  ⟨h.z.grown hg (by
    cases hr : row with
    | none => exact .inl rfl
    | some g => refine .inr fun e => ?_
                injection e with e
                have := h.lt g hr
                omega), srows_B h.h h.s hg, h.lt, hh, h.ok, h.b.grown hg (fun k hk => by injection hk with hk; have := h.wB; omega), h.wB⟩
theorem SetsR.push {w wr wr' : World} {B gA' b : Nat} {row : Option Nat} {v v' : Value} {us : List Nat} {S : List StM} {m : HistM} {s : StM} (h : SetsR w wr B row v us S m) (hs : StateIs wr (.pointer (some ⟨b, 0, none⟩)) s) (hp : SOK s)
    (hz : ZOwn 23 wr' gA' v' (us ++ [b])) (hg : (wr.alloc (.cells #[.pointer (some ⟨b, 0, none⟩)] 23)).grownBy wr' row) (hl : row = some gA' ∨ wr.heap.size ≤ gA') (hk : KeepV notZ (wr.alloc (.cells #[.pointer (some ⟨b, 0, none⟩)] 23)) wr') :
    SetsR w wr' B (some gA') v' (us ++ [b]) (S ++ [s]) m := by
  have ha := (Bl.refl wr).alloc (.cells #[.pointer (some ⟨b, 0, none⟩)] 23)
  refine ⟨.inr ⟨gA', rfl, hz⟩, ((h.s.bl ha).kv goodZ hk).snoc ((hs.bl ha).kv goodZ hk), ?_, (h.h.bl ha).kv goodZ hk hg h.lt, fun t ht => ?_, (h.b.bl ha).grown hg (fun k e => by have := h.lt k e; have := h.wB; omega), h.wB⟩
  · intro g e
    injection e with e
    subst e
    rcases hl with hl | hl
    · exact h.lt _ hl
    · have := h.Blt; omega
  · rcases List.mem_append.1 ht with ht | ht
    · exact h.ok t ht
    · simp at ht; subst ht; exact hp
theorem SetsR.at {w wr : World} {B : Nat} {row : Option Nat} {v : Value} {us : List Nat} {S : List StM} {m : HistM} (h : SetsR w wr B row v us S m) {d x : Nat} (hx : us[d]? = some x) : ∃ g c, v = .slice (some ⟨g, 0, none⟩) us.length c ∧ wr.cell? ⟨g, d, none⟩ = some (.pointer (some ⟨x, 0, none⟩)) := by
  obtain ⟨hl, e⟩ := List.getElem?_eq_some_iff.1 hx
  rcases h.z with ⟨_, _, rfl⟩ | ⟨g, _, h2⟩
  · simp at hl
  · obtain ⟨c, e1, _⟩ := h2.slice
    exact ⟨g, c, e1, by rw [← e]; exact h2.at d hl⟩

structure SetsQ (w wr : World) (B g g' c8 : Nat) (us : List Nat) (S : List StM) (s0 : StM) (n m : Nat) (Au : Option Addr) (cu : Nat) (us1 : List Nat) (Av : Option Addr) (cv : Nat) (us2 : List Nat) : Prop where
  r : SetsR w wr B (some g) (.slice (some ⟨g', 0, none⟩) us.length c8) us S ⟨s0, (S.take (1 + n)).drop 1, S.drop (1 + n)⟩
  o1 : ptrE.Is wr (.slice Au n cu) us1
  s1 : SRows wr us1 ((S.take (1 + n)).drop 1)
  o2 : ptrE.Is wr (.slice Av m cv) us2
  s2 : SRows wr us2 (S.drop (1 + n))
theorem SetsQ.bl {w wr wr' : World} {B g g' c8 : Nat} {us : List Nat} {S : List StM} {s0 : StM} {n m : Nat} {Au : Option Addr} {cu : Nat} {us1 : List Nat} {Av : Option Addr} {cv : Nat} {us2 : List Nat} (h : SetsQ w wr B g g' c8 us S s0 n m Au cu us1 Av cv us2) (hb : Bl wr wr') : SetsQ w wr' B g g' c8 us S s0 n m Au cu us1 Av cv us2 :=
  ⟨h.r.bl hb, h.o1.bl hb, h.s1.bl hb, h.o2.bl hb, h.s2.bl hb⟩
theorem SetsQ.hstate1 {w wr : World} {B g g' c8 : Nat} {us : List Nat} {S : List StM} {s0 : StM} {n m : Nat} {Au : Option Addr} {cu : Nat} {us1 : List Nat} {Av : Option Addr} {cv : Nat} {us2 : List Nat} (h : SetsQ w wr B g g' c8 us S s0 n m Au cu us1 Av cv us2) (k : Nat) (hk : k < n) (hl : us.length = n + m + 1) :
    ∃ (x y : Nat) (s : StM), us1[k]? = some x ∧ us[1 + k]? = some y ∧ StateIs wr (.pointer (some ⟨x, 0, none⟩)) s ∧ StateIs wr (.pointer (some ⟨y, 0, none⟩)) s ∧ SOK s := by
  have h1 := h.r.len
  have h2 := h.s1.1
  simp at h2
  have hS : 1 + k < S.length := by omega
  have e1 : ((S.take (1 + n)).drop 1)[k]? = some S[1 + k] := by
    rw [List.getElem?_drop, List.getElem?_take, if_pos (by omega)]; exact List.getElem?_eq_getElem hS
  exact ⟨us1[k]'(by omega), us[1 + k]'(by omega), S[1 + k], List.getElem?_eq_getElem _, List.getElem?_eq_getElem _, h.s1.2 k _ _ e1 (List.getElem?_eq_getElem _), h.r.s.2 (1 + k) _ _ (List.getElem?_eq_getElem hS) (List.getElem?_eq_getElem _), h.r.ok _ (List.getElem_mem _)⟩
theorem SetsQ.hstate2 {w wr : World} {B g g' c8 : Nat} {us : List Nat} {S : List StM} {s0 : StM} {n m : Nat} {Au : Option Addr} {cu : Nat} {us1 : List Nat} {Av : Option Addr} {cv : Nat} {us2 : List Nat} (h : SetsQ w wr B g g' c8 us S s0 n m Au cu us1 Av cv us2) (k : Nat) (hk : k < m) (hl : us.length = n + m + 1) :
    ∃ (x y : Nat) (s : StM), us2[k]? = some x ∧ us[1 + n + k]? = some y ∧ StateIs wr (.pointer (some ⟨x, 0, none⟩)) s ∧ StateIs wr (.pointer (some ⟨y, 0, none⟩)) s ∧ SOK s := by
  have h1 := h.r.len
  have h2 := h.s2.1
  simp at h2
  have hS : 1 + n + k < S.length := by omega
  have e1 : (S.drop (1 + n))[k]? = some S[1 + n + k] := by
    rw [List.getElem?_drop]; exact List.getElem?_eq_getElem hS
  exact ⟨us2[k]'(by omega), us[1 + n + k]'(by omega), S[1 + n + k], List.getElem?_eq_getElem _, List.getElem?_eq_getElem _, h.s2.2 k _ _ e1 (List.getElem?_eq_getElem _), h.r.s.2 (1 + n + k) _ _ (List.getElem?_eq_getElem hS) (List.getElem?_eq_getElem _), h.r.ok _ (List.getElem_mem _)⟩
def SetsM (w wc : World) (B : Nat) (v8 : Value) (L : Nat) : Prop := ∃ (g : Nat) (us : List Nat) (S : List StM), us.length = L ∧ SetsR w wc B (some g) v8 us S noH

set_option maxRecDepth 100000 in
set_option maxHeartbeats 4000000 in
theorem sets_walk (v : Value) (l : List Int) (n0 m0 : Int) (w : World) (h : ArgInts w v l) (_hn : -9223372036854775808 ≤ n0 ∧ n0 ≤ 9223372036854775807) (_hm : -9223372036854775808 ≤ m0 ∧ m0 ≤ 9223372036854775807) :
    Calls Try.prog 9 #[v, .int .i64 n0, .int .i64 m0] w fun e w' => e = .returned (.bool true) ∧ Bl w w' := by
  obtain ⟨⟨A, c, rfl, _, q1, _, hA⟩, _, _⟩ := h
  have HA := Lib.hid hA
  unfold maxLen at q1
  have hl : l.length ≤ 9223372036854775807 := by omega
  have hb := within_bd n0 6 (by omega)
  have hb' := within_bd m0 6 (by omega)
  obtain ⟨n, hn⟩ : ∃ n : Nat, (n : Int) = within n0 6 := ⟨(within n0 6).toNat, by omega⟩
  obtain ⟨m, hm⟩ : ∃ m : Nat, (m : Int) = within m0 6 := ⟨(within m0 6).toNat, by omega⟩
  have hn6 : n < 6 := by omega
  have hm6 : m < 6 := by omega
  have HN := Lib.hid hn
  have HM := Lib.hid hm
  clear hA q1 hb hb' hn hm
  go_enter Try.func9, Try.ntmps9
  go_wp2_with fail
  refine (hnew_any _).mono ?_
  rintro e w1 ⟨B, rfl, hBw, hh, hb⟩
  have HR := Lib.hid (show SetsR w w1 B none (.slice none 0 0) [] [] noH from ⟨.inl ⟨rfl, rfl, rfl⟩, SRows.nil _, (fun g hg => by cases hg), hh, (fun s hs => by cases hs), hb, hBw⟩)
  clear hh hb hBw
  go_wp2_with fail
  refine (within_any _ _ _ (by decide)).mono ?_
  rintro e x2 ⟨rfl, rfl⟩
  rw [← HN.out]
  go_wp2_with fail
  refine (within_any _ _ _ (by decide)).mono ?_
  rintro e x2 ⟨rfl, rfl⟩
  rw [← HM.out]
  go_wp2_with fail
  refine (snew_any _).mono ?_
  rintro e w2 ⟨s0, rfl, hs, hb⟩
  have HS := Lib.hid hs
  have HR2 := Lib.hid (HR.out.bl hb)
  obtain ⟨b0, _, _, rfl, _⟩ := hs
  clear hb HR
  go_upto_block 0 with fail
  go_cut [8] (fun v8 wc => SetsM w wc B v8 (n + m + 1))
  case first =>
    go_wp2_with fail
    go_loopg [8, 9, 10] (n + m + 1) (fun g v8 v9 i wr => ∃ (k : Nat) (row : Option Nat) (us : List Nat) (S : List StM) (b : Nat) (s : StM), k ≤ n + m + 1 ∧ g = n + m + 1 - k ∧ i = .int .i64 k ∧ v9 = .pointer (some ⟨b, 0, none⟩) ∧ Hid (S.length = k) ∧ Hid (SetsR w wr B row v8 us S noH) ∧ Hid (StateIs wr (.pointer (some ⟨b, 0, none⟩)) s) ∧ Hid (SOK s))
    case atStart => exact ⟨0, none, [], [], b0, [], by omega, rfl, rfl, rfl, Lib.hid rfl, HR2, HS, Lib.hid SOK.nil⟩
    case round =>
      clear HR2 HS
      obtain ⟨k, row, us, S, b, s, hk, rfl, rfl, rfl, HSL, HR, HS, HK⟩ := hrel
      by_cases hlt : k < n + m + 1
      · have hlk : (k : Int) ≤ (n : Int) + (m : Int) := by omega
        have hln : us.length ≤ 1000000 := by have := HR.out.len; have := HSL.out; omega
        obtain ⟨A8, c8, rfl, _⟩ := HR.out.z.slice
        go_upto_if 40 with (fail)
        go_cut [11] (fun v11 wc => ∃ d : Int, v11 = .int .i64 d ∧ 0 ≤ d ∧ d ≤ 99 ∧ wc = wr)
        case first =>
          by_cases hkl : k < l.length
          · obtain ⟨ad, rfl, d0⟩ := int_at (HA.out.bl HR.out.b) k hkl
            generalize l[k] = x at d0
            have hx := within_bd x 5 (by decide)
            go_wp2_with fail
            refine (within_any _ _ _ (by decide)).mono ?_
            rintro e x2 ⟨rfl, rfl⟩
            go_wp2_with fail
            go_meet
            exact ⟨_, rfl, by omega, by omega, rfl⟩
          · go_wp2_with fail
            go_meet
            exact ⟨_, rfl, by omega, by omega, rfl⟩
        case rest =>
        obtain ⟨d, rfl, hd0, hd1, rfl⟩ := hcut
        have hC := apply_C s d hd0 hd1
        have hD := apply_D s d hd0 hd1
        by_cases hg : getS s d = none
        · by_cases h6 : 6 ≤ s.length
          · have E := Lib.hid (hC.2.1 hg h6)
            have E2 := Lib.hid (hD.1 hg)
            clear hC hD hg
            go_wp2_with fail
            refine (sapply_any _ _ s (recC d) _ HS.out (rec_is _ 1 d 0 0) HK.out.1).mono ?_
            rintro e x2 ⟨⟨h0, h1⟩, hb⟩
            have HR3' := Lib.hid (HR.out.bl hb)
            have HS3' := Lib.hid (HS.out.bl hb)
            clear hb
            obtain rfl := (h1 (by rw [E.out]; decide))
            rw [E.out]
            clear h1
            go_wp2_with fail
            refine (sapply_any _ _ s (recD d) _ HS3'.out (rec_is _ 2 d 0 0) HK.out.1).mono ?_
            rintro e x3 ⟨⟨h0, h1⟩, hb⟩
            have HR4' := Lib.hid (HR3'.out.bl hb)
            have HS4' := Lib.hid (HS3'.out.bl hb)
            clear hb
            obtain rfl := (h1 (by rw [E2.out]; decide))
            rw [E2.out]
            clear h1
            go_upto_region 21 with fail
            go_wp2_with (at_builtin; refine ZRow.append Try.underlying56 infoPtr rfl (.tmp 68) (.tmp 70) rfl HR4'.out.z rfl hln b rfl rfl ?_; intro v1 w4 g' g1 g2 g3 g4; have HR3 := Lib.hid (HR4'.out.push HS4'.out HK.out g1 g2 g3 g4); have HC3 := Lib.hid ((HS4'.out.bl ((Bl.refl _).alloc _)).kv goodZ g4); obtain ⟨c5, rfl, _⟩ := g1.slice; clear g2 g3 g4)
            have hr3 := HR3.out
            rw [List.length_append, List.length_singleton] at hr3
            have HR4 := Lib.hid hr3
            clear hr3
            go_roundg (n + m + 1 - (k + 1))
            case measure => omega
            case rel => exact ⟨k + 1, _, _, _, b, _, by omega, rfl, by go_num, rfl, Lib.hid (show (S ++ [_]).length = k + 1 by rw [List.length_append, HSL.out]; rfl), HR4, HC3, HK⟩
          · have e0 := hC.2.2 hg (by omega)
            have E := Lib.hid e0
            have HK2 := Lib.hid (show SOK (putL s d (treeM [])) by have := HK.out.apply (r := recC d) (by rw [e0]); rwa [e0] at this)
            clear hC hD hg e0
            go_wp2_with fail
            refine (sapply_any _ _ s (recC d) _ HS.out (rec_is _ 1 d 0 0) HK.out.1).mono ?_
            rintro e x2 ⟨⟨h0, h1⟩, hb⟩
            have HR3' := Lib.hid (HR.out.bl hb)
            have HS3' := Lib.hid (HS.out.bl hb)
            clear hb
            obtain ⟨t, rfl, ht⟩ := (h0 (by rw [E.out]))
            rw [E.out] at ht
            have HT := Lib.hid ht
            obtain ⟨bt, _, _, rfl, _⟩ := ht
            clear h0
            go_upto_region 21 with fail
            go_wp2_with (at_builtin; refine ZRow.append Try.underlying56 infoPtr rfl (.tmp 68) (.tmp 70) rfl HR3'.out.z rfl hln bt rfl rfl ?_; intro v1 w4 g' g1 g2 g3 g4; have HR3 := Lib.hid (HR3'.out.push HT.out HK2.out g1 g2 g3 g4); have HC3 := Lib.hid ((HT.out.bl ((Bl.refl _).alloc _)).kv goodZ g4); obtain ⟨c5, rfl, _⟩ := g1.slice; clear g2 g3 g4)
            have hr3 := HR3.out
            rw [List.length_append, List.length_singleton] at hr3
            have HR4 := Lib.hid hr3
            clear hr3
            go_roundg (n + m + 1 - (k + 1))
            case measure => omega
            case rel => exact ⟨k + 1, _, _, _, bt, _, by omega, rfl, by go_num, rfl, Lib.hid (show (S ++ [_]).length = k + 1 by rw [List.length_append, HSL.out]; rfl), HR4, HC3, HK2⟩
        · have E := Lib.hid (hC.1 hg)
          have E2 := Lib.hid (hD.2 hg)
          have HK2 := Lib.hid (HK.out.without d)
          clear hC hD hg
          go_wp2_with fail
          refine (sapply_any _ _ s (recC d) _ HS.out (rec_is _ 1 d 0 0) HK.out.1).mono ?_
          rintro e x2 ⟨⟨h0, h1⟩, hb⟩
          have HR3' := Lib.hid (HR.out.bl hb)
          have HS3' := Lib.hid (HS.out.bl hb)
          clear hb
          obtain rfl := (h1 (by rw [E.out]; decide))
          rw [E.out]
          clear h1
          go_wp2_with fail
          refine (sapply_any _ _ s (recD d) _ HS3'.out (rec_is _ 2 d 0 0) HK.out.1).mono ?_
          rintro e x3 ⟨⟨h0, h1⟩, hb⟩
          have HR4' := Lib.hid (HR3'.out.bl hb)
          have HS4' := Lib.hid (HS3'.out.bl hb)
          clear hb
          obtain ⟨t, rfl, ht⟩ := (h0 (by rw [E2.out]))
          rw [E2.out] at ht
          have HT := Lib.hid ht
          obtain ⟨bt, _, _, rfl, _⟩ := ht
          clear h0
          go_upto_region 21 with fail
          go_wp2_with (at_builtin; refine ZRow.append Try.underlying56 infoPtr rfl (.tmp 68) (.tmp 70) rfl HR4'.out.z rfl hln bt rfl rfl ?_; intro v1 w4 g' g1 g2 g3 g4; have HR3 := Lib.hid (HR4'.out.push HT.out HK2.out g1 g2 g3 g4); have HC3 := Lib.hid ((HT.out.bl ((Bl.refl _).alloc _)).kv goodZ g4); obtain ⟨c5, rfl, _⟩ := g1.slice; clear g2 g3 g4)
          have hr3 := HR3.out
          rw [List.length_append, List.length_singleton] at hr3
          have HR4 := Lib.hid hr3
          clear hr3
          go_roundg (n + m + 1 - (k + 1))
          case measure => omega
          case rel => exact ⟨k + 1, _, _, _, bt, _, by omega, rfl, by go_num, rfl, Lib.hid (show (S ++ [_]).length = k + 1 by rw [List.length_append, HSL.out]; rfl), HR4, HC3, HK2⟩
      · have hkk : ¬ (k : Int) ≤ (n : Int) + (m : Int) := by omega
        obtain rfl : k = n + m + 1 := by omega
        have HM2 := Lib.hid (show SetsM w wr B _ (n + m + 1) from by
          obtain hz := HR.out.z
          rcases hz with ⟨_, _, e⟩ | ⟨g, e, _⟩
          · have := HR.out.len; have := HSL.out; rw [e] at *; simp at *; omega
          · subst e; exact ⟨g, us, S, by have := HR.out.len; have := HSL.out; omega, HR.out⟩)
        go_wp2_with fail
        go_meet
        exact HM2.out
  case rest =>
  clear HR2 HS
  obtain ⟨g, us, S, hul, hR⟩ := hcut
  have hSl := hR.len
  have hus : 0 < us.length := by omega
  obtain ⟨g', c8, e8, hz0⟩ := hR.at (d := 0) (List.getElem?_eq_getElem hus)
  subst e8
  have hI := hR.z.is
  obtain ⟨A8', c8', e8, hlc, _⟩ := id hI
  simp at e8
  obtain ⟨rfl, rfl⟩ := e8
  obtain ⟨V1, hV1, hI1⟩ := slice_lh (E := ptrE) (P := Try.prog) (t := 56) (by kernel_rfl) (fun w => by kernel_rfl) (some ⟨g', 0, none⟩) c8 us 1 (1 + (n : Int)) (by omega) (by omega) (by omega) hlc
  obtain ⟨V2, hV2, hI2⟩ := slice_l (E := ptrE) (P := Try.prog) (t := 56) (by kernel_rfl) (fun w => by kernel_rfl) (some ⟨g', 0, none⟩) c8 us (1 + (n : Int)) (by omega) (by omega)
  have hJ1 := hI1 _ hI
  have hJ2 := hI2 _ hI
  rw [show (1 + (n : Int)).toNat = 1 + n by omega] at hJ1 hJ2
  rw [show (1 : Int).toNat = 1 from rfl] at hJ1
  have hsu : SRows wc ((us.take (1 + n)).drop 1) ((S.take (1 + n)).drop 1) := (hR.s.take _).drop _
  have hsr : SRows wc (us.drop (1 + n)) (S.drop (1 + n)) := hR.s.drop _
  have hl1 : ((us.take (1 + n)).drop 1).length = n := by simp; omega
  have hl2 : (us.drop (1 + n)).length = m := by simp; omega
  have hst := hR.s.2 0 (S[0]'(by omega)) us[0] (List.getElem?_eq_getElem _) (List.getElem?_eq_getElem _)
  have HX := Lib.hid (List.getElem?_eq_getElem hus)
  have HX0 := Lib.hid (List.getElem?_eq_getElem (show 0 < S.length by omega))
  have HK0 := Lib.hid (hR.ok (S[0]'(by omega)) (List.getElem_mem _))
  generalize us[0] = x0 at *
  generalize S[0]'(by omega) = s0 at *
  generalize hU : (us.take (1 + n)).drop 1 = U at *
  generalize hRr : us.drop (1 + n) = R at *
  have HUe := Lib.hid hU
  have HRe := Lib.hid hRr
  obtain ⟨A1, c1, rfl, _⟩ := id hJ1
  obtain ⟨A2, c2, rfl, _⟩ := id hJ2
  rw [hl1] at hV1 hJ1
  rw [hl2] at hV2 hJ2
  have HJ1 := Lib.hid hJ1
  have HJ2 := Lib.hid hJ2
  have HSU := Lib.hid hsu
  have HSR := Lib.hid hsr
  have HST := Lib.hid hst
  have HL1 := Lib.hid hl1
  have HL2 := Lib.hid hl2
  have HUL := Lib.hid hul
  have HSL := Lib.hid hSl
  have HR := Lib.hid hR
  have i1 : IntKind.i64.wrap (1 + (n : Int)) = 1 + (n : Int) := IntWalk.i64_in _ (by omega)
  rw [hul]
  rw [hul] at hV1 hV2
  clear hR hI hI1 hI2 hJ1 hJ2 hsu hsr hst hl1 hl2 hul hSl hU hRr hus
  have k1 : 0 < n + m + 1 := by omega
  have k2 : (0 : Int) < (n : Int) + (m : Int) + 1 := by omega
  have k3 : (0 : Int) < ((n + m + 1 : Nat) : Int) := by omega
  go_upto_region 22 with fail
  refine wp_region_ways (S := (fun w' => w'.cell? ⟨g', 0, none⟩ = some (.pointer (some ⟨x0, 0, none⟩)))) [0, 1, 2, 3, 4, 5, 6, 7, 8, 9, 10, 11, 13] (y := .take 0 (.take 1 (.take 2 (.take 3 (.take 4 (.take 5 (.take 6 (.take 7 (.take 8 (.take 9 (.take 10 (.take 11 (.ev 12 (.take 13 (.done)) (.stop)))))))))))))) (by kernel_rfl) (by kernel_rfl) (by kernel_rfl) ?_ (fun hHeld => ?_)
  · exact ((Bl.refl wc).drew).cell hz0
  repeat (first | (refine wpWay_take rfl (by rfl) (by intro w hSw; (try dsimp only at hSw); first | (go_simp; done) | (go_simp; with_reducible rfl)) ?_; try simp only [Act.put, List.setIfInBounds_toArray, List.set_cons_zero, List.set_cons_succ]) | (refine wpWay_skip rfl (by rfl) ?_; try simp only [Act.put, List.setIfInBounds_toArray, List.set_cons_zero, List.set_cons_succ]))
  refine wpWay_ev rfl (fun K hK => ?_) wpWay_stop
  go_wp2_with fail
  have HZ := Lib.hid hz0
  clear hHeld hz0
  by_cases h4 : 4 < n ∨ 4 < m
  · refine (hset_lim _ _ _ _ _ _ _ _ _ h4 (by omega) (by omega)).mono ?_
    rintro e w3 ⟨rfl, rfl⟩
    clear i1 hV1 hV2
    go_wp2_with fail
    refine ⟨((Bl.refl _).drew).cell HZ.out, ?_⟩
    repeat (first | (refine wpWay_take rfl (by rfl) (by intro w hSw; (try dsimp only at hSw); first | (go_simp; done) | (go_simp; with_reducible rfl)) ?_; try simp only [Act.put, List.setIfInBounds_toArray, List.set_cons_zero, List.set_cons_succ]) | (refine wpWay_skip rfl (by rfl) ?_; try simp only [Act.put, List.setIfInBounds_toArray, List.set_cons_zero, List.set_cons_succ]))
    refine wpWay_done ?_
    have HR2 := Lib.hid (HR.out.bl (Bl.refl _).drew)
    clear HR
    by_cases h4n : 4 < n
    · have hd : (4 : Int) < (n : Int) := by omega
      clear h4
      go_wp2_with fail
      refine (hundo_any B _ _ HR2.out.h (by decide)).mono ?_
      rintro e w4 ⟨u, us1, rfl, ho, hs, hb⟩
      have hl0 : us1.length = 0 := hs.1
      obtain ⟨A3, c3, rfl⟩ := ho.slice
      rw [hl0]
      have HR3 := Lib.hid (HR2.out.bl hb)
      clear hl0 ho hs hb
      go_wp2_with fail
      refine (hredo_any B _ _ HR3.out.h (by decide)).mono ?_
      rintro e w5 ⟨u, us2, rfl, ho, hs, hb⟩
      have hl0 : us2.length = 0 := hs.1
      obtain ⟨A4, c4, rfl⟩ := ho.slice
      rw [hl0]
      have HR4 := Lib.hid (HR3.out.bl hb)
      clear hl0 ho hs hb
      go_wp2_with fail
      refine (wakes22_any _).mono ?_
      rintro e w6 ⟨rfl, hb⟩
      go_wp2_with fail
      go_ret
      exact ⟨rfl, HR4.out.b.bl hb⟩
    · have h4m : 4 < m := by omega
      have hd : ¬ (4 : Int) < (n : Int) := by omega
      have hd2 : (4 : Int) < (m : Int) := by omega
      clear h4
      go_wp2_with fail
      refine (hundo_any B _ _ HR2.out.h (by decide)).mono ?_
      rintro e w4 ⟨u, us1, rfl, ho, hs, hb⟩
      have hl0 : us1.length = 0 := hs.1
      obtain ⟨A3, c3, rfl⟩ := ho.slice
      rw [hl0]
      have HR3 := Lib.hid (HR2.out.bl hb)
      clear hl0 ho hs hb
      go_wp2_with fail
      refine (hredo_any B _ _ HR3.out.h (by decide)).mono ?_
      rintro e w5 ⟨u, us2, rfl, ho, hs, hb⟩
      have hl0 : us2.length = 0 := hs.1
      obtain ⟨A4, c4, rfl⟩ := ho.slice
      rw [hl0]
      have HR4 := Lib.hid (HR3.out.bl hb)
      clear hl0 ho hs hb
      go_wp2_with fail
      refine (wakes22_any _).mono ?_
      rintro e w6 ⟨rfl, hb⟩
      go_wp2_with fail
      go_ret
      exact ⟨rfl, HR4.out.b.bl hb⟩
  · have h4n : n ≤ 4 := by omega
    have h4m : m ≤ 4 := by omega
    have hd1 : ¬ (4 : Int) < (n : Int) := by omega
    have hd2 : ¬ (4 : Int) < (m : Int) := by omega
    clear h4 i1 hV1 hV2
    have hbd := (Bl.refl wc).drew
    refine (hset_any B noH x0 s0 _ _ U R _ _ _ (HR.out.h.bl hbd) (HST.out.bl hbd) (HJ1.out.bl hbd) (HJ2.out.bl hbd) (HSU.out.bl hbd) (HSR.out.bl hbd) (by rw [HL1.out]; exact h4n) (by rw [HL2.out]; exact h4m)).mono ?_
    rintro e w3 ⟨rfl, hh, hg⟩
    have HR3 := Lib.hid ((HR.out.bl hbd).apply hg hh)
    have hz3 := HZ.out
    clear hbd hh hg hz3
    go_wp2_with fail
    refine ⟨?_, ?_⟩
    · obtain ⟨g2, c2', e2, hc⟩ := HR3.out.at HX.out
      simp at e2
      rw [e2.1]; exact hc
    repeat (first | (refine wpWay_take rfl (by rfl) (by intro w hSw; (try dsimp only at hSw); first | (go_simp; done) | (go_simp; with_reducible rfl)) ?_; try simp only [Act.put, List.setIfInBounds_toArray, List.set_cons_zero, List.set_cons_succ]) | (refine wpWay_skip rfl (by rfl) ?_; try simp only [Act.put, List.setIfInBounds_toArray, List.set_cons_zero, List.set_cons_succ]))
    refine wpWay_done ?_
    clear HR HZ HJ1 HJ2 HSU HSR HST
    have HLU := Lib.hid (show (⟨s0, (S.take (1 + n)).drop 1, S.drop (1 + n)⟩ : HistM).undo.length ≤ 4 ∧ (⟨s0, (S.take (1 + n)).drop 1, S.drop (1 + n)⟩ : HistM).redo.length ≤ 4 by have := HSL.out; have := HUL.out; simp; omega)
    go_wp2_with fail
    refine (hundo_any B _ _ HR3.out.h HLU.out.1).mono ?_
    rintro e w4 ⟨u1, us1, rfl, ho1, hs1, hb⟩
    have hl1 : us1.length = n := by have := hs1.1; have h2 := HSL.out; have h3 := HUL.out; simp at this; omega
    obtain ⟨Au, cu, rfl⟩ := ho1.slice
    have hi1 := ho1.is
    rw [hl1] at hi1
    rw [hl1]
    have HO1 := Lib.hid hi1
    have HS1 := Lib.hid hs1
    have HU1 := Lib.hid hl1
    have HR4 := Lib.hid (HR3.out.bl hb)
    clear ho1 hs1 hb HR3 hl1 hi1
    go_wp2_with fail
    refine (hredo_any B _ _ HR4.out.h HLU.out.2).mono ?_
    rintro e w5 ⟨u2, us2, rfl, ho2, hs2, hb⟩
    have hl2 : us2.length = m := by have := hs2.1; have h2 := HSL.out; have h3 := HUL.out; simp at this; omega
    obtain ⟨Av, cv, rfl⟩ := ho2.slice
    have hi2 := ho2.is
    rw [hl2] at hi2
    rw [hl2]
    have HO2 := Lib.hid hi2
    have HS2 := Lib.hid hs2
    have HU2 := Lib.hid hl2
    have HR5 := Lib.hid (HR4.out.bl hb)
    have HO1' := Lib.hid (HO1.out.bl hb)
    have HS1' := Lib.hid (HS1.out.bl hb)
    clear ho2 hs2 hb HR4 HO1 HS1 hl2 hi2
    go_wp2_with fail
    have hz5 : HR5.out.z = HR5.out.z := rfl
    clear hz5
    obtain ⟨g2, c2', e2, hz5⟩ := HR5.out.at HX.out
    simp at e2
    obtain ⟨rfl, _⟩ := e2
    refine wp_region_ways (S := (fun w' => w'.cell? ⟨g', 0, none⟩ = some (.pointer (some ⟨x0, 0, none⟩)))) [0, 1, 2, 3, 5, 6, 7, 8, 10, 11, 12, 14, 15, 16, 17, 18, 19, 20, 21, 22, 23, 24, 25, 26, 27] (y := .take 0 (.take 1 (.take 2 (.take 3 (.ev 4 (.take 5 (.take 6 (.take 7 (.take 8 (.take 10 (.take 11 (.take 12 (.ev 9 (.ev 13 (.take 14 (.take 15 (.take 16 (.take 17 (.take 18 (.take 19 (.take 20 (.take 21 (.take 22 (.take 23 (.take 24 (.take 25 (.take 26 (.take 27 (.done))))))))))))))) (.stop)) (.stop))))))))) (.stop)))))) (by kernel_rfl) (by kernel_rfl) (by kernel_rfl) ?_ (fun hHeld => ?_)
    · exact ((Bl.refl _).drew).cell hz5
    repeat (first | (refine wpWay_take rfl (by rfl) (by intro w hSw; (try dsimp only at hSw); first | (go_simp; done) | (go_simp; with_reducible rfl)) ?_; try simp only [Act.put, List.setIfInBounds_toArray, List.set_cons_zero, List.set_cons_succ]) | (refine wpWay_skip rfl (by rfl) ?_; try simp only [Act.put, List.setIfInBounds_toArray, List.set_cons_zero, List.set_cons_succ]))
    refine wpWay_ev rfl (fun K hK => ?_) wpWay_stop
    go_wp2_with fail
    have HZ5 := Lib.hid ((Bl.refl w5).drew.cell hz5)
    have HR6 := Lib.hid (HR5.out.bl (Bl.refl w5).drew)
    have HO1 := Lib.hid (HO1'.out.bl (Bl.refl w5).drew)
    have HS1 := Lib.hid (HS1'.out.bl (Bl.refl w5).drew)
    have HO2' := Lib.hid (HO2.out.bl (Bl.refl w5).drew)
    have HS2' := Lib.hid (HS2.out.bl (Bl.refl w5).drew)
    clear hHeld hz5 HR5 HO1' HS1' HO2 HS2
    refine (hnow_any B _ _ HR6.out.h).mono ?_
    rintro e x3 ⟨u, rfl, hs, rfl⟩
    have HN0 := Lib.hid hs
    obtain ⟨bN, _, _, rfl, _⟩ := hs
    go_wp2_with fail
    refine ⟨HZ5.out, ?_⟩
    repeat (first | (refine wpWay_take rfl (by rfl) (by intro w hSw; (try dsimp only at hSw); first | (go_simp; done) | (go_simp; with_reducible rfl)) ?_; try simp only [Act.put, List.setIfInBounds_toArray, List.set_cons_zero, List.set_cons_succ]) | (refine wpWay_skip rfl (by rfl) ?_; try simp only [Act.put, List.setIfInBounds_toArray, List.set_cons_zero, List.set_cons_succ]))
    refine wpWay_ev rfl (fun K hK => ?_) wpWay_stop
    go_wp2_with fail
    refine (hnow_any B _ _ HR6.out.h).mono ?_
    rintro e x3 ⟨u, rfl, hs, rfl⟩
    have HN1 := Lib.hid hs
    obtain ⟨bN1, _, _, rfl, _⟩ := hs
    go_wp2_with fail
    refine ⟨HZ5.out, ?_⟩
    repeat (first | (refine wpWay_take rfl (by rfl) (by intro w hSw; (try dsimp only at hSw); first | (go_simp; done) | (go_simp; with_reducible rfl)) ?_; try simp only [Act.put, List.setIfInBounds_toArray, List.set_cons_zero, List.set_cons_succ]) | (refine wpWay_skip rfl (by rfl) ?_; try simp only [Act.put, List.setIfInBounds_toArray, List.set_cons_zero, List.set_cons_succ]))
    refine wpWay_ev rfl (fun K hK => ?_) wpWay_stop
    go_wp2_with fail
    refine (ssame_any _ _ s0 s0 _ HN1.out (HR6.out.s.2 0 s0 x0 HX0.out HX.out) HK0.out.1.2 HK0.out.1.2).mono ?_
    rintro e x4 ⟨rfl, hb⟩
    rw [sameS_self]
    have HR7 := Lib.hid (HR6.out.bl hb)
    have HO1' := Lib.hid (HO1.out.bl hb)
    have HS1' := Lib.hid (HS1.out.bl hb)
    have HO2 := Lib.hid (HO2'.out.bl hb)
    have HS2 := Lib.hid (HS2'.out.bl hb)
    have HZ6 := Lib.hid (hb.cell HZ5.out)
    clear hb HR6 HO1 HS1 HO2' HS2' HZ5 HN0 HN1
    go_wp2_with fail
    refine ⟨HZ6.out, ?_⟩
    repeat (first | (refine wpWay_take rfl (by rfl) (by intro w hSw; (try dsimp only at hSw); first | (go_simp; done) | (go_simp; with_reducible rfl)) ?_; try simp only [Act.put, List.setIfInBounds_toArray, List.set_cons_zero, List.set_cons_succ]) | (refine wpWay_skip rfl (by rfl) ?_; try simp only [Act.put, List.setIfInBounds_toArray, List.set_cons_zero, List.set_cons_succ]))
    refine wpWay_done ?_
    clear HZ6
    go_upto_block 2 with fail
    have HQ := Lib.hid (show SetsQ w x4 B g g' c8 us S s0 n m Au cu us1 Av cv us2 from ⟨HR7.out, HO1'.out, HS1'.out, HO2.out, HS2.out⟩)
    clear HR7 HO1' HS1' HO2 HS2
    go_cut [] (fun wx => Hid (SetsQ w wx B g g' c8 us S s0 n m Au cu us1 Av cv us2))
    case first =>
      go_wp2_with fail
      go_loopg [140, 19] n (fun gg v1 v2 wr => ∃ k : Nat, k ≤ n ∧ gg = n - k ∧ v1 = .int .i64 k ∧ Hid (SetsQ w wr B g g' c8 us S s0 n m Au cu us1 Av cv us2))
      case atStart => exact ⟨0, by omega, rfl, rfl, HQ⟩
      case round =>
        clear HQ
        obtain ⟨k, hk, rfl, rfl, HQ⟩ := hrel
        by_cases hlt : k < n
        · have hkl : (k : Int) < (n : Int) := by omega
          obtain ⟨x, y, s, hx, hy, sx, sy, ok⟩ := HQ.out.hstate1 k hlt HUL.out
          obtain ⟨_, _, e1, _, _, _, hat⟩ := id HQ.out.o1
          simp at e1
          obtain ⟨rfl, e1'⟩ := e1
          clear e1'
          obtain ⟨ad, rfl, d1⟩ := ptr_at hat k (by have := HU1.out; omega)
          rw [(List.getElem?_eq_some_iff.1 hx).2] at d1
          obtain ⟨g2, c2', e2, d2⟩ := HQ.out.r.at hy
          simp at e2
          obtain ⟨rfl, e2'⟩ := e2
          clear e2'
          have SX := Lib.hid sx
          have SY := Lib.hid sy
          have OK := Lib.hid ok
          have j1 : (0 : Int) ≤ 1 + (k : Int) := by omega
          have j2 : 1 + (k : Int) < (n : Int) + (m : Int) + 1 := by omega
          have j3 : 1 + k < n + m + 1 := by omega
          have j4 : (1 + (k : Int)).toNat = 1 + k := by omega
          have j0 : IntKind.i64.wrap (1 + (n : Int)) = 1 + (n : Int) := IntWalk.i64_in _ (by omega)
          have j5 : IntKind.i64.wrap (1 + (k : Int)) = 1 + (k : Int) := IntWalk.i64_in _ (by omega)
          clear hx hy sx sy ok hat
          go_wp2_with fail
          refine wp_region_ways (S := (fun w' => w'.cell? (ad.add k) = some (.pointer (some ⟨x, 0, none⟩)) ∧ w'.cell? ⟨g', 1 + k, none⟩ = some (.pointer (some ⟨y, 0, none⟩)))) [0, 1, 2, 3, 4, 5, 6, 7, 8, 9, 10, 11, 12, 13, 14, 16, 17] (y := .take 0 (.take 1 (.take 2 (.take 3 (.take 4 (.take 5 (.take 6 (.take 7 (.take 8 (.take 9 (.take 10 (.take 11 (.take 12 (.take 13 (.take 14 (.ev 15 (.take 16 (.take 17 (.done))) (.stop))))))))))))))))) (by kernel_rfl) (by kernel_rfl) (by kernel_rfl) ?_ (fun hHeld => ?_)
          · exact ⟨((Bl.refl _).drew).cell d1, ((Bl.refl _).drew).cell d2⟩
          repeat (first | (refine wpWay_take rfl (by rfl) (by intro w hSw; (try dsimp only at hSw); first | (go_simp; done) | (go_simp; with_reducible rfl)) ?_; try simp only [Act.put, List.setIfInBounds_toArray, List.set_cons_zero, List.set_cons_succ]) | (refine wpWay_skip rfl (by rfl) ?_; try simp only [Act.put, List.setIfInBounds_toArray, List.set_cons_zero, List.set_cons_succ]))
          refine wpWay_ev rfl (fun K hK => ?_) wpWay_stop
          have HD := Lib.hid (And.intro d1 d2)
          clear d1 d2 hHeld
          go_wp2_with fail
          refine (ssame_any _ _ s s _ (SX.out.bl (Bl.refl _).drew) (SY.out.bl (Bl.refl _).drew) OK.out.1.2 OK.out.1.2).mono ?_
          rintro e x5 ⟨rfl, hb⟩
          rw [sameS_self]
          have HB := Lib.hid (((Bl.refl wr).drew).bl hb)
          clear hb
          go_wp2_with fail
          refine ⟨⟨HB.out.cell HD.out.1, HB.out.cell HD.out.2⟩, ?_⟩
          repeat (first | (refine wpWay_take rfl (by rfl) (by intro w hSw; (try dsimp only at hSw); first | (go_simp; done) | (go_simp; with_reducible rfl)) ?_; try simp only [Act.put, List.setIfInBounds_toArray, List.set_cons_zero, List.set_cons_succ]) | (refine wpWay_skip rfl (by rfl) ?_; try simp only [Act.put, List.setIfInBounds_toArray, List.set_cons_zero, List.set_cons_succ]))
          refine wpWay_done ?_
          clear j4 j5 j0
          go_wp2_with fail
          go_roundg (n - (k + 1))
          case measure => omega
          case rel => exact ⟨k + 1, by omega, rfl, by go_num, Lib.hid (HQ.out.bl HB.out)⟩
        · go_wp2_with fail
          go_meet
          exact HQ
    case rest =>
    have HQ := hcut
    clear hcut
    go_upto_block 4 with fail
    go_cut [] (fun wx => Hid (SetsQ w wx B g g' c8 us S s0 n m Au cu us1 Av cv us2))
    case first =>
      go_wp2_with fail
      go_loopg [164, 20] m (fun gg v1 v2 wr => ∃ k : Nat, k ≤ m ∧ gg = m - k ∧ v1 = .int .i64 k ∧ Hid (SetsQ w wr B g g' c8 us S s0 n m Au cu us1 Av cv us2))
      case atStart => exact ⟨0, by omega, rfl, rfl, HQ⟩
      case round =>
        clear HQ
        obtain ⟨k, hk, rfl, rfl, HQ⟩ := hrel
        by_cases hlt : k < m
        · have hkl : (k : Int) < (m : Int) := by omega
          obtain ⟨x, y, s, hx, hy, sx, sy, ok⟩ := HQ.out.hstate2 k hlt HUL.out
          obtain ⟨_, _, e1, _, _, _, hat⟩ := id HQ.out.o2
          simp at e1
          obtain ⟨rfl, e1'⟩ := e1
          clear e1'
          obtain ⟨ad, rfl, d1⟩ := ptr_at hat k (by have := HU2.out; omega)
          rw [(List.getElem?_eq_some_iff.1 hx).2] at d1
          obtain ⟨g2, c2', e2, d2⟩ := HQ.out.r.at hy
          simp at e2
          obtain ⟨rfl, e2'⟩ := e2
          clear e2'
          have SX := Lib.hid sx
          have SY := Lib.hid sy
          have OK := Lib.hid ok
          have j1 : (0 : Int) ≤ 1 + (n : Int) + (k : Int) := by omega
          have j2 : 1 + (n : Int) + (k : Int) < (n : Int) + (m : Int) + 1 := by omega
          have j3 : 1 + n + k < n + m + 1 := by omega
          have j4 : (1 + (n : Int) + (k : Int)).toNat = 1 + n + k := by omega
          have j0 : IntKind.i64.wrap (1 + (n : Int)) = 1 + (n : Int) := IntWalk.i64_in _ (by omega)
          have j5 : IntKind.i64.wrap (1 + (n : Int) + (k : Int)) = 1 + (n : Int) + (k : Int) := IntWalk.i64_in _ (by omega)
          clear hx hy sx sy ok hat
          go_wp2_with fail
          refine wp_region_ways (S := (fun w' => w'.cell? (ad.add k) = some (.pointer (some ⟨x, 0, none⟩)) ∧ w'.cell? ⟨g', 1 + n + k, none⟩ = some (.pointer (some ⟨y, 0, none⟩)))) [0, 1, 2, 3, 4, 5, 6, 7, 8, 9, 10, 11, 12, 13, 14, 15, 16, 18, 19] (y := .take 0 (.take 1 (.take 2 (.take 3 (.take 4 (.take 5 (.take 6 (.take 7 (.take 8 (.take 9 (.take 10 (.take 11 (.take 12 (.take 13 (.take 14 (.take 15 (.take 16 (.ev 17 (.take 18 (.take 19 (.done))) (.stop))))))))))))))))))) (by kernel_rfl) (by kernel_rfl) (by kernel_rfl) ?_ (fun hHeld => ?_)
          · exact ⟨((Bl.refl _).drew).cell d1, ((Bl.refl _).drew).cell d2⟩
          repeat (first | (refine wpWay_take rfl (by rfl) (by intro w hSw; (try dsimp only at hSw); first | (go_simp; done) | (go_simp; with_reducible rfl)) ?_; try simp only [Act.put, List.setIfInBounds_toArray, List.set_cons_zero, List.set_cons_succ]) | (refine wpWay_skip rfl (by rfl) ?_; try simp only [Act.put, List.setIfInBounds_toArray, List.set_cons_zero, List.set_cons_succ]))
          refine wpWay_ev rfl (fun K hK => ?_) wpWay_stop
          have HD := Lib.hid (And.intro d1 d2)
          clear d1 d2 hHeld
          go_wp2_with fail
          refine (ssame_any _ _ s s _ (SX.out.bl (Bl.refl _).drew) (SY.out.bl (Bl.refl _).drew) OK.out.1.2 OK.out.1.2).mono ?_
          rintro e x5 ⟨rfl, hb⟩
          rw [sameS_self]
          have HB := Lib.hid (((Bl.refl wr).drew).bl hb)
          clear hb
          go_wp2_with fail
          refine ⟨⟨HB.out.cell HD.out.1, HB.out.cell HD.out.2⟩, ?_⟩
          repeat (first | (refine wpWay_take rfl (by rfl) (by intro w hSw; (try dsimp only at hSw); first | (go_simp; done) | (go_simp; with_reducible rfl)) ?_; try simp only [Act.put, List.setIfInBounds_toArray, List.set_cons_zero, List.set_cons_succ]) | (refine wpWay_skip rfl (by rfl) ?_; try simp only [Act.put, List.setIfInBounds_toArray, List.set_cons_zero, List.set_cons_succ]))
          refine wpWay_done ?_
          clear j4 j5 j0
          go_wp2_with fail
          go_roundg (m - (k + 1))
          case measure => omega
          case rel => exact ⟨k + 1, by omega, rfl, by go_num, Lib.hid (HQ.out.bl HB.out)⟩
        · go_wp2_with fail
          go_meet
          exact HQ
    case rest =>
    go_wp2_with fail
    refine (wakes22_any _).mono ?_
    rintro e w6 ⟨rfl, hb⟩
    go_wp2_with fail
    go_ret
    exact ⟨rfl, hcut.out.r.b.bl hb⟩
end Go.Proofs.Ytddcjekkimajpaa.ExtW
