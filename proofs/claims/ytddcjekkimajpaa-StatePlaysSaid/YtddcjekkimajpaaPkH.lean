/- Several texts joined (see each one's head). -/
import Derived.Test.YtddcjekkimajpaaPkA
import Derived.Test.YtddcjekkimajpaaProg
import Derived.Test.YtddcjekkimajpaaPkG
import Derived.Test.YtddcjekkimajpaaPkF
/- How arguments are opened that are records, rows of records, rows of rows of numbers. -/
namespace Go.Ov
open Go.RowKit Go.ChangeShapes Go.WideShapes Go.ChangeAt Go.Deep Go.Proofs

section
variable {H : Type} {enc : TypeId × Value → H} {w : World} {base : Nat} {spare : Nat → Bool} {held : Bool}

set_option maxRecDepth 100000 in
theorem trod_ints {fuel : Nat} {cs : List Value} {x : DataW H × List MemPlace} (h : DataW.trod enc Try.prog w base spare held fuel 22 cs = some x) :
    ∃ (h : Head) (l : List Int), cs = [h.v] ∧ h.n = l.length ∧ l.length ≤ h.cap ∧ h.cap ≤ maxLen ∧ (h.A = none → h.cap = 0) ∧ intE.At w h.A l := by
  obtain ⟨A, c, xs, e1, e2, e3, e4, e5, e6⟩ := trod_slice_rel (α := Int) (fun x cs => cs = [.int .i64 x]) Try.underlying22 (fun fuel cs x hx => by obtain ⟨n, hn, _⟩ := trod_int Try.underlying3 hx; exact ⟨n, hn⟩) h
  refine ⟨⟨A, xs.length, c⟩, xs, e1, rfl, e2, e3, e4, fun i x hx => ?_⟩
  obtain ⟨ad, cs', rfl, h1, rfl⟩ := e5 i x hx
  exact ⟨ad, rfl, h1⟩

set_option maxRecDepth 100000 in
theorem trod_exts {fuel : Nat} {cs : List Value} {x : DataW H × List MemPlace} (h : DataW.trod enc Try.prog w base spare held fuel 31 cs = some x) :
    ∃ (h : Head) (l : List Ext), cs = [h.v] ∧ h.n = l.length ∧ extE.Is w h.v l ∧ ∀ x ∈ l, inExt x := by
  obtain ⟨A, c, xs, e1, e2, e3, e4, e5, e6⟩ := trod_slice_rel (α := Ext) (fun x cs => cs = x.vals ∧ inExt x) Try.underlying31 (fun fuel cs x hx => trod_ext ⟨_, _, _, _, _, Try.underlying38, rfl, rfl, rfl, rfl, rfl, rfl, rfl, rfl, rfl, rfl⟩ Try.underlying3 (by kernel_rfl) (by kernel_rfl) hx) h
  refine ⟨⟨A, xs.length, c⟩, xs, e1, rfl, ⟨A, c, rfl, e2, e3, e4, fun i x hx => ?_⟩, fun x hx => ?_⟩
  · obtain ⟨ad, cs', rfl, h1, rfl, _⟩ := e5 i x hx
    rw [show Try.prog.cellsOf 38 = 5 by kernel_rfl] at h1
    exact ⟨ad, rfl, h1⟩
  · obtain ⟨i, hi⟩ := List.getElem?_of_mem hx
    obtain ⟨ad, cs', _, _, _, h2⟩ := e5 i x hi
    exact h2

set_option maxRecDepth 100000 in
theorem trod_rec {fuel : Nat} {cs : List Value} {x : DataW H × List MemPlace} (h : DataW.trod enc Try.prog w base spare held fuel 33 cs = some x) :
    ∃ (r : Rec) (u : Head), cs = [.int .i64 r.kind, .int .i64 r.track, .int .i64 r.fr, .int .i64 r.tt, u.v] ∧ extE.Is w u.v r.l ∧ inRec r := by
  obtain ⟨xs, n, _, rfl, hl, hlen, hf⟩ := DataW.trod_struct Try.underlying33 h
  rw [show Try.prog.cellsOf 33 = 5 by kernel_rfl] at hl
  match cs, hl with
  | [c0, c1, c2, c3, c4], _ =>
    have g0 : DataW.trod enc Try.prog w base spare held n 3 (([c0, c1, c2, c3, c4].drop 0).take (Try.prog.cellsOf 3)) = xs[0]? := hf 0 _ rfl
    have g1 : DataW.trod enc Try.prog w base spare held n 3 (([c0, c1, c2, c3, c4].drop 1).take (Try.prog.cellsOf 3)) = xs[1]? := hf 1 _ rfl
    have g2 : DataW.trod enc Try.prog w base spare held n 3 (([c0, c1, c2, c3, c4].drop 2).take (Try.prog.cellsOf 3)) = xs[2]? := hf 2 _ rfl
    have g3 : DataW.trod enc Try.prog w base spare held n 3 (([c0, c1, c2, c3, c4].drop 3).take (Try.prog.cellsOf 3)) = xs[3]? := hf 3 _ rfl
    have g4 : DataW.trod enc Try.prog w base spare held n 31 (([c0, c1, c2, c3, c4].drop 4).take (Try.prog.cellsOf 31)) = xs[4]? := hf 4 _ rfl
    have hc1 : Try.prog.cellsOf 3 = 1 := by kernel_rfl
    have hc2 : Try.prog.cellsOf 31 = 1 := by kernel_rfl
    have hx : xs.length = 5 := hlen
    rw [List.getElem?_eq_getElem (by omega)] at g0 g1 g2 g3 g4
    simp only [hc1, hc2, List.drop_zero, List.drop_succ_cons, List.take_succ_cons, List.take_zero] at g0 g1 g2 g3 g4
    obtain ⟨n0, h0, w0⟩ := trod_int Try.underlying3 g0
    obtain ⟨n1, h1, w1⟩ := trod_int Try.underlying3 g1
    obtain ⟨n2, h2, w2⟩ := trod_int Try.underlying3 g2
    obtain ⟨n3, h3, w3⟩ := trod_int Try.underlying3 g3
    obtain ⟨u, l, h4, _, h5, h6⟩ := trod_exts g4
    simp at h0 h1 h2 h3 h4
    subst h0; subst h1; subst h2; subst h3; subst h4
    exact ⟨⟨n0, n1, n2, n3, l⟩, u, rfl, h5, wf_bd w0, wf_bd w1, wf_bd w2, wf_bd w3, h6⟩

instance : Inhabited Head := ⟨⟨none, 0, 0⟩⟩
set_option maxRecDepth 100000 in
/-- a record -/
theorem open_arg_rec {r : Reach} {b0 : Nat} {v : Value} {d : DataW H} {p : List MemPlace} {ts : List TypeId} {ds : List (DataW H)} {j : Nat} (hv : Value.okWide Try.prog w r b0 33 v)
    (_ : (DataW.weightsEach Try.prog ts ds).all (· ≤ reachBytes) = true) (_ : ts[j]? = some 33) (_ : ds[j]? = some d)
    (h : DataW.Trod enc Try.prog w base spare held 33 v d p) : ∃ r, ArgRec w v r := by
  obtain ⟨cs, rfl, hsz⟩ := okWide_struct Try.underlying33 hv
  obtain ⟨fuel, hf⟩ := h
  obtain ⟨r, u, e, h1, h2⟩ := trod_rec hf
  refine ⟨r, ⟨u.v, ?_, h1⟩, h2⟩
  have e' : cs.toList = _ := e
  rw [show cs = (cs.toList).toArray by simp, e']

set_option maxRecDepth 100000 in
/-- rows of rows of numbers -/
theorem open_arg_intss {r : Reach} {b0 : Nat} {v : Value} {d : DataW H} {p : List MemPlace} {ts : List TypeId} {ds : List (DataW H)} {j : Nat} (hv : Value.okWide Try.prog w r b0 40 v)
    (_ : (DataW.weightsEach Try.prog ts ds).all (· ≤ reachBytes) = true) (_ : ts[j]? = some 40) (_ : ds[j]? = some d)
    (h : DataW.Trod enc Try.prog w base spare held 40 v d p) : ∃ ls, ArgIntss w v ls := by
  obtain ⟨A0, n0, c0, rfl⟩ := okWide_slice Try.underlying40 hv
  obtain ⟨fuel, hf⟩ := h
  obtain ⟨A, c, xs, e1, e2, e3, e4, e5, e6⟩ := trod_slice_rel (α := Head × List Int) (fun x cs => cs = [x.1.v] ∧ x.1.n = x.2.length ∧ x.2.length ≤ x.1.cap ∧ x.1.cap ≤ maxLen ∧ (x.1.A = none → x.1.cap = 0) ∧ intE.At w x.1.A x.2)
    Try.underlying40 (fun fuel cs x hx => by obtain ⟨h, l, h1⟩ := trod_ints hx; exact ⟨(h, l), h1⟩) hf
  simp [Value.cells] at e1
  obtain ⟨rfl, rfl, rfl⟩ := e1
  refine ⟨xs.map (·.2), A0, c0, xs.map (·.1), by simp, by simpa using e2, e3, fun i x hx => ?_, by simp, fun i x l hx hl => ?_⟩
  · rw [List.getElem?_map] at hx
    cases e : xs[i]? with
    | none => rw [e] at hx; cases hx
    | some y =>
      rw [e] at hx
      simp at hx; subst hx
      obtain ⟨ad, cs', rfl, h1, rfl, _⟩ := e5 i y e
      rw [show Try.prog.cellsOf 22 = 1 by kernel_rfl] at h1
      exact ⟨ad, rfl, h1⟩
  · rw [List.getElem?_map] at hx hl
    cases e : xs[i]? with
    | none => rw [e] at hx; cases hx
    | some y =>
      rw [e] at hx hl
      simp at hx hl; subst hx; subst hl
      obtain ⟨ad, cs', rfl, h1, rfl, h2⟩ := e5 i y e
      exact h2
end
end Go.Ov

/- How a row of records comes in as an argument. -/
namespace Go.Ov
open Go.RowKit Go.ChangeShapes Go.WideShapes Go.ChangeAt Go.Deep Go.Proofs

def ArgRecs (w : World) (v : Value) (l : List Rec) : Prop := ∃ A c, v = .slice A l.length c ∧ l.length ≤ c ∧ c ≤ maxLen ∧
  ∀ i r, l[i]? = some r → ∃ ad u, A = some ad ∧ (w.cell? (ad.add (i * 5)) = some (.int .i64 r.kind) ∧ w.cell? ⟨(ad.add (i * 5)).block, (ad.add (i * 5)).off + 1, none⟩ = some (.int .i64 r.track) ∧
    w.cell? ⟨(ad.add (i * 5)).block, (ad.add (i * 5)).off + 2, none⟩ = some (.int .i64 r.fr) ∧ w.cell? ⟨(ad.add (i * 5)).block, (ad.add (i * 5)).off + 3, none⟩ = some (.int .i64 r.tt) ∧
    w.cell? ⟨(ad.add (i * 5)).block, (ad.add (i * 5)).off + 4, none⟩ = some (Head.v u)) ∧ extE.Is w u.v r.l ∧ inRec r
instance : Inhabited Rec := ⟨⟨0, 0, 0, 0, []⟩⟩
section
variable {H : Type} {enc : TypeId × Value → H} {w : World} {base : Nat} {spare : Nat → Bool} {held : Bool}
set_option maxRecDepth 100000 in
theorem open_arg_recs {r : Reach} {b0 : Nat} {v : Value} {d : DataW H} {p : List MemPlace} {ts : List TypeId} {ds : List (DataW H)} {j : Nat} (hv : Value.okWide Try.prog w r b0 60 v)
    (_ : (DataW.weightsEach Try.prog ts ds).all (· ≤ reachBytes) = true) (_ : ts[j]? = some 60) (_ : ds[j]? = some d)
    (h : DataW.Trod enc Try.prog w base spare held 60 v d p) : ∃ ls, ArgRecs w v ls := by
  obtain ⟨A0, n0, c0, rfl⟩ := okWide_slice Try.underlying60 hv
  obtain ⟨fuel, hf⟩ := h
  obtain ⟨A, c, xs, e1, e2, e3, e4, e5, e6⟩ := trod_slice_rel (α := Rec × Head) (fun x cs => cs = [.int .i64 x.1.kind, .int .i64 x.1.track, .int .i64 x.1.fr, .int .i64 x.1.tt, x.2.v] ∧ extE.Is w x.2.v x.1.l ∧ inRec x.1)
    Try.underlying60 (fun fuel cs x hx => by obtain ⟨r, u, h1⟩ := trod_rec hx; exact ⟨(r, u), h1⟩) hf
  simp [Value.cells] at e1
  obtain ⟨rfl, rfl, rfl⟩ := e1
  refine ⟨xs.map (·.1), A0, c0, by simp, by simpa using e2, e3, fun i x hx => ?_⟩
  rw [List.getElem?_map] at hx
  cases e : xs[i]? with
  | none => rw [e] at hx; cases hx
  | some y =>
    rw [e] at hx
    simp at hx; subst hx
    obtain ⟨ad, cs', rfl, h1, rfl, h2, h3⟩ := e5 i y e
    rw [show Try.prog.cellsOf 33 = 5 by kernel_rfl] at h1
    refine ⟨ad, y.2, rfl, ⟨?_, ?_, ?_, ?_, ?_⟩, h2, h3⟩
    · exact h1 0 _ rfl
    · rw [← add_at _ _ 1 (by decide)]; exact h1 1 _ rfl
    · rw [← add_at _ _ 2 (by decide)]; exact h1 2 _ rfl
    · rw [← add_at _ _ 3 (by decide)]; exact h1 3 _ rfl
    · rw [← add_at _ _ 4 (by decide)]; exact h1 4 _ rfl
end
end Go.Ov

/- The walk of overdublaw21.StatePlays. -/
namespace Go.Proofs.Ytddcjekkimajpaa.ExtW
open Go.RowKit Go.Ov Go.Proofs.Ytddcjekkimajpaa.Need

theorem sameS_refl (s : StM) : sameS s s = true := by unfold sameS; simp
theorem StRes.tup {w : World} {e : Ending} {p : StM × Int} (h : StRes w e p) : ∃ v, e = .returned (.tuple #[v, .int .i64 p.2]) ∧ (p.2 = 0 → StateIs w v p.1) ∧ (p.2 ≠ 0 → v = .pointer none) := by
  by_cases hz : p.2 = 0
  · obtain ⟨u, rfl, hs⟩ := h.1 hz
    exact ⟨u, by rw [hz], fun _ => hs, fun h => absurd hz h⟩
  · exact ⟨_, h.2 hz, fun h => absurd h hz, fun _ => rfl⟩
theorem LnRes.tup {w : World} {e : Ending} {p : LnM × Int} (h : LnRes w e p) : ∃ v, e = .returned (.tuple #[v, .int .i64 p.2]) ∧ (p.2 = 0 → LnIs w v p.1) := by
  by_cases hz : p.2 = 0
  · obtain ⟨u, rfl, hs⟩ := h.1 hz
    exact ⟨u, by rw [hz], fun _ => hs⟩
  · exact ⟨_, h.2 hz, fun h => absurd h hz⟩
/-- behind the two calls: what they gave -/
def PlayJ (w wc : World) (v5 v6 v7 v8 v12 v13 v14 v15 : Value) (s : StM) (us : List Nat) (hs : List Head) (S : List StM) : Prop :=
  ∃ (G : Nat → Bool) (p : StM × Int), v13 = .int .i64 p.2 ∧ v15 = .int .i64 p.2 ∧ PlayR w wc G v5 v6 v7 v8 s us hs S 0 0 ∧
    (p.2 = 0 → StateIs (only wc G) v12 p.1 ∧ LnIs (only wc G) v14 (rowsOf p.1) ∧ SOT p.1) ∧ (p.2 ≠ 0 → v12 = .pointer none)

set_option maxRecDepth 100000 in
set_option maxHeartbeats 4000000 in
theorem plays_walk (v : Value) (l : List Rec) (v' : Value) (ns : List Int) (w : World) (h : ArgRecs w v l) (h' : ArgInts w v' ns) :
    Calls Try.prog 10 #[v, v'] w fun e w' => e = .returned (.bool true) ∧ Bl w w' := by
  obtain ⟨A, c, rfl, q0, q1, hrec⟩ := h
  obtain ⟨⟨A', c', rfl, _, q1', _, hA'⟩, _, hns⟩ := h'
  have HREC := Lib.hid hrec
  have HA' := Lib.hid hA'
  have HNS := Lib.hid hns
  unfold maxLen at q1 q1'
  have hl : l.length ≤ 9223372036854775807 := by omega
  have hl' : ns.length ≤ 9223372036854775807 := by omega
  have hur := Try.underlying33
  clear hrec hA' hns q0 q1 q1'
  go_enter Try.func10, Try.ntmps10
  go_wp2_with fail
  refine (snew_G _).mono ?_
  rintro e w1 ⟨u, rfl, hs, hb⟩
  obtain ⟨b0, _, _, rfl, _⟩ := id hs
  have HP := Lib.hid (show PlayR w w1 (fr w) (.pointer (some ⟨b0, 0, none⟩)) (.slice none 0 0) (.slice none 0 0) (.slice none 0 0) [] [] [] [] 0 0 from
    ⟨hs, LnIs.nil _, Enc.Own.nil _ _ _, Enc.Own.nil _ _ _, rfl, rfl, (fun j x u h h1 => by simp at h1), (fun k hk => by cases hk), (fun k hk => by cases hk), .inl rfl, hb, SOT.nil⟩)
  clear hs hb
  go_upto_block 0 with fail
  go_cut [7, 8] (fun v7 v8 wc => ∃ (G : Nat → Bool) (v5 v6 : Value) (s : StM) (us : List Nat) (hs : List Head) (S : List StM), S.length ≤ 16 ∧ Hid (PlayR w wc G v5 v6 v7 v8 s us hs S 0 0))
  case first =>
    go_wp2_with fail
    go_loopg [5, 6, 7, 8, 9] l.length (fun g v5 v6 v7 v8 i wr => ∃ (k : Nat) (G : Nat → Bool) (s : StM) (us : List Nat) (hs : List Head) (S : List StM), k ≤ l.length ∧ k ≤ 16 ∧ g = l.length - k ∧ i = .int .i64 k ∧ S.length ≤ k ∧ Hid (PlayR w wr G v5 v6 v7 v8 s us hs S 0 0))
    case atStart => exact ⟨0, _, _, _, _, _, by omega, by omega, rfl, rfl, by simp, HP⟩
    case round =>
      clear HP
      obtain ⟨k, G, s, us, hs, S, hk, hk16, rfl, rfl, hSk, HP⟩ := hrel
      by_cases hlt : k < l.length ∧ k < 16
      · obtain ⟨hlt, hlt16⟩ := hlt
        obtain ⟨b5, _, _, rfl, _⟩ := id HP.out.st
        obtain ⟨A6, c6, rfl⟩ := HP.out.ln.slice
        obtain ⟨A7, c7, rfl⟩ := HP.out.o7.slice
        obtain ⟨A8, c8, rfl⟩ := HP.out.o8.slice
        have hkl : (k : Int) < l.length := by omega
        generalize hn6 : (rowsOf s).length = n6 at *
        have HN6 := Lib.hid hn6
        clear hn6
        go_upto_if 37 with (fail)
        go_cut [10] (fun v10 wc => ∃ n : Int, v10 = .int .i64 n ∧ -9223372036854775808 ≤ n ∧ n ≤ 9223372036854775807 ∧ wc = wr)
        case first =>
          by_cases hkn : k < ns.length
          · obtain ⟨ad, rfl, d0⟩ := int_at (HA'.out.bl HP.out.b) k hkn
            have hb := HNS.out ns[k] (List.getElem_mem hkn)
            generalize ns[k] = x at *
            go_wp2_with fail
            go_meet
            exact ⟨_, rfl, hb.1, hb.2, rfl⟩
          · go_wp2_with fail
            go_meet
            exact ⟨_, rfl, by omega, by omega, rfl⟩
        case rest =>
        obtain ⟨n, rfl, hn1, hn2, rfl⟩ := hcut
        obtain ⟨ad, u, rfl, ⟨c0, c1, c2, c3, c4⟩, hx, _⟩ := HREC.out k l[k] (List.getElem?_eq_getElem hlt)
        replace c0 := HP.out.b.cell c0
        replace c1 := HP.out.b.cell c1
        replace c2 := HP.out.b.cell c2
        replace c3 := HP.out.b.cell c3
        replace c4 := HP.out.b.cell c4
        have HRI := Lib.hid (show RecIs _ (.agg #[.int .i64 l[k].kind, .int .i64 l[k].track, .int .i64 l[k].fr, .int .i64 l[k].tt, u.v]) l[k] from ⟨u.v, rfl, hx.bl HP.out.b⟩)
        generalize l[k] = rr at *
        simp only [Head.v] at c4 HRI
        clear hx
        go_wp2_with fail
        refine (small21_any _ rr n _ HRI.out ⟨hn1, hn2⟩).mono ?_
        rintro e w2 ⟨xv, r, rfl, hr, hb⟩
        have HP2 := Lib.hid (HP.out.bl hb)
        obtain ⟨xu, rfl, hxu⟩ := id hr
        obtain ⟨xA, xc, rfl, xq1, xq2, xq3, _⟩ := id hxu
        have HR := Lib.hid hr
        clear hr hxu hb c0 c1 c2 c3 c4 HP HRI
        go_wp2_with fail
        refine (sapply_G G _ _ s r _ ((Sub.bl (((Bl.refl _).alloc _).only G)).state HP2.out.st) (HR.out.bl ((Bl.refl _).alloc _)) HP2.out.ok.1.1).mono ?_
        rintro e w3 ⟨hres, hb⟩
        have HK := Lib.hid ((Blk.new w2 #[.int .i64 r.kind, .int .i64 r.track, .int .i64 r.fr, .int .i64 r.tt, .slice xA r.l.length xc] 33).bl hb)
        have HP3 := Lib.hid (HP2.out.gor ((Bl.refl w2).alloc (.cells #[.int .i64 r.kind, .int .i64 r.track, .int .i64 r.fr, .int .i64 r.tt, .slice xA r.l.length xc] 33)) hb)
        have HR3 := Lib.hid (HR.out.bl (((Bl.refl w2).alloc (.cells #[.int .i64 r.kind, .int .i64 r.track, .int .i64 r.fr, .int .i64 r.tt, .slice xA r.l.length xc] 33)).bl hb))
        obtain ⟨v12, rfl, hst, hnil⟩ := StRes.tup hres
        have HAp := Lib.hid (apply_eq HP2.out.ok.1.2 r)
        have HSp := Lib.hid (fun hz => HP2.out.ok.apply (r := r) hz)
        obtain ⟨p, hp⟩ : ∃ p, p = applyR s r := ⟨_, rfl⟩
        rw [← hp] at hst hnil HAp HSp
        rw [← hp]
        have HST := Lib.hid hst
        have HNIL := Lib.hid hnil
        have HPe := Lib.hid hp
        have HL6 := Lib.hid HP2.out.ok.1.1.1
        have d0 := HK.out.cell 0
        have d1 := HK.out.cell 1
        have d2 := HK.out.cell 2
        have d3 := HK.out.cell 3
        have d4 := HK.out.cell 4
        simp at d0 d1 d2 d3 d4
        clear hres hst hnil hp hb HP2 HR
        go_wp2_with fail
        refine (lapply_G _ _ _ (rowsOf s) r _ HP3.out.ln HR3.out (by rw [rowsOf_len]; have := HL6.out; omega) (fun t ht => by obtain ⟨z, hz, rfl⟩ := List.mem_map.1 ht; exact HP3.out.ok.1.1.2 z hz)).mono ?_
        rintro e w4 ⟨hres, hb⟩
        rw [HAp.out] at hres
        obtain ⟨v14, rfl, hln⟩ := LnRes.tup hres
        dsimp only at hln ⊢
        have HP4 := Lib.hid (HP3.out.gor (Bl.refl w3) hb)
        have hS34 : Sub (only w3 (gor G (w2.alloc (.cells #[.int .i64 r.kind, .int .i64 r.track, .int .i64 r.fr, .int .i64 r.tt, .slice xA r.l.length xc] 33)))) (only w4 (gor (gor G (w2.alloc (.cells #[.int .i64 r.kind, .int .i64 r.track, .int .i64 r.fr, .int .i64 r.tt, .slice xA r.l.length xc] 33))) w3)) := (Sub.bl (hb.only _)).trans (Sub.mono (gor_l _ _))
        have HST4 := Lib.hid (fun hz => hS34.state (HST.out hz))
        have HLN := Lib.hid hln
        have HK4 := Lib.hid (HK.out.bl hb)
        have HR4 := Lib.hid (HR3.out.bl hb)
        clear hres hln hb hS34 HP3 HST d0 d1 d2 d3 d4 HR3 HK
        obtain ⟨G4, hG4⟩ : ∃ G4, G4 = gor (gor G (w2.alloc (.cells #[.int .i64 r.kind, .int .i64 r.track, .int .i64 r.fr, .int .i64 r.tt, .slice xA r.l.length xc] 33))) w3 := ⟨_, rfl⟩
        rw [← hG4] at HP4 HST4 HLN
        clear hG4
        go_upto_if 62 with (fail)
        go_cut [12, 13, 14, 15] (fun v12 v13 v14 v15 wc => Hid (PlayJ w wc (.pointer (some ⟨b5, 0, none⟩)) (.slice A6 n6 c6) (.slice A7 us.length c7) (.slice A8 hs.length c8) v12 v13 v14 v15 s us hs S))
        case first =>
          by_cases h5 : Int.tmod n 5 = 4
          · have h51 : (Int.tmod n 5 == 4) = true := by rw [h5]; rfl
            clear h5
            have d1 := HK4.out.cell 1
            have d4 := HK4.out.cell 4
            simp at d1 d4
            go_wp2_with fail
            refine (row16_any _ r.l 6 _ (show extE.Is w4 (.slice xA r.l.length xc) r.l by obtain ⟨xu', e', hx'⟩ := HR4.out; simp at e'; rw [← e'] at hx'; exact hx') (by decide)).mono ?_
            rintro e w5 ⟨u5, rfl, ho, hb5⟩
            have hval := rowM_valid r.l 6
            obtain ⟨R, hRe⟩ : ∃ R, R = rowM r.l 6 := ⟨_, rfl⟩
            rw [← hRe] at ho hval
            have HO := Lib.hid ho
            have HV := Lib.hid hval
            have HB5 := Lib.hid hb5
            obtain ⟨A5, c5, rfl⟩ := ho.slice
            clear ho hval hRe hb5 d1 d4
            go_wp2_with fail
            refine (tfrom_G _ R _ HO.out.is HV.out).mono ?_
            rintro e w6 ⟨u6, rfl, ht, hb6⟩
            have HT := Lib.hid ((Sub.mono (fun b hb => fr_gor G4 w4 b (fr_le HB5.out.size b hb))).tree ht)
            have HB6 := Lib.hid (HB5.out.bl hb6)
            have HO6 := Lib.hid (HO.out.bl hb6)
            obtain ⟨b6, _, _, rfl, _⟩ := ht
            have d1 := (HK4.out.bl HB6.out).cell 1
            simp at d1
            have HP6 := Lib.hid (HP4.out.gor (Bl.refl w4) HB6.out)
            clear hb6
            go_wp2_with fail
            refine (sput_G (gor G4 w4) _ s r.track _ (treeM R) _ HP6.out.st HT.out HP6.out.ok.1.1.1).mono ?_
            rintro e w7 ⟨hres, hb7⟩
            obtain ⟨v12', rfl, hst, hnil⟩ := StRes.tup hres
            have HPu := Lib.hid (put_eq HP6.out.ok.1.2 r.track (treeM R))
            have HSu := Lib.hid (fun hz => HP6.out.ok.put (id := r.track) (l := R) HV.out hz)
            obtain ⟨q, hq⟩ : ∃ q, q = putR s r.track (treeM R) := ⟨_, rfl⟩
            rw [← hq] at hst hnil HPu HSu
            rw [← hq]
            have HP7 := Lib.hid (HP6.out.gor (Bl.refl w6) hb7)
            have HST7 := Lib.hid hst
            have HNIL7 := Lib.hid hnil
            have HO7 := Lib.hid (HO6.out.bl hb7)
            have HB7 := Lib.hid (HB6.out.bl hb7)
            have d1' := (HK4.out.bl HB7.out).cell 1
            simp at d1'
            clear hres hst hnil hq d1
            go_wp2_with fail
            refine (lput_G (gor (gor G4 w4) w6) _ (rowsOf s) r.track _ R _ HP7.out.ln (HO7.out.isM (fun k hk => gor_l _ _ _ (fr_gor G4 w4 k (fr_ge (Nat.le_refl _) hk)))) (by rw [rowsOf_len]; have := HP7.out.ok.1.1.1; omega)).mono ?_
            rintro e w8 ⟨hres, hb8⟩
            rw [show lputM (rowsOf s) r.track R = _ from HPu.out] at hres
            obtain ⟨v14', rfl, hln⟩ := LnRes.tup hres
            dsimp only at hln ⊢
            have hS78 : Sub (only w7 (gor (gor G4 w4) w6)) (only w8 (gor (gor (gor G4 w4) w6) w7)) := (Sub.bl (hb8.only _)).trans (Sub.mono (gor_l _ _))
            have HJ := Lib.hid (show PlayJ w w8 _ _ _ _ v12' _ v14' _ s us hs S from ⟨_, q, rfl, rfl, HP7.out.gor (Bl.refl w7) hb8, fun hz => ⟨hS78.state (HST7.out hz), hln hz, HSu.out hz⟩, HNIL7.out⟩)
            clear hres hln hb8 hS78
            go_wp2_with fail
            go_meet
            exact HJ
          · have h51 : (Int.tmod n 5 == 4) = false := by simpa using h5
            clear h5
            go_wp2_with fail
            go_meet
            exact Lib.hid ⟨G4, p, rfl, rfl, HP4.out, fun hz => ⟨HST4.out hz, HLN.out hz, HSp.out hz⟩, HNIL.out⟩
        case rest =>
        have hJ := hcut.out
        clear hcut HP4 HST4 HLN HK4 HR4 HNIL HSp HAp HPe HL6
        obtain ⟨G5, p, rfl, rfl, hP5, hgood, hnil⟩ := hJ
        by_cases hz : p.2 = 0
        · obtain ⟨hst, hln, hok⟩ := hgood hz
          obtain ⟨bT, _, _, rfl, _⟩ := id hst
          obtain ⟨A9, c9, rfl⟩ := hln.slice
          generalize hn9 : (rowsOf p.1).length = n9 at *
          have HN9 := Lib.hid hn9
          have HST := Lib.hid hst
          have HLN := Lib.hid hln
          have HOK := Lib.hid hok
          have HP5 := Lib.hid hP5
          have hl7 := hP5.l7
          have hl8 := hP5.l8
          rw [hz]
          obtain ⟨s', cz⟩ := p
          dsimp only at HST HLN HOK HN9
          clear hst hln hok hP5 hgood hnil hz hn9
          have hul : us.length ≤ 17 := by omega
          have hhl : hs.length ≤ 17 := by omega
          have HL7 := Lib.hid hl7
          have HL8 := Lib.hid hl8
          clear hl7 hl8
          go_wp2_with (at_builtin; first | (refine Enc.Own.append1L (E := ptrE) rfl (.tmp 105) (.tmp 107) 56 rfl w.heap.size 23 (.pointer none) 1 8 Try.underlying56 infoPtr rfl rfl (by decide) (by decide) _ us rfl HP5.out.o7 b5 _ rfl rfl rfl (by omega) HP5.out.b.size ?_; intro v1 w5 ho hg hl; have HP6 := Lib.hid (HP5.out.push7 ho hg hl); have HST6 := Lib.hid ((Sub.push hg HP5.out.g7).state HST.out); have HLN6 := Lib.hid (LnIs.sub (Sub.push hg HP5.out.g7) HLN.out); clear ho hg hl) | (refine Enc.Own.append1L (E := headE) rfl (.tmp 109) (.tmp 111) 63 rfl w.heap.size 62 (.slice none 0 0) 1 24 Try.underlying63 infoLines rfl rfl (by decide) (by decide) _ hs rfl HP6.out.o8 ⟨A6, n6, c6⟩ _ rfl rfl rfl (by omega) HP6.out.b.size ?_; intro v2 w6 ho hg hl; have HP7 := Lib.hid (HP6.out.push8 ho hg hl); have HST7 := Lib.hid ((Sub.push hg HP6.out.g8).state HST6.out); have HLN7 := Lib.hid (LnIs.sub (Sub.push hg HP6.out.g8) HLN6.out); clear ho hg hl))
          obtain ⟨A1, c1, rfl⟩ := HP7.out.o7.slice
          obtain ⟨A2, c2, rfl⟩ := HP7.out.o8.slice
          have HD := Lib.hid (PlayR.done (q := ⟨A6, n6, c6⟩) HP7.out (by have := HL7.out; omega) (by have := HL8.out; omega) HST7.out HLN7.out HOK.out)
          obtain ⟨_, _, e7, _, _, _, at7⟩ := HP7.out.o7.is
          simp only [Value.slice.injEq] at e7
          obtain ⟨rfl, z1, z2⟩ := e7
          clear z1 z2
          obtain ⟨_, _, e8, _, _, _, at8⟩ := HP7.out.o8.is
          simp only [Value.slice.injEq] at e8
          obtain ⟨rfl, z1, z2⟩ := e8
          clear z1 z2
          obtain ⟨ad7, rfl, d7⟩ := ptr_at at7 us.length (by simp)
          obtain ⟨ad8, rfl, d8⟩ := head_at at8 hs.length (by simp)
          rw [show (us ++ [b5])[us.length]'(by simp) = b5 by simp] at d7
          rw [show (hs ++ [(⟨A6, n6, c6⟩ : Head)])[hs.length]'(by simp) = ⟨A6, n6, c6⟩ by simp] at d8
          simp only [Head.v] at d8
          have i1 : IntKind.i64.wrap (us.length : Int) = (us.length : Int) := IntWalk.i64_in _ (by omega)
          have i2 : IntKind.i64.wrap (hs.length : Int) = (hs.length : Int) := IntWalk.i64_in _ (by omega)
          have i3 : (us.length : Int) < us.length + 1 := by omega
          have i4 : (hs.length : Int) < hs.length + 1 := by omega
          have i5 : us.length < us.length + 1 := by omega
          have i6 : hs.length < hs.length + 1 := by omega
          have i7 : (0 : Int) ≤ us.length := by omega
          have i8 : (0 : Int) ≤ hs.length := by omega
          have HS5 := Lib.hid HP7.out.st
          have HL5 := Lib.hid HP7.out.ln
          have HOK5 := Lib.hid HP7.out.ok
          clear at7 at8 HP5 HP6 HST HLN HST6 HLN6 HP7
          simp only [List.length_append, List.length_singleton]
          refine wp_region_ways (S := (fun w' => w'.cell? (ad7.add us.length) = some (.pointer (some ⟨b5, 0, none⟩)) ∧ w'.cell? (ad8.add hs.length) = some (.slice A6 n6 c6))) [0, 1, 3, 4, 5, 6, 8, 9, 10, 11, 12, 13, 14, 15, 16, 17, 19, 20, 21, 22, 23, 24, 25, 27, 28] (y := .take 0 (.take 1 (.ev 2 (.take 3 (.take 4 (.take 5 (.take 6 (.ev 7 (.take 8 (.take 9 (.take 10 (.take 11 (.take 12 (.take 13 (.take 14 (.take 15 (.take 16 (.take 17 (.take 19 (.take 20 (.take 21 (.take 22 (.take 23 (.take 24 (.take 25 (.ev 18 (.ev 26 (.take 27 (.take 28 (.done))) (.stop)) (.stop))))))))))))))))))) (.stop)))))) (.stop)))) (by kernel_rfl) (by kernel_rfl) (by kernel_rfl) ?_ (fun hHeld => ?_)
          · exact ⟨((Bl.refl _).drew).cell d7, ((Bl.refl _).drew).cell d8⟩
          have HH := Lib.hid hHeld
          clear hHeld d7 d8
          repeat (first | (refine wpWay_take rfl (by rfl) (by intro w hSw; (try dsimp only at hSw); first | (go_simp; done) | (go_simp; with_reducible rfl)) ?_; try simp only [Act.put, List.setIfInBounds_toArray, List.set_cons_zero, List.set_cons_succ]) | (refine wpWay_skip rfl (by rfl) ?_; try simp only [Act.put, List.setIfInBounds_toArray, List.set_cons_zero, List.set_cons_succ]))
          refine wpWay_ev rfl (fun K hK => ?_) wpWay_stop
          have HBd := Lib.hid ((Bl.refl w6).drew)
          go_wp2_with fail
          refine (same21_any _ _ s' _ ((Sub.un _ _).state (HST7.out.bl (HBd.out.only _))) (LnIs.sub (Sub.un _ _) (HLN7.out.bl (HBd.out.only _))) HOK.out).mono ?_
          rintro e x1 ⟨rfl, hb⟩
          have HB1 := Lib.hid (HBd.out.bl hb)
          have HH1 := Lib.hid (And.intro (hb.cell HH.out.1) (hb.cell HH.out.2))
          clear hb
          go_wp2_with fail
          refine ⟨HH1.out, ?_⟩
          repeat (first | (refine wpWay_take rfl (by rfl) (by intro w hSw; (try dsimp only at hSw); first | (go_simp; done) | (go_simp; with_reducible rfl)) ?_; try simp only [Act.put, List.setIfInBounds_toArray, List.set_cons_zero, List.set_cons_succ]) | (refine wpWay_skip rfl (by rfl) ?_; try simp only [Act.put, List.setIfInBounds_toArray, List.set_cons_zero, List.set_cons_succ]))
          refine wpWay_ev rfl (fun K hK => ?_) wpWay_stop
          go_wp2_with fail
          refine (ssame_any _ _ s' s' _ ((Sub.un _ _).state (HST7.out.bl (HB1.out.only _))) ((Sub.un _ _).state (HST7.out.bl (HB1.out.only _))) HOK.out.1.1.2 HOK.out.1.1.2).mono ?_
          rintro e x2 ⟨rfl, hb⟩
          rw [sameS_refl]
          have HB2 := Lib.hid (HB1.out.bl hb)
          have HH2 := Lib.hid (And.intro (hb.cell HH1.out.1) (hb.cell HH1.out.2))
          clear hb
          go_wp2_with fail
          refine ⟨HH2.out, ?_⟩
          repeat (first | (refine wpWay_take rfl (by rfl) (by intro w hSw; (try dsimp only at hSw); first | (go_simp; done) | (go_simp; with_reducible rfl)) ?_; try simp only [Act.put, List.setIfInBounds_toArray, List.set_cons_zero, List.set_cons_succ]) | (refine wpWay_skip rfl (by rfl) ?_; try simp only [Act.put, List.setIfInBounds_toArray, List.set_cons_zero, List.set_cons_succ]))
          refine wpWay_ev rfl (fun K hK => ?_) wpWay_stop
          go_wp2_with fail
          refine (ssame_any _ _ s' s _ ((Sub.un _ _).state (HST7.out.bl (HB2.out.only _))) ((Sub.un _ _).state (HS5.out.bl (HB2.out.only _))) HOK.out.1.1.2 HOK5.out.1.1.2).mono ?_
          rintro e x3 ⟨rfl, hb⟩
          have HB3 := Lib.hid (HB2.out.bl hb)
          have HH3 := Lib.hid (And.intro (hb.cell HH2.out.1) (hb.cell HH2.out.2))
          clear hb
          go_wp2_with fail
          refine ⟨HH3.out, ?_⟩
          repeat (first | (refine wpWay_take rfl (by rfl) (by intro w hSw; (try dsimp only at hSw); first | (go_simp; done) | (go_simp; with_reducible rfl)) ?_; try simp only [Act.put, List.setIfInBounds_toArray, List.set_cons_zero, List.set_cons_succ]) | (refine wpWay_skip rfl (by rfl) ?_; try simp only [Act.put, List.setIfInBounds_toArray, List.set_cons_zero, List.set_cons_succ]))
          refine wpWay_ev rfl (fun K hK => ?_) wpWay_stop
          go_wp2_with fail
          refine (lsame_any _ _ (rowsOf s') (rowsOf s) _ (LnIs.sub (Sub.un _ _) (HLN7.out.bl (HB3.out.only _))) (LnIs.sub (Sub.un _ _) (HL5.out.bl (HB3.out.only _))) (by rw [rowsOf_len]; have := HOK.out.1.1.1; omega) (by rw [rowsOf_len]; have := HOK5.out.1.1.1; omega)).mono ?_
          rintro e x4 ⟨rfl, hb⟩
          have HB4 := Lib.hid (HB3.out.bl hb)
          have HH4 := Lib.hid (And.intro (hb.cell HH3.out.1) (hb.cell HH3.out.2))
          rw [show sameS s' s = decide (rowsOf s' = rowsOf s) from rfl]
          generalize decide (rowsOf s' = rowsOf s) = bq at *
          clear hb i1 i2
          go_wp2_with fail
          refine ⟨HH4.out, ?_⟩
          repeat (first | (refine wpWay_take rfl (by rfl) (by intro w hSw; (try dsimp only at hSw); first | (go_simp; done) | (go_simp; with_reducible rfl)) ?_; try simp only [Act.put, List.setIfInBounds_toArray, List.set_cons_zero, List.set_cons_succ]) | (refine wpWay_skip rfl (by rfl) ?_; try simp only [Act.put, List.setIfInBounds_toArray, List.set_cons_zero, List.set_cons_succ]))
          refine wpWay_done ?_
          have HD2 := Lib.hid (HD.out.bl HB4.out)
          have hd2 := HD2.out
          simp only [List.length_append, List.length_singleton] at hd2
          have HD3 := Lib.hid hd2
          clear hd2
          go_wp2_with fail
          go_roundg (l.length - (k + 1))
          case measure => omega
          case rel => exact ⟨k + 1, _, s', us ++ [b5], hs ++ [⟨A6, n6, c6⟩], S ++ [s], by omega, by omega, rfl, by go_num, by simp; omega, HD3⟩
        · obtain rfl := hnil hz
          have HP5 := Lib.hid hP5
          obtain ⟨s', cz⟩ := p
          dsimp only at hz
          have hz1 : (cz == 0) = false := by simpa using hz
          have hz2 : (cz != 0) = true := by simpa using hz
          clear hP5 hgood hnil hz
          go_wp2_with fail
          go_roundg (l.length - (k + 1))
          case measure => omega
          case rel => exact ⟨k + 1, _, s, us, hs, S, by omega, by omega, rfl, by go_num, by omega, HP5⟩
      · have HQ := Lib.hid (show ∃ (G : Nat → Bool) (v5 v6 : Value) (s : StM) (us : List Nat) (hs : List Head) (S : List StM), S.length ≤ 16 ∧ Hid (PlayR w wr G v5 v6 _ _ s us hs S 0 0) from ⟨G, _, _, s, us, hs, S, by omega, HP⟩)
        rcases (show (k < l.length ∧ ¬ k < 16) ∨ ¬ k < l.length from by by_cases q : k < l.length; exact .inl ⟨q, fun p => hlt ⟨q, p⟩⟩; exact .inr q) with ⟨hkl2, hk7⟩ | hkl2
        all_goals
          clear hlt
          go_wp2_with fail
          go_meet
          exact HQ.out
  case rest =>
  clear HP
  obtain ⟨G, v5, v6, s, us, hs, S, hS, HP⟩ := hcut
  obtain ⟨A7, c7, rfl⟩ := HP.out.o7.slice
  obtain ⟨A8, c8, rfl⟩ := HP.out.o8.slice
  have hl7 := HP.out.l7
  have hl8 := HP.out.l8
  have hll : (us.length : Int) = hs.length := by omega
  have HLL := Lib.hid (show us.length = hs.length by omega)
  have hul : us.length ≤ 16 := by omega
  have HL7 := Lib.hid hl7
  have HL8 := Lib.hid hl8
  clear hll hl7 hl8
  go_wp2_with fail
  go_loopg [146, 19] us.length (fun g i v19 wr => ∃ k : Nat, k ≤ us.length ∧ g = us.length - k ∧ i = .int .i64 k ∧ Hid (PlayR w wr G v5 v6 (.slice A7 us.length c7) (.slice A8 hs.length c8) s us hs S 0 0))
  case atStart => exact ⟨0, by omega, rfl, rfl, HP⟩
  case round =>
    clear HP
    obtain ⟨k, hk, rfl, rfl, HP⟩ := hrel
    by_cases hlt : k < us.length
    · have hlt8 : k < hs.length := by have := HLL.out; omega
      have hltS : k < S.length := by have := HL7.out; omega
      have hki : (k : Int) < us.length := by omega
      have hki8 : (k : Int) < hs.length := by omega
      obtain ⟨_, _, e7, _, _, _, at7⟩ := HP.out.o7.is
      simp only [Value.slice.injEq] at e7
      obtain ⟨rfl, z1, z2⟩ := e7
      clear z1 z2
      obtain ⟨_, _, e8, _, _, _, at8⟩ := HP.out.o8.is
      simp only [Value.slice.injEq] at e8
      obtain ⟨rfl, z1, z2⟩ := e8
      clear z1 z2
      obtain ⟨ad7, rfl, d7⟩ := ptr_at at7 k hlt
      obtain ⟨ad8, rfl, d8⟩ := head_at at8 k hlt8
      obtain ⟨f1, f2, f3⟩ := HP.out.each k S[k] us[k] hs[k] (List.getElem?_eq_getElem _) (List.getElem?_eq_getElem _) (List.getElem?_eq_getElem _)
      have F1 := Lib.hid f1
      have F2 := Lib.hid f2
      have F3 := Lib.hid f3
      simp only [Head.v] at d8
      generalize us[k] = u at *
      generalize hs[k] = hh at *
      generalize S[k] = sk at *
      clear f1 f2 f3 at7 at8
      go_wp2_with fail
      refine wp_region_ways (S := (fun w' => w'.cell? (ad7.add k) = some (.pointer (some ⟨u, 0, none⟩)) ∧ w'.cell? (ad8.add k) = some (.slice hh.A hh.n hh.cap))) [0, 1, 2, 3, 4, 5, 6, 7, 9] (y := .take 0 (.take 1 (.take 2 (.take 3 (.take 4 (.take 5 (.take 6 (.take 7 (.ev 8 (.take 9 (.done)) (.stop)))))))))) (by kernel_rfl) (by kernel_rfl) (by kernel_rfl) ?_ (fun hHeld => ?_)
      · exact ⟨((Bl.refl _).drew).cell d7, ((Bl.refl _).drew).cell d8⟩
      have HH := Lib.hid hHeld
      clear hHeld d7 d8
      repeat (first | (refine wpWay_take rfl (by rfl) (by intro w hSw; (try dsimp only at hSw); first | (go_simp; done) | (go_simp; with_reducible rfl)) ?_; try simp only [Act.put, List.setIfInBounds_toArray, List.set_cons_zero, List.set_cons_succ]) | (refine wpWay_skip rfl (by rfl) ?_; try simp only [Act.put, List.setIfInBounds_toArray, List.set_cons_zero, List.set_cons_succ]))
      refine wpWay_ev rfl (fun K hK => ?_) wpWay_stop
      go_wp2_with fail
      refine (same21_any _ _ sk _ ((Sub.un _ _).state (F1.out.bl ((Bl.refl wr).drew.only _))) (LnIs.sub (Sub.un _ _) (F2.out.bl ((Bl.refl wr).drew.only _))) F3.out).mono ?_
      rintro e x1 ⟨rfl, hb⟩
      have HB1 := Lib.hid ((Bl.refl wr).drew.bl hb)
      have HH1 := Lib.hid (And.intro (hb.cell HH.out.1) (hb.cell HH.out.2))
      clear hb
      go_wp2_with fail
      refine ⟨HH1.out, ?_⟩
      repeat (first | (refine wpWay_take rfl (by rfl) (by intro w hSw; (try dsimp only at hSw); first | (go_simp; done) | (go_simp; with_reducible rfl)) ?_; try simp only [Act.put, List.setIfInBounds_toArray, List.set_cons_zero, List.set_cons_succ]) | (refine wpWay_skip rfl (by rfl) ?_; try simp only [Act.put, List.setIfInBounds_toArray, List.set_cons_zero, List.set_cons_succ]))
      refine wpWay_done ?_
      go_wp2_with fail
      go_roundg (us.length - (k + 1))
      case measure => omega
      case rel => exact ⟨k + 1, by omega, rfl, by go_num, Lib.hid (HP.out.bl HB1.out)⟩
    · go_wp2_with fail
      refine (wakes21_any _).mono ?_
      rintro e x1 ⟨rfl, hb⟩
      go_wp2_with fail
      go_ret
      exact ⟨rfl, HP.out.b.bl hb⟩
end Go.Proofs.Ytddcjekkimajpaa.ExtW
