/- Several texts joined (see each one's head). -/
import Derived.Test.YtoocebghlchcoaaGreatPkAM
import Derived.Test.YtoocebghlchcoaaGreatPkBD
import Derived.Test.YtoocebghlchcoaaGreatProg
/- Contract of overdubkeep.Samples (not wild). -/
namespace Go.Proofs.YtoocebghlchcoaaGreat.ExtW
open Go.RowKit Go.Ov Go.Proofs.YtoocebghlchcoaaGreat.Need

def SmpP (w w' : World) (l : List Int) (n : Nat) (u : Value) : Prop := ∃ ys, intE.Own 3 w' w.heap.size u ys ∧ ys.length = min l.length n ∧ ys.all okS = true ∧ Bl w w'
set_option maxRecDepth 100000 in
set_option maxHeartbeats 1000000 in
theorem ksamples_any (v : Value) (l : List Int) (n : Nat) (w : World) (h : intE.Is w v l) (hl : l.length ≤ 9223372036854775807) (hn : n ≤ 1000) :
    Calls Tryz.prog 5 #[v, .int .i64 n, .bool false] w fun e w' => ∃ u, e = .returned u ∧ SmpP w w' l n u := by
  obtain ⟨A, c, rfl, h1, h2, h3, h4⟩ := h
  have HA := Lib.hid h4
  clear h1 h2 h3 h4
  go_enter Tryz.func5, Tryz.ntmps5
  go_wp2_with fail
  go_loopg [7, 8] l.length (fun gk u i wr => ∃ (k : Nat) (ys : List Int), k ≤ l.length ∧ k ≤ n ∧ gk = l.length - k ∧ i = .int .i64 k ∧ ys.length = k ∧ Hid (intE.Own 3 wr w.heap.size u ys) ∧ Hid (ys.all okS = true) ∧ Hid (Bl w wr))
  case atStart => exact ⟨0, [], by omega, by omega, rfl, rfl, rfl, Lib.hid (Enc.Own.nil _ _ _), Lib.hid rfl, Lib.hid (Bl.refl _)⟩
  case round =>
    obtain ⟨k, ys, hk, hkn, hgk, rfl, hyl, HO, HS, HB⟩ := hrel
    have HYL := Lib.hid hyl
    clear hyl
    rcases (show k = l.length ∨ (k < l.length ∧ k = n) ∨ (k < l.length ∧ k < n) by omega) with hkl | ⟨hlt, hkl⟩ | ⟨hlt, hltn⟩
    · have g1 : ¬ (k : Int) < l.length := by omega
      have HL := Lib.hid (show ys.length = min l.length n by have := HYL.out; omega)
      clear hkl
      go_wp2
      go_ret
      exact ⟨_, rfl, ys, HO.out, HL.out, HS.out, HB.out⟩
    · have g1 : (k : Int) < l.length := by omega
      have g2 : ¬ (k : Int) < n := by omega
      have HL := Lib.hid (show ys.length = min l.length n by have := HYL.out; omega)
      clear hkl
      go_wp2
      go_ret
      exact ⟨_, rfl, ys, HO.out, HL.out, HS.out, HB.out⟩
    · have g1 : (k : Int) < l.length := by omega
      have g2 : (k : Int) < n := by omega
      have hyl2 : ys.length ≤ 1000 := by have := HYL.out; omega
      obtain ⟨ad, rfl, c0⟩ := int_at (HA.out.bl HB.out) k hlt
      generalize l[k] = y at *
      go_wp2_with fail
      refine (within_any _ _ _ (by decide)).mono ?_
      rintro e w' ⟨rfl, rfl⟩
      have hb := within_bd (wrap64 (y + 8388608)) 16777216 (by decide)
      generalize within (wrap64 (y + 8388608)) 16777216 = z at *
      have hw : IntKind.i64.wrap (-8388608 + z) = -8388608 + z := IntWalk.i64_in _ (by omega)
      rcases (show y < -8388608 ∨ (-8388608 ≤ y ∧ 8388607 < y) ∨ (-8388608 ≤ y ∧ y ≤ 8388607) by omega) with hq | ⟨hq, hq2⟩ | ⟨hq, hq2⟩
      · go_wp2_with (at_builtin; refine Enc.Own.append1 (E := intE) rfl (.tmp 52) (.tmp 54) 24 rfl w.heap.size 3 (.int .i64 0) 1 8 Tryz.underlying24 infoIntX rfl rfl (by decide) (by decide) _ _ rfl HO.out (-8388608 + z) _ rfl rfl rfl (by omega) (HB.out.size) ?_; intro u1 w2 ho hg)
        go_roundg (l.length - (k + 1))
        case measure => omega
        case rel => exact ⟨k + 1, ys ++ [(-8388608 + z)], by omega, by omega, rfl, by go_num, by rw [List.length_append, HYL.out]; rfl, Lib.hid ho, Lib.hid (by rw [List.all_append, HS.out]; simp [okS]; omega), Lib.hid ((HB.out.alloc _).grown hg (fun g hgk => (HO.out.lt g hgk).1))⟩
      · go_wp2_with (at_builtin; refine Enc.Own.append1 (E := intE) rfl (.tmp 52) (.tmp 54) 24 rfl w.heap.size 3 (.int .i64 0) 1 8 Tryz.underlying24 infoIntX rfl rfl (by decide) (by decide) _ _ rfl HO.out (-8388608 + z) _ rfl rfl rfl (by omega) (HB.out.size) ?_; intro u1 w2 ho hg)
        go_roundg (l.length - (k + 1))
        case measure => omega
        case rel => exact ⟨k + 1, ys ++ [(-8388608 + z)], by omega, by omega, rfl, by go_num, by rw [List.length_append, HYL.out]; rfl, Lib.hid ho, Lib.hid (by rw [List.all_append, HS.out]; simp [okS]; omega), Lib.hid ((HB.out.alloc _).grown hg (fun g hgk => (HO.out.lt g hgk).1))⟩
      · go_wp2_with (at_builtin; refine Enc.Own.append1 (E := intE) rfl (.tmp 52) (.tmp 54) 24 rfl w.heap.size 3 (.int .i64 0) 1 8 Tryz.underlying24 infoIntX rfl rfl (by decide) (by decide) _ _ rfl HO.out y _ rfl rfl rfl (by omega) (HB.out.size) ?_; intro u1 w2 ho hg)
        go_roundg (l.length - (k + 1))
        case measure => omega
        case rel => exact ⟨k + 1, ys ++ [y], by omega, by omega, rfl, by go_num, by rw [List.length_append, HYL.out]; rfl, Lib.hid ho, Lib.hid (by rw [List.all_append, HS.out]; simp [okS]; omega), Lib.hid ((HB.out.alloc _).grown hg (fun g hgk => (HO.out.lt g hgk).1))⟩
end Go.Proofs.YtoocebghlchcoaaGreat.ExtW

/- Records as data. No program in sight. -/
namespace Go.Ov
open Go.RowKit

/-- a record -/
structure Rec where
  kind : Int
  track : Int
  fr : Int
  tt : Int
  l : List Ext
def RecIs (w : World) (v : Value) (r : Rec) : Prop := ∃ u, v = .agg #[.int .i64 r.kind, .int .i64 r.track, .int .i64 r.fr, .int .i64 r.tt, u] ∧ extE.Is w u r.l
theorem RecIs.bl {w w' : World} {v : Value} {r : Rec} (h : RecIs w v r) (hb : Bl w w') : RecIs w' v r := by
  obtain ⟨u, e, h⟩ := h; exact ⟨u, e, h.bl hb⟩
/-- a record that may be, by any -/
def rightM (r : Rec) : Rec :=
  if 1 + within r.kind 5 ≤ 2 then ⟨1 + within r.kind 5, within r.track 100, 0, 0, []⟩
  else if 1 + within r.kind 5 = 3 then ⟨3, within r.track 100, within r.fr (within r.tt 1001 + 1), within r.tt 1001, rowM r.l 20⟩
  else ⟨1 + within r.kind 5, 0, 0, 0, []⟩
def in64 (x : Int) : Prop := -9223372036854775808 ≤ x ∧ x ≤ 9223372036854775807
def inRec (r : Rec) : Prop := in64 r.kind ∧ in64 r.track ∧ in64 r.fr ∧ in64 r.tt ∧ ∀ x ∈ r.l, inExt x
def ArgRec (w : World) (v : Value) (r : Rec) : Prop := RecIs w v r ∧ inRec r
def ArgIntss (w : World) (v : Value) (ls : List (List Int)) : Prop := ∃ A c hs, v = .slice A hs.length c ∧ hs.length ≤ c ∧ c ≤ maxLen ∧ headE.At w A hs ∧ IRows w hs ls
/-- a record in a block -/
def RecAt (w : World) (B : Nat) (r : Rec) : Prop := ∃ A n c, w.cell? ⟨B, 0, none⟩ = some (.int .i64 r.kind) ∧ w.cell? ⟨B, 1, none⟩ = some (.int .i64 r.track) ∧ w.cell? ⟨B, 2, none⟩ = some (.int .i64 r.fr) ∧
  w.cell? ⟨B, 3, none⟩ = some (.int .i64 r.tt) ∧ w.cell? ⟨B, 4, none⟩ = some (.slice A n c) ∧ extE.Is w (.slice A n c) r.l
theorem RecAt.bl {w w' : World} {B : Nat} {r : Rec} (h : RecAt w B r) (hb : Bl w w') : RecAt w' B r := by
  obtain ⟨A, n, c, h0, h1, h2, h3, h4, h5⟩ := h
  exact ⟨A, n, c, hb.cell h0, hb.cell h1, hb.cell h2, hb.cell h3, hb.cell h4, h5.bl hb⟩
theorem bcell {W w1 : World} (hb : Bl W w1) : (∀ b o, b < W.heap.size → w1.cell? ⟨b, o, none⟩ = W.cell? ⟨b, o, none⟩) ∧ (∀ b o, b < W.heap.size → w1.frozen? ⟨b, o, none⟩ = W.frozen? ⟨b, o, none⟩) :=
  ⟨fun b o h => Below.cell hb (p := ⟨b, o, none⟩) h, fun b o h => Below.frozen hb (p := ⟨b, o, none⟩) h⟩
end Go.Ov

/- How arguments are opened that are records, rows of records, rows of rows of numbers. -/
namespace Go.Ov
open Go.RowKit Go.ChangeShapes Go.WideShapes Go.ChangeAt Go.Deep Go.Proofs

section
variable {H : Type} {enc : TypeId × Value → H} {w : World} {base : Nat} {spare : Nat → Bool} {held : Bool}

set_option maxRecDepth 100000 in
theorem trod_ints {fuel : Nat} {cs : List Value} {x : DataW H × List MemPlace} (h : DataW.trod enc Tryz.prog w base spare held fuel 24 cs = some x) :
    ∃ (h : Head) (l : List Int), cs = [h.v] ∧ h.n = l.length ∧ l.length ≤ h.cap ∧ h.cap ≤ maxLen ∧ (h.A = none → h.cap = 0) ∧ intE.At w h.A l := by
  obtain ⟨A, c, xs, e1, e2, e3, e4, e5, e6⟩ := trod_slice_rel (α := Int) (fun x cs => cs = [.int .i64 x]) Tryz.underlying24 (fun fuel cs x hx => by obtain ⟨n, hn, _⟩ := trod_int Tryz.underlying3 hx; exact ⟨n, hn⟩) h
  refine ⟨⟨A, xs.length, c⟩, xs, e1, rfl, e2, e3, e4, fun i x hx => ?_⟩
  obtain ⟨ad, cs', rfl, h1, rfl⟩ := e5 i x hx
  exact ⟨ad, rfl, h1⟩

set_option maxRecDepth 100000 in
theorem trod_exts {fuel : Nat} {cs : List Value} {x : DataW H × List MemPlace} (h : DataW.trod enc Tryz.prog w base spare held fuel 23 cs = some x) :
    ∃ (h : Head) (l : List Ext), cs = [h.v] ∧ h.n = l.length ∧ extE.Is w h.v l ∧ ∀ x ∈ l, inExt x := by
  obtain ⟨A, c, xs, e1, e2, e3, e4, e5, e6⟩ := trod_slice_rel (α := Ext) (fun x cs => cs = x.vals ∧ inExt x) Tryz.underlying23 (fun fuel cs x hx => trod_ext ⟨_, _, _, _, _, Tryz.underlying34, rfl, rfl, rfl, rfl, rfl, rfl, rfl, rfl, rfl, rfl⟩ Tryz.underlying3 (by kernel_rfl) (by kernel_rfl) hx) h
  refine ⟨⟨A, xs.length, c⟩, xs, e1, rfl, ⟨A, c, rfl, e2, e3, e4, fun i x hx => ?_⟩, fun x hx => ?_⟩
  · obtain ⟨ad, cs', rfl, h1, rfl, _⟩ := e5 i x hx
    rw [show Tryz.prog.cellsOf 34 = 5 by kernel_rfl] at h1
    exact ⟨ad, rfl, h1⟩
  · obtain ⟨i, hi⟩ := List.getElem?_of_mem hx
    obtain ⟨ad, cs', _, _, _, h2⟩ := e5 i x hi
    exact h2

set_option maxRecDepth 100000 in
theorem trod_rec {fuel : Nat} {cs : List Value} {x : DataW H × List MemPlace} (h : DataW.trod enc Tryz.prog w base spare held fuel 90 cs = some x) :
    ∃ (r : Rec) (u : Head), cs = [.int .i64 r.kind, .int .i64 r.track, .int .i64 r.fr, .int .i64 r.tt, u.v] ∧ extE.Is w u.v r.l ∧ inRec r := by
  obtain ⟨xs, n, _, rfl, hl, hlen, hf⟩ := DataW.trod_struct Tryz.underlying90 h
  rw [show Tryz.prog.cellsOf 90 = 5 by kernel_rfl] at hl
  match cs, hl with
  | [c0, c1, c2, c3, c4], _ =>
    have g0 : DataW.trod enc Tryz.prog w base spare held n 3 (([c0, c1, c2, c3, c4].drop 0).take (Tryz.prog.cellsOf 3)) = xs[0]? := hf 0 _ rfl
    have g1 : DataW.trod enc Tryz.prog w base spare held n 3 (([c0, c1, c2, c3, c4].drop 1).take (Tryz.prog.cellsOf 3)) = xs[1]? := hf 1 _ rfl
    have g2 : DataW.trod enc Tryz.prog w base spare held n 3 (([c0, c1, c2, c3, c4].drop 2).take (Tryz.prog.cellsOf 3)) = xs[2]? := hf 2 _ rfl
    have g3 : DataW.trod enc Tryz.prog w base spare held n 3 (([c0, c1, c2, c3, c4].drop 3).take (Tryz.prog.cellsOf 3)) = xs[3]? := hf 3 _ rfl
    have g4 : DataW.trod enc Tryz.prog w base spare held n 23 (([c0, c1, c2, c3, c4].drop 4).take (Tryz.prog.cellsOf 23)) = xs[4]? := hf 4 _ rfl
    have hc1 : Tryz.prog.cellsOf 3 = 1 := by kernel_rfl
    have hc2 : Tryz.prog.cellsOf 23 = 1 := by kernel_rfl
    have hx : xs.length = 5 := hlen
    rw [List.getElem?_eq_getElem (by omega)] at g0 g1 g2 g3 g4
    simp only [hc1, hc2, List.drop_zero, List.drop_succ_cons, List.take_succ_cons, List.take_zero] at g0 g1 g2 g3 g4
    obtain ⟨n0, h0, w0⟩ := trod_int Tryz.underlying3 g0
    obtain ⟨n1, h1, w1⟩ := trod_int Tryz.underlying3 g1
    obtain ⟨n2, h2, w2⟩ := trod_int Tryz.underlying3 g2
    obtain ⟨n3, h3, w3⟩ := trod_int Tryz.underlying3 g3
    obtain ⟨u, l, h4, _, h5, h6⟩ := trod_exts g4
    simp at h0 h1 h2 h3 h4
    subst h0; subst h1; subst h2; subst h3; subst h4
    exact ⟨⟨n0, n1, n2, n3, l⟩, u, rfl, h5, wf_bd w0, wf_bd w1, wf_bd w2, wf_bd w3, h6⟩

instance : Inhabited Head := ⟨⟨none, 0, 0⟩⟩
set_option maxRecDepth 100000 in
/-- a record -/
theorem open_arg_rec {r : Reach} {b0 : Nat} {v : Value} {d : DataW H} {p : List MemPlace} {ts : List TypeId} {ds : List (DataW H)} {j : Nat} (hv : Value.okWide Tryz.prog w r b0 90 v)
    (_ : (DataW.weightsEach Tryz.prog ts ds).all (· ≤ reachBytes) = true) (_ : ts[j]? = some 90) (_ : ds[j]? = some d)
    (h : DataW.Trod enc Tryz.prog w base spare held 90 v d p) : ∃ r, ArgRec w v r := by
  obtain ⟨cs, rfl, hsz⟩ := okWide_struct Tryz.underlying90 hv
  obtain ⟨fuel, hf⟩ := h
  obtain ⟨r, u, e, h1, h2⟩ := trod_rec hf
  refine ⟨r, ⟨u.v, ?_, h1⟩, h2⟩
  have e' : cs.toList = _ := e
  rw [show cs = (cs.toList).toArray by simp, e']

set_option maxRecDepth 100000 in
/-- rows of rows of numbers -/
theorem open_arg_intss {r : Reach} {b0 : Nat} {v : Value} {d : DataW H} {p : List MemPlace} {ts : List TypeId} {ds : List (DataW H)} {j : Nat} (hv : Value.okWide Tryz.prog w r b0 22 v)
    (_ : (DataW.weightsEach Tryz.prog ts ds).all (· ≤ reachBytes) = true) (_ : ts[j]? = some 22) (_ : ds[j]? = some d)
    (h : DataW.Trod enc Tryz.prog w base spare held 22 v d p) : ∃ ls, ArgIntss w v ls := by
  obtain ⟨A0, n0, c0, rfl⟩ := okWide_slice Tryz.underlying22 hv
  obtain ⟨fuel, hf⟩ := h
  obtain ⟨A, c, xs, e1, e2, e3, e4, e5, e6⟩ := trod_slice_rel (α := Head × List Int) (fun x cs => cs = [x.1.v] ∧ x.1.n = x.2.length ∧ x.2.length ≤ x.1.cap ∧ x.1.cap ≤ maxLen ∧ (x.1.A = none → x.1.cap = 0) ∧ intE.At w x.1.A x.2)
    Tryz.underlying22 (fun fuel cs x hx => by obtain ⟨h, l, h1⟩ := trod_ints hx; exact ⟨(h, l), h1⟩) hf
  simp [Value.cells] at e1
  obtain ⟨rfl, rfl, rfl⟩ := e1
  refine ⟨xs.map (·.2), A0, c0, xs.map (·.1), by simp, by simpa using e2, e3, fun i x hx => ?_, by simp, fun i x l hx hl => ?_⟩
  · rw [List.getElem?_map] at hx
    cases e : xs[i]? with
    | none => rw [e] at hx; cases hx
    | some y =>
      rw [e] at hx
      simp at hx; subst hx
      obtain ⟨ad, cs', rfl, h1, rfl, _⟩ := e5 i y e
      rw [show Tryz.prog.cellsOf 24 = 1 by kernel_rfl] at h1
      exact ⟨ad, rfl, h1⟩
  · rw [List.getElem?_map] at hx hl
    cases e : xs[i]? with
    | none => rw [e] at hx; cases hx
    | some y =>
      rw [e] at hx hl
      simp at hx hl; subst hx; subst hl
      obtain ⟨ad, cs', rfl, h1, rfl, h2⟩ := e5 i y e
      exact h2
end
end Go.Ov
