/- Several texts joined (see each one's head). -/
import Derived.Test.YtddcjekkimajpaaPkC
import Derived.Test.YtddcjekkimajpaaPkB
import Derived.Laws.CopyOwn
import Derived.Lib.Overlaps
import Derived.Lib.SliceRun
import Derived.IntWalk
import Derived.Test.YtddcjekkimajpaaPkA
/- Contracts of tree.Of and Right: what made made is right. -/
namespace Go.Proofs.Ytddcjekkimajpaa.ExtW
open Go.RowKit Go.Ov Go.Proofs.Ytddcjekkimajpaa.Need

theorem good_small : ∀ (d : Nat) (top : Bool) (l : List Ext) (f : List Int) (p : List NodeM), goodN d top (.mk l f p) → l.length ≤ 8 ∧ f.length ≤ 8 ∧ p.length ≤ 8 ∧ (∀ x ∈ p, ∃ d top, goodN d top x) ∧ isE l.length f.length p.length = false
  | 0, _, _, _, _, h => h.elim
  | 1, top, l, f, p, h => by
    obtain ⟨rfl, rfl, h1, h2⟩ := h
    have : 1 ≤ l.length := by unfold leastN at h1; split at h1 <;> omega
    exact ⟨h2, by simp, by simp, fun x hx => by simp at hx, by unfold isE; simp; intro e; rw [e] at this; simp at this⟩
  | d + 2, top, l, f, p, h => by
    obtain ⟨rfl, rfl, h1, h2, h3⟩ := h
    have : 2 ≤ p.length := by omega
    exact ⟨by simp, by simpa using h2, h2, fun x hx => ⟨_, _, (h3 x hx).1⟩, by unfold isE; simp; intro e; rw [e] at this; simp at this⟩

set_option maxRecDepth 100000 in
set_option maxHeartbeats 1000000 in
theorem tof_any (l : List Ext) (h : NH) (w : World) (hr : NodeR w (madeM l) h) (hv : validFrom 0 l = true) :
    Calls Try.prog 81 #[h.v] w fun e w' => ∃ b : Nat, e = .returned (.tuple #[.pointer (some ⟨b, 0, none⟩), .bool true]) ∧ Bl w w' := by
  have hlen := valid_len l hv
  have HR := Lib.hid hr
  have HV := Lib.hid hv
  have hu := Try.underlying89
  have hu2 := Try.underlying91
  obtain ⟨⟨hA1, hn1, hc1⟩, ⟨hA2, hn2, hc2⟩, ⟨hA3, hn3, hc3⟩⟩ := h
  by_cases hl : l = []
  · subst hl
    have hE := tempty_any [] [] [] _ (w.alloc (.cells #[.slice hA1 hn1 hc1, .slice hA2 hn2 hc2, .slice hA3 hn3 hc3] 89)) (by have := hr.bl ((Bl.refl w).alloc (.cells #[.slice hA1 hn1 hc1, .slice hA2 hn2 hc2, .slice hA3 hn3 hc3] 89)); rwa [madeM_nil] at this)
    have HE := Lib.hid hE
    simp only [NH.v, Head.v]
    clear hr hE hv hlen
    go_enter Try.func81, Try.ntmps81
    go_wp2_with fail
    refine HE.out.mono ?_
    rintro e w1 ⟨rfl, hb⟩
    rw [show isE ([] : List Ext).length ([] : List Int).length ([] : List NodeM).length = true from rfl]
    have HB := Lib.hid (((Bl.refl w).alloc _).bl hb)
    clear hb
    go_wp2_with fail
    refine (tnew_any _).mono ?_
    rintro e w2 ⟨u, rfl, ht, hb⟩
    obtain ⟨b, _, _, rfl, _⟩ := ht
    go_wp2_with fail
    go_ret2
    exact ⟨b, rfl, HB.out.bl hb⟩
  · obtain ⟨d, hd, hg⟩ := made_good l hl hlen
    have hit := made_items l hl
    have HG := Lib.hid hg
    have HIT := Lib.hid hit
    have hd1 : 1 ≤ d := by
      cases d with
      | zero => cases hm : madeM l; rw [hm] at hg; exact hg.elim
      | succ d => omega
    have hd2 : ¬ (d : Int) < 0 := by omega
    have hE : ∀ W, NodeR W (madeM l) ⟨⟨hA1, hn1, hc1⟩, ⟨hA2, hn2, hc2⟩, ⟨hA3, hn3, hc3⟩⟩ → Calls Try.prog 88 #[.agg #[.slice hA1 hn1 hc1, .slice hA2 hn2 hc2, .slice hA3 hn3 hc3]] W fun e w' => e = .returned (.bool false) ∧ Bl W w' := by
      intro W hW
      cases hm : madeM l with
      | mk a b c =>
        rw [hm] at hW hg
        have := tempty_any a b c _ W hW
        rw [(good_small d true a b c hg).2.2.2.2] at this
        exact this
    have HE := Lib.hid hE
    simp only [NH.v, Head.v]
    clear hr hE hv hg hit
    go_enter Try.func81, Try.ntmps81
    go_wp2_with fail
    refine (HE.out _ (HR.out.bl ((Bl.refl _).alloc _))).mono ?_
    rintro e w1 ⟨rfl, hb⟩
    have HK := Lib.hid ((Blk.new w #[.slice hA1 hn1 hc1, .slice hA2 hn2 hc2, .slice hA3 hn3 hc3] 89).bl hb)
    have HB := Lib.hid (((Bl.refl w).alloc _).bl hb)
    have z0 := HK.out.cell 0
    have z1 := HK.out.cell 1
    have z2 := HK.out.cell 2
    simp at z0 z1 z2
    clear hb
    go_wp2_with fail
    refine (tdepth_any d true (madeM l) ⟨⟨hA1, hn1, hc1⟩, ⟨hA2, hn2, hc2⟩, ⟨hA3, hn3, hc3⟩⟩ 8 _ (HR.out.bl HB.out) HG.out (by omega) (by decide)).mono ?_
    rintro e w2 ⟨rfl, hb⟩
    have HK2 := Lib.hid (HK.out.bl hb)
    have HB2 := Lib.hid (HB.out.bl hb)
    have y0 := HK2.out.cell 0
    have y1 := HK2.out.cell 1
    have y2 := HK2.out.cell 2
    simp at y0 y1 y2
    clear hb z0 z1 z2
    go_wp2_with fail
    refine (titems_any (madeM l) ⟨⟨hA1, hn1, hc1⟩, ⟨hA2, hn2, hc2⟩, ⟨hA3, hn3, hc3⟩⟩ _ (HR.out.bl HB2.out) (by rw [HIT.out]; omega)).mono ?_
    rintro e w3 ⟨u, rfl, ho, hb⟩
    rw [HIT.out] at ho
    have HK3 := Lib.hid (HK2.out.bl hb)
    have HB3 := Lib.hid (HB2.out.bl hb)
    have HU := Lib.hid ho.is
    obtain ⟨A5, c5, rfl⟩ := ho.slice
    clear ho hb y0 y1 y2
    go_wp2_with fail
    refine (valid_any _ l _ HU.out).mono ?_
    rintro e w4 ⟨rfl, hb⟩
    rw [HV.out]
    have HK4 := Lib.hid (HK3.out.bl hb)
    have HB4 := Lib.hid (HB3.out.bl hb)
    have y0 := HK4.out.cell 0
    have y1 := HK4.out.cell 1
    have y2 := HK4.out.cell 2
    simp at y0 y1 y2
    clear hb
    go_wp2_with fail
    refine (tcopied_any (madeM l) ⟨⟨hA1, hn1, hc1⟩, ⟨hA2, hn2, hc2⟩, ⟨hA3, hn3, hc3⟩⟩ _ (HR.out.bl HB4.out) (fun n => ∃ d top, goodN d top n) (fun a b c ⟨d, top, hg⟩ => by obtain ⟨g1, g2, g3, g4, _⟩ := good_small d top a b c hg; exact ⟨by omega, by omega, by omega, g4⟩) ⟨d, true, HG.out⟩).mono ?_
    rintro e w5 ⟨h2, rfl, hb⟩
    have HB5 := Lib.hid (HB4.out.bl hb)
    obtain ⟨⟨kA1, kn1, kc1⟩, ⟨kA2, kn2, kc2⟩, ⟨kA3, kn3, kc3⟩⟩ := h2
    simp only [NH.v, Head.v]
    clear hb
    go_wp2_with fail
    go_ret2
    exact ⟨_, rfl, HB5.out.alloc _⟩

set_option maxRecDepth 100000 in
set_option maxHeartbeats 1000000 in
theorem tright_any (v : Value) (l : List Ext) (w : World) (h : TreeIs w v (treeM l)) (hv : validFrom 0 l = true) :
    Calls Try.prog 62 #[v] w fun e w' => e = .returned (.bool true) ∧ Bl w w' := by
  obtain ⟨b, u, n, rfl, c0, c1, c2, c3, h4, h5⟩ := h
  have HL := Lib.hid h4
  have HN := Lib.hid h5
  have HV := Lib.hid hv
  have hu := Try.underlying91
  have hu2 := Try.underlying89
  obtain ⟨uA, un, uc⟩ := u
  obtain ⟨⟨hA1, hn1, hc1⟩, ⟨hA2, hn2, hc2⟩, ⟨hA3, hn3, hc3⟩⟩ := n
  simp only [Head.v] at c0 c1 c2 c3
  have C0 := Lib.hid c0
  clear h4 h5 hv
  go_enter Try.func62, Try.ntmps62
  go_wp2_with fail
  refine (tof_any l ⟨⟨hA1, hn1, hc1⟩, ⟨hA2, hn2, hc2⟩, ⟨hA3, hn3, hc3⟩⟩ _ HN.out HV.out).mono ?_
  rintro e w1 ⟨b2, rfl, hb⟩
  have d0 := hb.cell C0.out
  have HB := Lib.hid hb
  clear hb
  go_wp2_with fail
  refine (valid_any _ l _ (HL.out.bl HB.out)).mono ?_
  rintro e w2 ⟨rfl, hb⟩
  rw [HV.out]
  go_wp2_with fail
  go_ret
  exact ⟨rfl, HB.out.bl hb⟩
end Go.Proofs.Ytddcjekkimajpaa.ExtW

/- Rows of tracks as the document has them (ref20.Lines), as data; how they lie; put in plain words. No program in sight. -/
namespace Go.Ov
open Go.RowKit

structure RH where
  id : Int
  h : Head
instance : Inhabited RH := ⟨⟨0, ⟨none, 0, 0⟩⟩⟩
def rowE : Enc RH := ⟨2, fun h => [.int .i64 h.id, h.h.v], fun _ => rfl, fun x u h => by simp [Head.v] at h; rcases h with rfl | rfl <;> rfl⟩
abbrev LnM := List (Int × List Ext)
def LnR (w : World) (t : Int × List Ext) (h : RH) : Prop := h.id = t.1 ∧ extE.Is w h.h.v t.2
def LnRows (w : World) (hs : List RH) (s : LnM) : Prop := hs.length = s.length ∧ ∀ (i : Nat) (x : Int × List Ext) (h : RH), s[i]? = some x → hs[i]? = some h → LnR w x h
theorem LnRows.sub {a b : World} (h : Sub a b) {hs : List RH} {s : LnM} (hr : LnRows a hs s) : LnRows b hs s := ⟨hr.1, fun i x y hx hy => ⟨(hr.2 i x y hx hy).1, h.is (hr.2 i x y hx hy).2⟩⟩
theorem LnRows.bl {w w' : World} {hs : List RH} {s : LnM} (h : LnRows w hs s) (hb : Bl w w') : LnRows w' hs s := LnRows.sub (Sub.bl hb) h
theorem LnRows.nil (w : World) : LnRows w [] [] := ⟨rfl, fun i x h hx => by simp at hx⟩
theorem LnRows.at {w : World} {hs : List RH} {s : LnM} (hr : LnRows w hs s) (k : Nat) (h : k < s.length) : ∃ h' : k < hs.length, LnR w s[k] hs[k] :=
  ⟨by rw [hr.1]; exact h, hr.2 k _ _ (List.getElem?_eq_getElem h) (List.getElem?_eq_getElem _)⟩
theorem LnRows.snoc {w : World} {hs : List RH} {s : LnM} {h : RH} {t : Int × List Ext} (hr : LnRows w hs s) (h0 : LnR w t h) : LnRows w (hs ++ [h]) (s ++ [t]) := by
  refine ⟨by simp [hr.1], fun i x y hx hy => ?_⟩
  by_cases hi : i < s.length
  · rw [List.getElem?_append_left hi] at hx
    rw [List.getElem?_append_left (by rw [hr.1]; exact hi)] at hy
    exact hr.2 i x y hx hy
  · rw [List.getElem?_append_right (by omega)] at hx
    rw [List.getElem?_append_right (by rw [hr.1]; omega)] at hy
    have : i - s.length = 0 := by have := (List.getElem?_eq_some_iff.1 hx).1; simp at this; omega
    rw [this] at hx
    rw [hr.1, this] at hy
    simp at hx hy; subst hx; subst hy; exact h0
theorem LnRows.take {w : World} {hs : List RH} {s : LnM} (hr : LnRows w hs s) (k : Nat) : LnRows w (hs.take k) (s.take k) := by
  refine ⟨by simp [hr.1], fun i x y hx hy => ?_⟩
  rw [List.getElem?_take] at hx hy
  split at hx
  · rename_i hi
    rw [if_pos hi] at hy
    exact hr.2 i x y hx hy
  · cases hx
theorem LnRows.drop {w : World} {hs : List RH} {s : LnM} (hr : LnRows w hs s) (k : Nat) : LnRows w (hs.drop k) (s.drop k) :=
  ⟨by simp [hr.1], fun i x y hx hy => hr.2 (k + i) x y (by rw [List.getElem?_drop] at hx; exact hx) (by rw [List.getElem?_drop] at hy; exact hy)⟩
theorem LnRows.append {w : World} {hs hs2 : List RH} {s s2 : LnM} (hr : LnRows w hs s) (h2 : LnRows w hs2 s2) : LnRows w (hs ++ hs2) (s ++ s2) := by
  refine ⟨by simp [hr.1, h2.1], fun i x y hx hy => ?_⟩
  by_cases hi : i < s.length
  · rw [List.getElem?_append_left hi] at hx
    rw [List.getElem?_append_left (by rw [hr.1]; exact hi)] at hy
    exact hr.2 i x y hx hy
  · rw [List.getElem?_append_right (by omega)] at hx
    rw [List.getElem?_append_right (by rw [hr.1]; omega), hr.1] at hy
    exact h2.2 _ x y hx hy
theorem LnRows.ids {w : World} {hs : List RH} {s : LnM} (hr : LnRows w hs s) : hs.map RH.id = s.map (·.1) := by
  apply List.ext_getElem?
  intro i
  rw [List.getElem?_map, List.getElem?_map]
  cases hx : s[i]? with
  | none =>
    have : hs[i]? = none := by rw [List.getElem?_eq_none_iff] at hx ⊢; rw [hr.1]; exact hx
    rw [this]; rfl
  | some x =>
    have hlt := (List.getElem?_eq_some_iff.1 hx).1
    have hy : hs[i]? = some (hs[i]'(by rw [hr.1]; exact hlt)) := List.getElem?_eq_getElem _
    rw [hy, Option.map_some, Option.map_some, (hr.2 i x _ hx hy).1]
def LnIs (w : World) (v : Value) (s : LnM) : Prop := ∃ hs, rowE.Is w v hs ∧ LnRows w hs s
theorem LnIs.sub {a b : World} (h : Sub a b) {v : Value} {s : LnM} (hr : LnIs a v s) : LnIs b v s := by
  obtain ⟨hs, h1, h2⟩ := hr
  exact ⟨hs, h.is h1, LnRows.sub h h2⟩
theorem LnIs.bl {w w' : World} {v : Value} {s : LnM} (h : LnIs w v s) (hb : Bl w w') : LnIs w' v s := LnIs.sub (Sub.bl hb) h
theorem LnIs.nil (w : World) : LnIs w (.slice none 0 0) [] := ⟨[], Enc.Is.nil w, LnRows.nil w⟩
theorem LnIs.slice {w : World} {v : Value} {s : LnM} (h : LnIs w v s) : ∃ A c, v = .slice A s.length c := by
  obtain ⟨hs, ⟨A, c, e, _⟩, h2⟩ := h
  exact ⟨A, c, by rw [e, h2.1]⟩
theorem row_at {w : World} {A : Option Addr} {xs : List RH} (h : rowE.At w A xs) (k : Nat) (hk : k < xs.length) :
    ∃ ad, A = some ad ∧ w.cell? (ad.add (k * 2)) = some (.int .i64 xs[k].id) ∧ w.cell? ⟨(ad.add (k * 2)).block, (ad.add (k * 2)).off + 1, none⟩ = some (.slice xs[k].h.A xs[k].h.n xs[k].h.cap) := by
  obtain ⟨ad, e, hc⟩ := h k _ (List.getElem?_eq_getElem hk)
  refine ⟨ad, e, ?_, ?_⟩
  · exact hc 0 _ rfl
  · rw [← add_at _ _ 1 (by decide)]; exact hc 1 _ rfl

/-- what the loop of Put makes: the rest of it, from a row on; whether the row was put already -/
def lgo (x : Int × List Ext) : Bool → LnM → LnM
  | d, [] => if d then [] else [x]
  | d, t :: s => (if d = false ∧ x.1 ≤ t.1 then [x] else []) ++ ((if t.1 = x.1 then [] else [t]) ++ lgo x (d || decide (x.1 ≤ t.1)) s)
def lputM (s : LnM) (id : Int) (row : List Ext) : LnM × Int :=
  if id < 0 ∨ 99 < id then ([], 1) else if idxFrom id 0 (s.map (·.1)) < 0 ∧ 6 ≤ s.length then ([], 4) else (lgo (id, row) false s, 0)
theorem lgo_true (x : Int × List Ext) : ∀ s : LnM, (∀ t ∈ s, t.1 ≠ x.1) → lgo x true s = s
  | [], _ => rfl
  | t :: s, h => by
    have h1 := h t (by simp)
    rw [lgo, if_neg (by simp), if_neg h1, Bool.true_or, lgo_true x s (fun t ht => h t (by simp [ht]))]; rfl
theorem lgo_len (x : Int × List Ext) : ∀ (d : Bool) (s : LnM), (lgo x d s).length ≤ s.length + 1
  | d, [] => by unfold lgo; split <;> simp
  | d, t :: s => by
    have h1 := lgo_len x (d || decide (x.1 ≤ t.1)) s
    have h2 : (lgo x true s).length ≤ s.length := by
      clear h1
      induction s with
      | nil => simp [lgo]
      | cons t s ih =>
        rw [lgo, if_neg (by simp), Bool.true_or]
        by_cases e : t.1 = x.1
        · rw [if_pos e]; simp; omega
        · rw [if_neg e]; simp; omega
    rw [lgo]
    by_cases e : d = false ∧ x.1 ≤ t.1
    · rw [if_pos e]
      have : (d || decide (x.1 ≤ t.1)) = true := by simp [e.2]
      rw [this] at h1 ⊢
      by_cases e2 : t.1 = x.1
      · rw [if_pos e2]; simp; omega
      · rw [if_neg e2]; simp; omega
    · rw [if_neg e]
      by_cases e2 : t.1 = x.1
      · rw [if_pos e2]; simp; omega
      · rw [if_neg e2]; simp; omega
def LnRes (w' : World) (e : Ending) (s : LnM × Int) : Prop :=
  (s.2 = 0 → ∃ u, e = .returned (.tuple #[u, .int .i64 0]) ∧ LnIs w' u s.1) ∧ (s.2 ≠ 0 → e = .returned (.tuple #[.slice none 0 0, .int .i64 s.2]))
theorem LnRes.sub {a b : World} {e : Ending} {s : LnM × Int} (h : LnRes a e s) (hs : Sub a b) : LnRes b e s := ⟨fun z => by obtain ⟨u, e, t⟩ := h.1 z; exact ⟨u, e, LnIs.sub hs t⟩, h.2⟩
end Go.Ov

/- Contracts of package state: find, without. -/
namespace Go.Proofs.Ytddcjekkimajpaa.ExtW
open Go.RowKit Go.Ov Go.Proofs.Ytddcjekkimajpaa.Need

/-- a function value that asks for a track's name -/
def PredOf (K : Nat) : Prop := ∀ (w : World) (i id : Int) (t : Nat) (p : Nat), w.cell? ⟨p, 0, none⟩ = some (.int .i64 id) →
  Calls Try.prog K #[.agg #[.int .i64 i, .pointer (some ⟨t, 0, none⟩)], .pointer (some ⟨p, 0, none⟩)] w fun e w' => e = .returned (.bool (i == id)) ∧ Bl w w'
set_option maxHeartbeats 1000000 in
theorem sfind1_pred : PredOf 66 := by
  intro w i id t p hp
  have hpl : p < w.heap.size := World.block_lt_of_cell? _ _ hp
  have hu := Try.underlying83
  go_enter Try.func66, Try.ntmps66
  go_wp2_with fail
  go_ret
  exact ⟨rfl, (Bl.refl _).alloc _⟩
set_option maxHeartbeats 1000000 in
theorem swithout1_pred : PredOf 69 := by
  intro w i id t p hp
  have hpl : p < w.heap.size := World.block_lt_of_cell? _ _ hp
  have hu := Try.underlying83
  go_enter Try.func69, Try.ntmps69
  go_wp2_with fail
  go_ret
  exact ⟨rfl, (Bl.refl _).alloc _⟩

set_option maxRecDepth 100000 in
set_option maxHeartbeats 1000000 in
theorem idx_sfind1 (v : Value) (hs : List TH) (id : Int) (p : Nat) (w : World) (h : trackE.Is w v hs) (hp : w.cell? ⟨p, 0, none⟩ = some (.int .i64 id)) :
    Calls Try.prog 65 #[v, .func (.func 66) #[] #[.pointer (some ⟨p, 0, none⟩)]] w fun e w' => e = .returned (.int .i64 (idxFrom id 0 (hs.map TH.id))) ∧ Bl w w' := by
  obtain ⟨A, c, rfl, h1, h2, h3, h4⟩ := h
  have HA := Lib.hid h4
  have HP := Lib.hid hp
  have hl : hs.length ≤ 9223372036854775807 := by unfold maxLen at h2; omega
  have hu := Try.underlying83
  clear h1 h2 h3 h4 hp
  go_enter Try.func65, Try.ntmps65
  go_wp2_with fail
  go_loopg [8] hs.length (fun g i wr => ∃ k : Nat, k ≤ hs.length ∧ g = hs.length - k ∧ i = .int .i64 k ∧ Hid (idxFrom id 0 (hs.map TH.id) = idxFrom id k ((hs.drop k).map TH.id)) ∧ Hid (Bl w wr))
  case atStart => exact ⟨0, by omega, rfl, rfl, Lib.hid rfl, Lib.hid (Bl.refl _)⟩
  case round =>
    obtain ⟨k, hk, rfl, rfl, HV, HB⟩ := hrel
    by_cases hlt : k < hs.length
    · obtain ⟨ad, rfl, c0, c1⟩ := track_at (HA.out.bl HB.out) k hlt
      have hd := Lib.hid (List.drop_eq_getElem_cons hlt)
      have hki : (k : Int) < hs.length := by omega
      generalize hs[k] = x at *
      obtain ⟨xi, xb⟩ := x
      dsimp only at c0 c1
      go_wp2_with fail
      refine (sfind1_pred _ xi id xb p (HB.out.cell HP.out)).mono ?_
      rintro e w1 ⟨rfl, hb⟩
      have HB1 := Lib.hid (HB.out.bl hb)
      clear hb
      by_cases he : xi = id
      · have he1 : (xi == id) = true := by simpa using he
        have HE := Lib.hid he
        clear he
        go_wp2_with fail
        go_ret
        refine ⟨ret_int ?_, HB1.out⟩
        rw [HV.out, hd.out, List.map_cons, idxFrom, if_pos HE.out]
      · have he1 : (xi == id) = false := by simpa using he
        have HE := Lib.hid he
        clear he
        go_wp2_with fail
        go_roundg (hs.length - (k + 1))
        case measure => omega
        case rel => exact ⟨k + 1, by omega, rfl, by go_num, Lib.hid (by rw [HV.out, hd.out, List.map_cons, idxFrom, if_neg HE.out]), HB1⟩
    · go_wp2_with fail
      go_ret
      refine ⟨ret_int ?_, HB.out⟩
      rw [HV.out, List.drop_of_length_le (by omega)]; rfl
set_option maxRecDepth 100000 in
set_option maxHeartbeats 1000000 in
theorem idx_swithout1 (v : Value) (hs : List TH) (id : Int) (p : Nat) (w : World) (h : trackE.Is w v hs) (hp : w.cell? ⟨p, 0, none⟩ = some (.int .i64 id)) :
    Calls Try.prog 65 #[v, .func (.func 69) #[] #[.pointer (some ⟨p, 0, none⟩)]] w fun e w' => e = .returned (.int .i64 (idxFrom id 0 (hs.map TH.id))) ∧ Bl w w' := by
  obtain ⟨A, c, rfl, h1, h2, h3, h4⟩ := h
  have HA := Lib.hid h4
  have HP := Lib.hid hp
  have hl : hs.length ≤ 9223372036854775807 := by unfold maxLen at h2; omega
  have hu := Try.underlying83
  clear h1 h2 h3 h4 hp
  go_enter Try.func65, Try.ntmps65
  go_wp2_with fail
  go_loopg [8] hs.length (fun g i wr => ∃ k : Nat, k ≤ hs.length ∧ g = hs.length - k ∧ i = .int .i64 k ∧ Hid (idxFrom id 0 (hs.map TH.id) = idxFrom id k ((hs.drop k).map TH.id)) ∧ Hid (Bl w wr))
  case atStart => exact ⟨0, by omega, rfl, rfl, Lib.hid rfl, Lib.hid (Bl.refl _)⟩
  case round =>
    obtain ⟨k, hk, rfl, rfl, HV, HB⟩ := hrel
    by_cases hlt : k < hs.length
    · obtain ⟨ad, rfl, c0, c1⟩ := track_at (HA.out.bl HB.out) k hlt
      have hd := Lib.hid (List.drop_eq_getElem_cons hlt)
      have hki : (k : Int) < hs.length := by omega
      generalize hs[k] = x at *
      obtain ⟨xi, xb⟩ := x
      dsimp only at c0 c1
      go_wp2_with fail
      refine (swithout1_pred _ xi id xb p (HB.out.cell HP.out)).mono ?_
      rintro e w1 ⟨rfl, hb⟩
      have HB1 := Lib.hid (HB.out.bl hb)
      clear hb
      by_cases he : xi = id
      · have he1 : (xi == id) = true := by simpa using he
        have HE := Lib.hid he
        clear he
        go_wp2_with fail
        go_ret
        refine ⟨ret_int ?_, HB1.out⟩
        rw [HV.out, hd.out, List.map_cons, idxFrom, if_pos HE.out]
      · have he1 : (xi == id) = false := by simpa using he
        have HE := Lib.hid he
        clear he
        go_wp2_with fail
        go_roundg (hs.length - (k + 1))
        case measure => omega
        case rel => exact ⟨k + 1, by omega, rfl, by go_num, Lib.hid (by rw [HV.out, hd.out, List.map_cons, idxFrom, if_neg HE.out]), HB1⟩
    · go_wp2_with fail
      go_ret
      refine ⟨ret_int ?_, HB.out⟩
      rw [HV.out, List.drop_of_length_le (by omega)]; rfl

set_option maxRecDepth 100000 in
set_option maxHeartbeats 1000000 in
theorem sfind_any (v : Value) (s : StM) (id : Int) (w : World) (h : StateIs w v s) :
    Calls Try.prog 39 #[v, .int .i64 id] w fun e w' => e = .returned (.int .i64 (findS s id)) ∧ Bl w w' := by
  obtain ⟨b, u, hs, rfl, c0, h1, h2⟩ := h
  simp only [Head.v] at c0
  have hbl : b < w.heap.size := World.block_lt_of_cell? _ _ c0
  have hu := Try.underlying76
  go_enter Try.func39, Try.ntmps39
  have HI := Lib.hid h1
  have HE := Lib.hid (show hs.map TH.id = s.map (·.1) from TRows.ids h2)
  clear h1 h2
  go_wp2_with fail
  refine (idx_sfind1 _ hs id w.heap.size _ (HI.out.bl ((Bl.refl _).alloc _)) (by go_simp)).mono ?_
  rintro e w1 ⟨rfl, hb⟩
  go_wp2_with fail
  go_ret
  exact ⟨ret_int (by rw [HE.out]; rfl), ((Bl.refl _).alloc _).bl hb⟩
end Go.Proofs.Ytddcjekkimajpaa.ExtW

/- Blocks written in place: copy, clear, an append of zero values, at elements of several cells. No program in sight. -/
namespace Go.Ov
open Go.RowKit

section
variable {P : Program}

theorem run_copy_rowK (w : World) (dT sT ty elem : TypeId) (k g o dLen dCap : Nat) (a : Addr) (sLen sCap : Nat) (cur : Array Value) (t : TypeId) (cs : List Value)
    (hu : P.underlying dT = some (.slice elem)) (hs : (P.info? elem).map (·.size) = some k)
    (hg : w.heap[g]? = some (.cells cur t (0, 0))) (hn : cs.length = Nat.min sLen dLen * k)
    (hsrc : ∀ j v, cs[j]? = some v → w.cell? (a.add j) = some v) (hfit : o + cs.length ≤ cur.size) (h1 : ∀ v ∈ cs, v.oneCell' = true) :
    (Builtin.copy_ #[dT, sT] ty #[.slice (some ⟨g, o, none⟩) dLen dCap, .slice (some a) sLen sCap]).run P w =
      .ok (goInt (Nat.min sLen dLen)) (w.setRow g (cur.toList.take o ++ cs ++ cur.toList.drop (o + cs.length)).toArray) := by
  have hl := run_loadCells_list (P := P) w a cs hsrc
  have hst := run_storeCells_at P g o t cs 0 cur w hg (by simpa using hfit) h1
  cases hq : P.info? elem with
  | none => simp [hq] at hs
  | some i =>
    have hi : i.size = k := by simpa [hq] using hs
    have hn' : Nat.min sLen dLen * i.size = cs.length := by rw [hi, hn]
    simp [Builtin.copy_, run_underlying hu, Builtin.lenOf, Builtin.firstCells, sizeOf, typeInfo, hq, hn', hl, hst]

theorem run_clearK (w : World) (t e : TypeId) (z : Value) (ht : P.underlying t = some (.slice e)) (hv : ∀ w, (zeroValue e).run P w = .ok z w) (h1 : ∀ v ∈ z.cells.toList, v.oneCell' = true)
    (g o n c : Nat) (cur : Array Value) (T : TypeId) (hg : w.heap[g]? = some (.cells cur T (0, 0))) (hfit : o + n * z.cells.size ≤ cur.size) (hz : 0 < z.cells.size) :
    ∃ cur' : Array Value, (∀ ty, (Builtin.clear_ #[t] ty #[.slice (some ⟨g, o, none⟩) n c]).run P w = .ok (.tuple #[]) (w.setRow g cur')) ∧ cur'.size = cur.size ∧ cur'.toList.take o = cur.toList.take o := by
  cases n with
  | zero =>
    refine ⟨cur, fun ty => ?_, rfl, rfl⟩
    have : w.setRow g cur = w := setRow_self w g cur T (0, 0) hg
    rw [this]
    simp [Builtin.clear_, run_underlying ht]
  | succ m =>
    have hlen : (Builtin.zeroCells z.cells (m + 1)).toList.length = (m + 1) * z.cells.size := by simp [Builtin.zeroCells]
    have hone : ∀ v ∈ (Builtin.zeroCells z.cells (m + 1)).toList, v.oneCell' = true := by
      intro v hv
      simp only [Builtin.zeroCells, Array.toList_map, List.mem_map, Array.toList_range, List.mem_range] at hv
      obtain ⟨i, hi, rfl⟩ := hv
      have hlt : i % z.cells.size < z.cells.size := Nat.mod_lt _ hz
      refine h1 _ ?_
      rw [getElem!_pos z.cells (i % z.cells.size) hlt]
      simp
    have hst := run_storeCells_at P g o T (Builtin.zeroCells z.cells (m + 1)).toList 0 cur w hg (by rw [hlen]; simpa using hfit) hone
    refine ⟨_, fun ty => by simp [Builtin.clear_, run_underlying ht, hv]; rw [hst]; rfl, ?_, ?_⟩
    · simp only [Nat.add_zero, List.size_toArray, List.length_append, List.length_take, List.length_drop, Array.length_toList, hlen]
      omega
    · simp only [Nat.add_zero]
      rw [List.append_assoc, List.take_append_of_le_length (by rw [List.length_take, Array.length_toList]; omega), List.take_take]
      congr 1; omega

theorem run_append_zeros_grow (w : World) (t tn ty e : TypeId) (i : TypeInfo) (z : Value) (ht : P.underlying t = some (.slice e)) (htn : P.underlying tn = some (.int .i64)) (hi : P.info? e = some i) (hz : i.zero = some z)
    (b : Addr) (sLen sCap : Nat) (olds : List Value) (hlo : olds.length = sLen * i.size) (holds : ∀ j v, olds[j]? = some v → w.cell? (b.add j) = some v)
    (n : Nat) (hn0 : 0 < n * i.size) (hg : sCap < sLen + n) (h63 : sLen + n ≤ 1000000) (hby : i.bytes ≤ 1000) (hfit : Builtin.nextslicecap (sLen + n) sCap * i.bytes ≤ 281474976710656) :
    (Builtin.append_ #[t, tn] ty #[.slice (some b) sLen sCap, .int .i64 n]).run P w =
      .ok (.slice (some ⟨w.heap.size, 0, none⟩) (sLen + n) (grownCap w (sLen + n) sCap e))
        (w.drew.alloc (.cells (olds.toArray ++ Builtin.zeroCells z.cells n ++ Builtin.zeroCells z.cells (grownCap w (sLen + n) sCap e - (sLen + n))) e)) := by
  have hn : ¬ (sLen + n ≤ sCap) := by omega
  have hw : IntKind.i64.wrap (n : Int) = n := IntWalk.i64_in _ (by omega)
  have h63' : ¬ (9223372036854775807 < ((sLen : Int) + (n : Int))) := by omega
  have h48' : ¬ (281474976710656 < Builtin.nextslicecap (sLen + n) sCap * i.bytes) := by omega
  have hmul : n * i.bytes ≤ 1000000 * 1000 := Nat.mul_le_mul (by omega) hby
  have hneg : ¬ ((n : Int) < 0) := by omega
  have h48i : ¬ ((281474976710656 : Int) < (n : Int) * (i.bytes : Int)) := by
    have : ((n * i.bytes : Nat) : Int) = (n : Int) * (i.bytes : Int) := by push_cast; rfl
    omega
  have hne : ¬ (n * i.size = 0) := by omega
  have hfo := run_firstCells_some (P := P) w.drew i.size sLen b sLen sCap olds hlo (by simpa using holds)
  simp [Builtin.append_, run_underlying ht, run_underlying htn, sizeOf, typeInfo, zeroValue, hi, hz, hn, hw, hneg, h48i, hne, h63', h48', Question.forced, hfo, newRow, grownCap, asInt, asIntOf]
end

section
variable {α : Type} {E : Enc α} {e : TypeId} {w : World} {base : Nat}
/-- an owned row's block -/
theorem Enc.Own.blk {g n cap : Nat} {xs : List α} (h : E.Own e w base (.slice (some ⟨g, 0, none⟩) n cap) xs) :
    n = xs.length ∧ base ≤ g ∧ n ≤ cap ∧ cap ≤ maxLen ∧ ∃ cur : Array Value, w.heap[g]? = some (.cells cur e (0, 0)) ∧ cur.size = cap * E.sz ∧ cur.toList.take (n * E.sz) = xs.flatMap E.c := by
  obtain ⟨h1, h2⟩ := h
  rcases h2 with ⟨h2, _⟩ | ⟨g', c, cur, h2, h3, h4, h5, h6, h7, h8⟩
  · cases h2
  · simp at h2
    obtain ⟨rfl, rfl, rfl⟩ := h2
    exact ⟨rfl, h3, h5, h6, cur, h4, h7, h8⟩
theorem Enc.Own.ofBlk {g n cap : Nat} {xs : List α} {cur : Array Value} (hn : n = xs.length) (hb : base ≤ g) (hc : n ≤ cap) (hm : cap ≤ maxLen) (hg : w.heap[g]? = some (.cells cur e (0, 0))) (hs : cur.size = cap * E.sz)
    (ht : cur.toList.take (n * E.sz) = xs.flatMap E.c) : E.Own e w base (.slice (some ⟨g, 0, none⟩) n cap) xs := by
  subst hn
  exact ⟨flat_len E xs, .inr ⟨g, cap, cur, rfl, hb, hg, hc, hm, hs, ht⟩⟩
theorem flat_take (E : Enc α) (xs : List α) (i : Nat) (h : i ≤ xs.length) : (xs.flatMap E.c).take (i * E.sz) = (xs.take i).flatMap E.c := by
  have e1 : xs.flatMap E.c = (xs.take i).flatMap E.c ++ (xs.drop i).flatMap E.c := by rw [← List.flatMap_append, List.take_append_drop]
  rw [e1, List.take_append_of_le_length (by rw [flat_len, List.length_take, Nat.min_eq_left h]; exact Nat.le_refl _), List.take_of_length_le (by rw [flat_len, List.length_take, Nat.min_eq_left h]; exact Nat.le_refl _)]
theorem flat_drop (E : Enc α) (xs : List α) (i : Nat) (h : i ≤ xs.length) : (xs.flatMap E.c).drop (i * E.sz) = (xs.drop i).flatMap E.c := by
  have e1 : xs.flatMap E.c = (xs.take i).flatMap E.c ++ (xs.drop i).flatMap E.c := by rw [← List.flatMap_append, List.take_append_drop]
  have e2 : i * E.sz = ((xs.take i).flatMap E.c).length := by rw [flat_len, List.length_take, Nat.min_eq_left h]
  rw [e1, e2, List.drop_left]
theorem Enc.Own.trunc {g n cap : Nat} {xs : List α} (h : E.Own e w base (.slice (some ⟨g, 0, none⟩) n cap) xs) (i : Nat) (hi : i ≤ n) : E.Own e w base (.slice (some ⟨g, 0, none⟩) i cap) (xs.take i) := by
  obtain ⟨h1, h2, h3, h4, cur, h5, h6, h7⟩ := h.blk
  refine Enc.Own.ofBlk (by rw [List.length_take]; omega) h2 (by omega) h4 h5 h6 ?_
  rw [← flat_take E xs i (by omega), ← h7, List.take_take, Nat.min_eq_left (Nat.mul_le_mul_right _ hi)]
theorem setRow_at (w : World) (g : Nat) (cs cur : Array Value) (T : TypeId) (h : w.heap[g]? = some (.cells cur T (0, 0))) : (w.setRow g cs).heap[g]? = some (.cells cs T (0, 0)) := setRow_heap w g cur cs T (0, 0) h
theorem setRow_grown (w : World) (g : Nat) (cs : Array Value) : w.grownBy (w.setRow g cs) (some g) := ⟨rfl, rfl, rfl, by simp [World.setRow], fun k _ hk => setRow_other w g k cs (fun e => hk (by rw [e]))⟩
theorem setCell_grown (w : World) (g j : Nat) (u : Value) : w.grownBy (w.setCell ⟨g, j, none⟩ u) (some g) := ⟨rfl, rfl, rfl, by simp [World.setCell], fun k _ hk => setCell_else _ _ _ _ _ (fun e => hk (by rw [e]))⟩
theorem grown_trans {a b c : World} {row : Option Nat} (h : a.grownBy b row) (k : b.grownBy c row) : a.grownBy c row :=
  ⟨k.os.trans h.os, k.tape.trans h.tape, k.output.trans h.output, Nat.le_trans h.size k.size, fun i hi hr => (k.block i (Nat.lt_of_lt_of_le hi h.size) hr).trans (h.block i hi hr)⟩
theorem grown_bl {a b : World} {row : Option Nat} (h : Bl a b) : a.grownBy b row := ⟨h.os, h.tape, h.output, h.size, fun i hi _ => h.block i hi⟩
theorem Enc.Own.ne_blk {v : Value} {xs : List α} {b : Nat} {cs : Array Value} {T : TypeId} (h : E.Own e w base v xs) (hk : Blk w b cs T) (hT : e ≠ T) : v.ownBlock ≠ some b := fun he => by
  rcases h.parts with ⟨rfl, _⟩ | ⟨g, c, rfl, _⟩
  · cases he
  · have hg : g = b := by injection he
    subst hg
    obtain ⟨_, _, _, _, cur, h5, _⟩ := h.blk
    unfold Blk at hk
    rw [h5] at hk
    simp at hk
    exact hT hk.2
/-- an element of two cells is written -/
theorem Enc.Own.store2 {g n cap : Nat} {xs : List α} (h : E.Own e w base (.slice (some ⟨g, 0, none⟩) n cap) xs) (hE : E.sz = 2) (j : Nat) (y : α) (a b : Value) (hy : E.c y = [a, b]) :
    E.Own e ((w.setCell ⟨g, j * 2, none⟩ a).setCell ⟨g, j * 2 + 1, none⟩ b) base (.slice (some ⟨g, 0, none⟩) n cap) (xs.set j y) := by
  obtain ⟨rfl, h2, h3, h4, cur, h5, h6, h7⟩ := h.blk
  have hf : ∀ (l : List α) (j : Nat), ((l.flatMap E.c).set (j * 2) a).set (j * 2 + 1) b = (l.set j y).flatMap E.c := by
    intro l
    induction l with
    | nil => intro j; rfl
    | cons x l ih =>
      intro j
      have hx : (E.c x).length = 2 := by rw [E.len, hE]
      cases j with
      | zero =>
        rw [List.set_cons_zero, List.flatMap_cons, List.flatMap_cons, hy]
        match hc : E.c x, hx with
        | [p, q], _ => rfl
      | succ j =>
        rw [List.set_cons_succ, List.flatMap_cons, List.flatMap_cons, ← ih j, Nat.succ_mul, List.set_append_right _ _ (by omega), List.set_append_right _ _ (by omega), hx]
        congr 2 <;> omega
  have c1 := setCell_at w g (j * 2) a cur e _ h5
  have c2 := setCell_at _ g (j * 2 + 1) b _ e _ c1
  refine Enc.Own.ofBlk (by rw [List.length_set]) h2 h3 h4 c2 (by simpa using h6) ?_
  rw [Array.toList_setIfInBounds, Array.toList_setIfInBounds, List.take_set, List.take_set, h7, hf]
theorem Enc.Own.at2 {g n cap : Nat} {xs : List α} (h : E.Own e w base (.slice (some ⟨g, 0, none⟩) n cap) xs) (hE : E.sz = 2) (j : Nat) (hj : j < xs.length) (a b : Value) (hy : E.c xs[j] = [a, b]) :
    w.cell? ⟨g, j * 2, none⟩ = some a ∧ w.cell? ⟨g, j * 2 + 1, none⟩ = some b ∧ w.frozen? ⟨g, j * 2, none⟩ = false ∧ w.frozen? ⟨g, j * 2 + 1, none⟩ = false := by
  obtain ⟨rfl, h2, h3, h4, cur, h5, h6, h7⟩ := h.blk
  have f1 := flat_get E xs j _ (List.getElem?_eq_getElem hj) 0 a (by rw [hy]; rfl)
  have f2 := flat_get E xs j _ (List.getElem?_eq_getElem hj) 1 b (by rw [hy]; rfl)
  rw [hE] at f1 f2 h7
  rw [← h7, List.getElem?_take, if_pos (by omega), Nat.add_zero, Array.getElem?_toList] at f1
  rw [← h7, List.getElem?_take, if_pos (by omega), Array.getElem?_toList] at f2
  exact ⟨by rw [cell_of_row w g _ cur e (0, 0) h5]; exact f1, by rw [cell_of_row w g _ cur e (0, 0) h5]; exact f2, frozen_of_row w g _ cur e h5, frozen_of_row w g _ cur e h5⟩
end
end Go.Ov

/- Contracts of slices.Clone, DeleteFunc, Insert at tracks. -/
namespace Go.Proofs.Ytddcjekkimajpaa.ExtW
open Go.RowKit Go.Ov Go.Proofs.Ytddcjekkimajpaa.Need

theorem infoTrack : (Try.prog.info? 83).map (fun i => (i.zero, i.size, i.bytes)) = some (some (.agg #[.int .i64 0, .pointer none]), 2, 16) := by kernel_rfl

set_option maxRecDepth 100000 in
set_option maxHeartbeats 1000000 in
theorem cloneTrack_any (v : Value) (hs : List TH) (w : World) (h : trackE.Is w v hs) (hn : hs.length ≤ 1000000) :
    Calls Try.prog 68 #[v] w fun e w' => ∃ u, e = .returned u ∧ trackE.Own 83 w' w.heap.size u hs ∧ Bl w w' := by
  have HH := Lib.hid h
  obtain ⟨A, c, rfl, h1, h2, h3, h4⟩ := h
  have hE := fun w => Lib.run_eql_slice_nil (P := Try.prog) w 74 83 A hs.length c 0 0 Try.underlying74
  cases A with
  | none =>
    have hc : c = 0 := h3 rfl
    have hl : hs = [] := List.eq_nil_of_length_eq_zero (by omega)
    subst hc; subst hl
    clear h4 h3 h2 h1 hE
    have hE := fun w => Lib.run_eql_slice_nil (P := Try.prog) w 74 83 none 0 0 0 0 Try.underlying74
    go_enter Try.func68, Try.ntmps68
    go_wp2_with fail
    go_ret
    exact ⟨_, rfl, Enc.Own.nil _ _ _, Bl.refl _⟩
  | some ad =>
    clear h4 h3 h2 h1
    go_enter Try.func68, Try.ntmps68
    go_wp2_with (at_builtin; refine Enc.Own.append (E := trackE) rfl (.tmp 5) (.tmp 6) 74 rfl w.heap.size 83 (.agg #[.int .i64 0, .pointer none]) 2 16 Try.underlying74 infoTrack rfl rfl (by decide) (by decide) (.slice (some ⟨w.heap.size, 0, none⟩) 0 0) [] rfl (Enc.Own.lit w w.heap.size [] #[] rfl 0 rfl (Nat.le_refl _) (by decide) rfl) (.slice (some ad) hs.length c) hs rfl (HH.out.bl ((Bl.refl _).alloc _)) ?hlen ?hb ?_; (case hlen => simp; omega); (case hb => exact ((Bl.refl w).alloc _).size); intro v1 w1 ho hg)
    go_ret
    exact ⟨_, rfl, by simpa using ho, ((Bl.refl _).alloc _).grown hg (fun k hk => by simp [Value.ownBlock] at hk; omega)⟩

/-- those of another name -/
def others (id : Int) (hs : List TH) : List TH := hs.filter fun h => h.id != id
theorem idx_neg (id : Int) : ∀ (hs : List TH) (k : Nat), idxFrom id k (hs.map TH.id) = -1 → others id hs = hs
  | [], _, _ => rfl
  | h :: hs, k, hi => by
    unfold idxFrom at hi
    rw [List.map_cons] at hi
    simp only at hi
    by_cases e : h.id = id
    · rw [if_pos e] at hi; omega
    · rw [if_neg e] at hi
      unfold others
      rw [List.filter_cons_of_pos (by simpa using e)]
      congr 1
      exact idx_neg id hs (k + 1) hi
theorem idx_pos (id : Int) : ∀ (hs : List TH) (k : Nat), idxFrom id k (hs.map TH.id) ≠ -1 → ∃ i, ∃ h : i < hs.length, idxFrom id k (hs.map TH.id) = ((k + i : Nat) : Int) ∧ hs[i].id = id ∧ others id (hs.take i) = hs.take i
  | [], _, hi => absurd rfl hi
  | h :: hs, k, hi => by
    rw [List.map_cons] at hi ⊢
    unfold idxFrom at hi ⊢
    by_cases e : h.id = id
    · rw [if_pos e]
      exact ⟨0, by simp, by simp, e, rfl⟩
    · rw [if_neg e] at hi ⊢
      obtain ⟨i, h1, h2, h3, h4⟩ := idx_pos id hs (k + 1) hi
      refine ⟨i + 1, by simp; omega, by rw [h2]; congr 1; omega, by simpa using h3, ?_⟩
      unfold others at h4 ⊢
      rw [List.take_succ_cons, List.filter_cons_of_pos (by simpa using e), h4]

theorem others_snoc (id : Int) (l : List TH) (x : TH) : others id (l ++ [x]) = others id l ++ (if x.id = id then [] else [x]) := by
  unfold others
  rw [List.filter_append]
  congr 1
  by_cases e : x.id = id
  · rw [if_pos e, List.filter_cons_of_neg (by simpa using e)]; rfl
  · rw [if_neg e, List.filter_cons_of_pos (by simpa using e)]; rfl
theorem get_of_drop {α : Type} {a b : List α} {j : Nat} (h : a.drop j = b.drop j) (ha : j < a.length) (hb : j < b.length) : a[j] = b[j] ∧ a.drop (j + 1) = b.drop (j + 1) := by
  rw [List.drop_eq_getElem_cons ha, List.drop_eq_getElem_cons hb] at h
  injection h with h1 h2
  exact ⟨h1, h2⟩
theorem set_take_snoc {α : Type} (L : List α) (i : Nat) (x : α) (h : i < L.length) : (L.set i x).take (i + 1) = L.take i ++ [x] := by
  rw [List.take_succ_eq_append_getElem (by rw [List.length_set]; exact h), List.take_set_of_le (Nat.le_refl _)]
  simp
theorem set_drop {α : Type} (L : List α) (i j : Nat) (x : α) (h : i < j) : (L.set i x).drop j = L.drop j := List.drop_set_of_lt h

set_option maxRecDepth 100000 in
set_option maxHeartbeats 4000000 in
theorem delTrack_any (v : Value) (hs : List TH) (id : Int) (p base : Nat) (w : World) (h : trackE.Own 83 w base v hs) (hp : w.cell? ⟨p, 0, none⟩ = some (.int .i64 id)) (hpb : p < base) (hn : hs.length ≤ 1000) :
    Calls Try.prog 67 #[v, .func (.func 69) #[] #[.pointer (some ⟨p, 0, none⟩)]] w fun e w' => ∃ u, e = .returned u ∧ trackE.Own 83 w' base u (others id hs) ∧ w.grownBy w' v.ownBlock ∧ u.ownBlock = v.ownBlock := by
  have HO := Lib.hid h
  have HP := Lib.hid hp
  have hlt := h.lt
  have HLT := Lib.hid hlt
  clear hp hlt
  obtain ⟨A, c, rfl⟩ := h.slice
  have hu := Try.underlying83
  clear h
  go_enter Try.func67, Try.ntmps67
  go_wp2_with fail
  refine (idx_swithout1 _ hs id p _ HO.out.is HP.out).mono ?_
  rintro e w1 ⟨rfl, hb⟩
  have HB := Lib.hid hb
  clear hb
  by_cases hi : idxFrom id 0 (hs.map TH.id) = -1
  · have HE := Lib.hid (idx_neg id hs 0 hi)
    rw [hi]
    clear hi
    go_wp2_with fail
    go_ret
    exact ⟨_, rfl, by rw [HE.out]; exact HO.out.bl HB.out, grown_bl HB.out, rfl⟩
  · obtain ⟨i0, hi0, e0, e1, e2⟩ := idx_pos id hs 0 hi
    rw [Nat.zero_add] at e0
    rw [e0]
    have HE1 := Lib.hid e1
    have HE2 := Lib.hid e2
    have hpart := HO.out.parts
    have hshape : ∃ g, A = some ⟨g, 0, none⟩ := by
      rcases hpart with ⟨_, h0⟩ | ⟨g, c', e', _⟩
      · omega
      · simp at e'; exact ⟨g, e'.1⟩
    obtain ⟨g, rfl⟩ := hshape
    clear hi e0 e1 e2 hpart
    have hgp : base ≤ g := (HLT.out g rfl).1
    have hni : ¬ (i0 : Int) = -1 := by omega
    have hnb : ((i0 : Int) == -1) = false := by rw [beq_eq_false_iff_ne]; omega
    go_wp2_with fail
    have hst := Lib.hid (show hs.take i0 = others id (hs.take (i0 + 1)) by
      rw [List.take_succ_eq_append_getElem hi0, others_snoc, HE2.out, if_pos HE1.out, List.append_nil])
    go_loopg [5, 6] (hs.length - (i0 + 1)) (fun gk s5 s6 wr => ∃ (i j : Nat) (L : List TH), i < j ∧ j ≤ hs.length ∧ gk = hs.length - j ∧ s5 = .int .i64 i ∧ s6 = .int .i64 j ∧ Hid (L.length = hs.length) ∧
      Hid (trackE.Own 83 wr base (.slice (some ⟨g, 0, none⟩) hs.length c) L) ∧ Hid (L.take i = others id (hs.take j)) ∧ Hid (L.drop j = hs.drop j) ∧ Hid (w.grownBy wr (some g)))
    case atStart => exact ⟨i0, i0 + 1, hs, by omega, by omega, rfl, rfl, by go_num, Lib.hid rfl, Lib.hid (HO.out.bl HB.out), hst, Lib.hid rfl, Lib.hid (grown_bl HB.out)⟩
    case round =>
      clear hst HE1 HE2 hni hnb hi0
      obtain ⟨i, j, L, hij, hj, rfl, rfl, rfl, HLL, HW, HT, HD, HG⟩ := hrel
      by_cases hlt : j < hs.length
      · have hll := HLL.out
        obtain ⟨hx, hdr⟩ := get_of_drop HD.out (by omega) hlt
        obtain ⟨c0, c1, f0, f1⟩ := HW.out.at2 rfl j (by omega) (.int .i64 L[j].id) (.pointer (some ⟨L[j].b, 0, none⟩)) rfl
        have hos := others_snoc id (hs.take j) hs[j]
        rw [← List.take_succ_eq_append_getElem hlt] at hos
        rw [← hx] at hos
        have HOS := Lib.hid hos
        have HDR := Lib.hid hdr
        generalize L[j] = x at *
        obtain ⟨xi, xb⟩ := x
        dsimp only at c0 c1
        have hpg : p ≠ g := by omega
        have hpc := Lib.hid (World.grownBy.cell HG.out HP.out (fun h => hpg (by simpa using h)))
        have hji : (j : Int) < hs.length := by omega
        have hii : (i : Int) < hs.length := by omega
        clear hll hx hdr hos
        go_wp2_with fail
        refine (swithout1_pred _ xi id xb p ((Bl.alloc (Bl.refl wr) _).cell hpc.out)).mono ?_
        rintro e w2 ⟨rfl, hb⟩
        have b0 := ((Blk.new wr #[.int .i64 xi, .pointer (some ⟨xb, 0, none⟩)] 83).bl hb).cell 0
        have b1 := ((Blk.new wr #[.int .i64 xi, .pointer (some ⟨xb, 0, none⟩)] 83).bl hb).cell 1
        simp at b0 b1
        have hz : wr.heap.size < w2.heap.size := by have := hb.size; simp at this; omega
        have HW2 := Lib.hid (HW.out.bl (((Bl.refl _).alloc _).bl hb))
        have HG2 := Lib.hid (grown_trans HG.out (grown_bl (((Bl.refl _).alloc _).bl hb)))
        have hgs : g < wr.heap.size := (Enc.Own.lt HW.out g rfl).2
        clear hb c0 c1 f0 f1
        by_cases he : xi = id
        · have he1 : (xi == id) = true := by simpa using he
          have HE := Lib.hid he
          clear he
          go_wp2_with fail
          go_roundg (hs.length - (j + 1))
          case measure => omega
          case rel => exact ⟨i, j + 1, L, by omega, by omega, rfl, rfl, by go_num, HLL, HW2, Lib.hid (by rw [HOS.out, if_pos HE.out, List.append_nil]; exact HT.out), HDR, HG2⟩
        · have he1 : (xi == id) = false := by simpa using he
          have HE := Lib.hid he
          have hll := HLL.out
          obtain ⟨c0, c1, f0, f1⟩ := HW2.out.at2 rfl i (by omega) (.int .i64 L[i].id) (.pointer (some ⟨L[i].b, 0, none⟩)) rfl
          have hgs2 : g < w2.heap.size := by omega
          generalize L[i] = y at *
          obtain ⟨yi, yb⟩ := y
          dsimp only at c0 c1
          clear he hll
          go_wp2_with fail
          go_roundg (hs.length - (j + 1))
          case measure => omega
          case rel =>
            refine ⟨i + 1, j + 1, L.set i ⟨xi, xb⟩, by omega, by omega, rfl, by go_num, by go_num, Lib.hid (by rw [List.length_set]; exact HLL.out), Lib.hid (HW2.out.store2 rfl i ⟨xi, xb⟩ _ _ rfl), Lib.hid ?_, Lib.hid ?_, Lib.hid (grown_trans (grown_trans HG2.out (setCell_grown _ _ _ _)) (setCell_grown _ _ _ _))⟩
            · rw [set_take_snoc _ _ _ (by have := HLL.out; omega), HT.out, HOS.out, if_neg HE.out]
            · rw [set_drop _ _ _ _ (by omega)]; exact HDR.out
      · have hje : j = hs.length := by omega
        have hil : i < hs.length := by omega
        have HF := Lib.hid (show L.take i = others id hs by rw [HT.out, hje, List.take_length])
        have hil2 : i ≤ L.length := by have := HLL.out; omega
        obtain ⟨z0, _, hc1, hc2, cur, hcu1, hcu2, hcu3⟩ := HW.out.blk
        clear z0
        have hsz2 : i * 2 + (hs.length - i) * 2 ≤ cur.size := by rw [hcu2]; show _ ≤ c * 2; omega
        obtain ⟨cur', hcl, hcs, hct⟩ := run_clearK (P := Try.prog) wr 74 83 (.agg #[.int .i64 0, .pointer none]) Try.underlying74 (fun w => by kernel_rfl) (by intro v hv; simp [Value.cells] at hv; rcases hv with rfl | rfl <;> rfl) g (i * 2) (hs.length - i) (c - i) cur 83 hcu1 hsz2 (by decide)
        have HCS := Lib.hid hcs
        have HCT := Lib.hid hct
        have HCU := Lib.hid (And.intro hcu1 (And.intro hcu2 hcu3))
        have hic : (i : Int) < c := by omega
        have hic2 : ¬ c = i := by omega
        have hii : (i : Int) ≤ hs.length := by omega
        clear hcs hct hcu1 hcu2 hcu3 hje HT HD hsz2
        go_wp2_with fail
        go_ret
        refine ⟨_, rfl, ?_, grown_trans HG.out (setRow_grown _ _ _), rfl⟩
        have hh := HCU.out
        refine Enc.Own.ofBlk (by rw [← HF.out, List.length_take]; have := HLL.out; omega) hgp (by omega) hc2 (setRow_at wr g cur' cur _ hh.1) (by rw [HCS.out]; exact hh.2.1) ?_
        show cur'.toList.take (i * 2) = _
        rw [HCT.out, ← HF.out]
        have h3 : cur.toList.take (hs.length * 2) = L.flatMap trackE.c := hh.2.2
        rw [← flat_take trackE L i hil2, ← h3, List.take_take, show trackE.sz = 2 from rfl, Nat.min_eq_left (by omega)]

set_option maxRecDepth 100000 in
set_option maxHeartbeats 1000000 in
theorem swithout_own (G : Nat → Bool) (v : Value) (s : StM) (id : Int) (w : World) (h : StateIs (only w G) v s) (hn : s.length ≤ 1000) :
    Calls Try.prog 41 #[v, .int .i64 id] w fun e w' => ∃ (b : Nat) (u : Head) (hs : List TH), e = .returned (.pointer (some ⟨b, 0, none⟩)) ∧ Blk w' b #[u.v] 76 ∧ w.heap.size ≤ b ∧ trackE.Own 83 w' w.heap.size u.v (others id hs) ∧
      u.v.ownBlock ≠ some b ∧ TRows (only w G) hs s ∧ Bl w w' := by
  obtain ⟨b, u, hs, rfl, c0, h1, h2⟩ := h
  replace c0 := (only_cell c0).2
  replace h1 := (Sub.un w G).is h1
  simp only [Head.v] at c0
  have hbl : b < w.heap.size := World.block_lt_of_cell? _ _ c0
  have HI := Lib.hid h1
  have HR := Lib.hid h2
  have hl : hs.length ≤ 1000 := by rw [h2.1]; exact hn
  have hu := Try.underlying76
  clear h1 h2
  go_enter Try.func41, Try.ntmps41
  go_wp2_with fail
  refine (cloneTrack_any _ hs _ (HI.out.bl ((Bl.refl _).alloc _)) (by omega)).mono ?_
  rintro e w1 ⟨z, rfl, ho, hb⟩
  have HZ := Lib.hid ho
  have HK := Lib.hid ((Blk.new w #[.int .i64 id] 3).bl hb)
  have HB := Lib.hid (((Bl.refl w).alloc _).bl hb)
  obtain ⟨A1, c1, rfl⟩ := ho.slice
  clear ho hb
  go_wp2_with fail
  refine (delTrack_any _ hs id w.heap.size _ _ HZ.out (HK.out.cell 0) (by simp) hl).mono ?_
  rintro e w2 ⟨y, rfl, ho, hg, hob⟩
  have HO := Lib.hid ho
  have HG := Lib.hid (HB.out.grown hg (fun k hk => by have := (Enc.Own.lt HZ.out k hk).1; simp at this; omega))
  have hsz := hg.size
  obtain ⟨A2, c2, rfl⟩ := ho.slice
  clear ho hg
  go_wp2_with fail
  go_ret
  refine ⟨w2.heap.size, ⟨A2, (others id hs).length, c2⟩, hs, rfl, Blk.new _ _ _, HG.out.size, (HO.out.low (by simp)).bl ((Bl.refl _).alloc _), ?_, HR.out, HG.out.alloc _⟩
  exact fun he => by have := (Enc.Own.lt HO.out _ he).2; omega

theorem swithout_G (G : Nat → Bool) (v : Value) (s : StM) (id : Int) (w : World) (h : StateIs (only w G) v s) (hn : s.length ≤ 1000) :
    Calls Try.prog 41 #[v, .int .i64 id] w fun e w' => ∃ u, e = .returned u ∧ StateIs (only w' (gor G w)) u (withoutS s id) ∧ Bl w w' :=
  (swithout_own G v s id w h hn).mono fun e w' => by
    rintro ⟨b, u, hs, rfl, hk, hb0, ho, _, hr, hb⟩
    exact ⟨_, rfl, ⟨b, u, others id hs, rfl, cell_only (fr_gor G w _ (fr_ge (Nat.le_refl _) hb0)) (hk.cell 0), ho.isM (fun k hk => fr_gor G w _ (fr_ge (Nat.le_refl _) hk)), (Sub.mono (gor_l G w)).trows ((hr.bl (hb.only G)).filter (fun i => i != id))⟩, hb⟩
theorem swithout_any (v : Value) (s : StM) (id : Int) (w : World) (h : StateIs w v s) (hn : s.length ≤ 1000) :
    Calls Try.prog 41 #[v, .int .i64 id] w fun e w' => ∃ u, e = .returned u ∧ StateIs w' u (withoutS s id) ∧ Bl w w' :=
  (swithout_G (fun _ => true) v s id w (Sub.state (fun _ _ h => cell_only rfl h) h) hn).mono fun _ w' ⟨u, e, h, hb⟩ => ⟨u, e, (Sub.un w' _).state h, hb⟩
end Go.Proofs.Ytddcjekkimajpaa.ExtW

/- What an insertion leaves in a block, in plain words; the runs of copy and overlaps that it takes. No program in sight. -/
namespace Go.Ov
open Go.RowKit

theorem addr_add (g o j : Nat) : (⟨g, o, none⟩ : Addr).add j = ⟨g, o + j, none⟩ := by unfold Addr.add; split <;> simp_all
theorem addr_add0 (g j : Nat) : (⟨g, 0, none⟩ : Addr).add j = ⟨g, j, none⟩ := by rw [addr_add, Nat.zero_add]
/-- cells laid over a list from a place on -/
def lay {α : Type} (L : List α) (o : Nat) (cs : List α) : List α := L.take o ++ cs ++ L.drop (o + cs.length)
theorem lay_len {α : Type} (L : List α) (o : Nat) (cs : List α) (h : o + cs.length ≤ L.length) : (lay L o cs).length = L.length := by simp [lay]; omega
theorem lay_take {α : Type} (L : List α) (o : Nat) (cs : List α) (h : o ≤ L.length) : (lay L o cs).take o = L.take o := by
  unfold lay
  rw [List.append_assoc, List.take_append_of_le_length (by rw [List.length_take]; omega), List.take_take, Nat.min_self]
theorem lay_upto {α : Type} (L : List α) (o : Nat) (cs : List α) (h : o ≤ L.length) : (lay L o cs).take (o + cs.length) = L.take o ++ cs := by
  unfold lay
  rw [List.take_append_of_le_length (by simp; omega), List.take_of_length_le (by simp; omega)]
theorem lay_drop {α : Type} (L : List α) (o : Nat) (cs : List α) (h : o ≤ L.length) : (lay L o cs).drop (o + cs.length) = L.drop (o + cs.length) := by
  unfold lay
  rw [List.drop_append_of_le_length (by simp; omega), List.drop_of_length_le (by simp; omega), List.nil_append]
/-- first X at a, then D behind it -/
theorem lay_two {α : Type} (L X D : List α) (a : Nat) (h : a + X.length + D.length ≤ L.length) :
    (lay (lay L a X) (a + X.length) D).take (a + X.length + D.length) = L.take a ++ X ++ D := by
  rw [lay_upto _ _ _ (by rw [lay_len _ _ _ (by omega)]; omega), lay_upto _ _ _ (by omega)]
/-- first D behind a gap, then X into the gap -/
theorem lay_gap {α : Type} (L X D : List α) (a : Nat) (h : a + X.length + D.length ≤ L.length) :
    (lay (lay L (a + X.length) D) a X).take (a + X.length + D.length) = L.take a ++ X ++ D := by
  have h1 : (lay L (a + X.length) D).length = L.length := lay_len _ _ _ h
  have h2 : (lay L (a + X.length) D).take a = L.take a := by
    have := congrArg (List.take a) (lay_take L (a + X.length) D (by omega))
    rwa [List.take_take, List.take_take, Nat.min_eq_left (by omega)] at this
  rw [List.take_add, lay_upto _ _ _ (by omega), lay_drop _ _ _ (by omega), h2]
  congr 1
  have h3 := lay_upto L (a + X.length) D (by omega)
  have h4 := congrArg (List.drop (a + X.length)) h3
  rw [List.drop_take] at h4
  rw [show a + X.length + D.length - (a + X.length) = D.length by omega] at h4
  rw [h4, List.drop_append_of_le_length (by rw [List.length_take]; omega), List.drop_of_length_le (by rw [List.length_take]; omega), List.nil_append]

section
variable {P : Program}
theorem run_copyK (w : World) (dT sT ty elem : TypeId) (k g o dLen dCap : Nat) (a : Addr) (sLen sCap : Nat) (cur : List Value) (t : TypeId) (cs : List Value)
    (hu : P.underlying dT = some (.slice elem)) (hs : (P.info? elem).map (·.size) = some k)
    (hg : w.heap[g]? = some (.cells cur.toArray t (0, 0))) (hn : cs.length = Nat.min sLen dLen * k)
    (hsrc : ∀ j v, cs[j]? = some v → w.cell? (a.add j) = some v) (hfit : o + cs.length ≤ cur.length) (h1 : ∀ v ∈ cs, v.oneCell' = true) :
    (Builtin.copy_ #[dT, sT] ty #[.slice (some ⟨g, o, none⟩) dLen dCap, .slice (some a) sLen sCap]).run P w =
      .ok (goInt (Nat.min sLen dLen)) (w.setRow g (lay cur o cs).toArray) := by
  have := run_copy_rowK (P := P) w dT sT ty elem k g o dLen dCap a sLen sCap cur.toArray t cs hu hs hg hn hsrc (by simpa using hfit) h1
  simpa [lay] using this

theorem wpList_append_run {w w' : World} {ops : Array Oper} {rest : List Oper} {o : Oper} {a : Act} {Q : Exit → Act → World → Prop} (hgd : o.guard = none) (s x : Operand) (t tn : TypeId)
    (ho : o.op = .call { callee := .builtin .append, args := #[s, x], argTypes := #[t, tn] }) (vs vx r : Value) (hs : a.eval s = vs) (hx : a.eval x = vx)
    (hr : (Builtin.append_ #[t, tn] o.type #[vs, vx]).run P w = .ok r w') (h : wpList P ops Q rest (a.put o.dst r) w') : wpList P ops Q (o :: rest) a w := by
  refine wpList_plain hgd fun K hK => ?_
  unfold Oper.wp execOp
  simp only [ho, resolve, invoke, builtin, Sem.run_bind, Sem.run_pure, Result.andThen_ok, List.map_toArray, List.map_cons, List.map_nil, hs, hx, hr]
  exact hK _ _ h
end
end Go.Ov

/- Contract of slices.Insert at tracks: one element put in. -/
namespace Go.Proofs.Ytddcjekkimajpaa.ExtW
open Go.RowKit Go.Ov Go.Proofs.Ytddcjekkimajpaa.Need

theorem szTrack : (Try.prog.info? 83).map (·.size) = some 2 := by kernel_rfl
def insL (hs : List TH) (i : Nat) (x : TH) : List TH := hs.take i ++ x :: hs.drop i

set_option maxRecDepth 100000 in
set_option maxHeartbeats 4000000 in
theorem ins_end (v : Value) (hs : List TH) (x : TH) (vb base : Nat) (w : World) (h : trackE.Own 83 w base v hs) (hv : Blk w vb #[.int .i64 x.id, .pointer (some ⟨x.b, 0, none⟩)] 83) (hn : hs.length ≤ 1000) (hb : base ≤ w.heap.size) :
    Calls Try.prog 59 #[v, .int .i64 hs.length, .slice (some ⟨vb, 0, none⟩) 1 1] w fun e w' => ∃ u, e = .returned u ∧ trackE.Own 83 w' base u (insL hs hs.length x) ∧ w.grownBy w' v.ownBlock := by
  have HO := Lib.hid h
  have HX := Lib.hid (show trackE.Is w (.slice (some ⟨vb, 0, none⟩) 1 1) [x] from ⟨_, 1, rfl, by simp, by decide, (fun h => by cases h), fun i y hy => by
    have hi : i = 0 := by have := (List.getElem?_eq_some_iff.1 hy).1; simp at this; exact this
    subst hi
    simp at hy; subst hy
    refine ⟨_, rfl, fun j u hu => ?_⟩
    have : (⟨vb, 0, none⟩ : Addr).add (0 * trackE.sz + j) = ⟨vb, j, none⟩ := by unfold Addr.add; split <;> simp_all
    rw [this, hv.cell]
    match j, hu with
    | 0, hu => exact hu
    | 1, hu => exact hu⟩)
  have hu := Try.underlying83
  obtain ⟨A, c, rfl⟩ := h.slice
  have hc := Lib.hid HO.out.is
  have hl0 : ¬ ((1 : Int) = 0) := by omega
  clear h hv
  obtain ⟨A', c', e', hc1, _⟩ := hc.out
  simp at e'
  obtain ⟨rfl, rfl⟩ := e'
  go_enter Try.func59, Try.ntmps59
  go_wp2_with (at_builtin; refine Enc.Own.append (E := trackE) rfl (.tmp 23) (.tmp 24) 74 rfl base 83 (.agg #[.int .i64 0, .pointer none]) 2 16 Try.underlying74 infoTrack rfl rfl (by decide) (by decide) (.slice A hs.length c) hs rfl HO.out (.slice (some ⟨vb, 0, none⟩) 1 1) [x] rfl HX.out ?hlen hb ?_; (case hlen => simp; omega); intro v1 w1 ho hg)
  all_goals
    go_ret
    first
      | exact ⟨_, rfl, by unfold insL; rw [List.take_length, List.drop_length]; exact ho, hg⟩
      | exact ⟨_, rfl, by unfold insL; rw [List.take_length, List.drop_length]; exact ho, by cases A <;> exact hg⟩

theorem own_at_drop {w : World} {base g n c : Nat} {hs : List TH} (h : trackE.Own 83 w base (.slice (some ⟨g, 0, none⟩) n c) hs) (i : Nat) (_ : i ≤ hs.length) (j : Nat) (q : Value) (hq : ((hs.drop i).flatMap trackE.c)[j]? = some q) :
    w.cell? ⟨g, i * 2 + j, none⟩ = some q := by
  obtain ⟨rfl, _, _, _, cur, h5, h6, h7⟩ := h.blk
  rw [← flat_drop trackE hs i (by omega), List.getElem?_drop, ← h7, List.getElem?_take] at hq
  split at hq
  · rw [cell_of_row w g _ cur _ (0, 0) h5, ← Array.getElem?_toList]; exact hq
  · cases hq
theorem trackE_one (hs : List TH) : ∀ v ∈ hs.flatMap trackE.c, v.oneCell' = true := flat_one trackE hs

set_option maxRecDepth 100000 in
set_option maxHeartbeats 4000000 in
theorem ins_room (g c : Nat) (hs : List TH) (x : TH) (i vb base : Nat) (w : World) (h : trackE.Own 83 w base (.slice (some ⟨g, 0, none⟩) hs.length c) hs) (hv : Blk w vb #[.int .i64 x.id, .pointer (some ⟨x.b, 0, none⟩)] 83) (hvb : vb ≠ g)
    (hn : hs.length ≤ 1000) (hi : i < hs.length) (hroom : hs.length + 1 ≤ c) :
    Calls Try.prog 59 #[.slice (some ⟨g, 0, none⟩) hs.length c, .int .i64 i, .slice (some ⟨vb, 0, none⟩) 1 1] w fun e w' => ∃ u, e = .returned u ∧ trackE.Own 83 w' base u (insL hs i x) ∧ w.grownBy w' (some g) := by
  obtain ⟨_, hbg, _, hcm, cur, h5, h6, h7⟩ := h.blk
  have hcs : cur.size = c * 2 := h6
  obtain ⟨L, hL⟩ : ∃ L, L = cur.toList := ⟨_, rfl⟩
  have hLl : L.length = c * 2 := by rw [hL]; simpa using hcs
  have hg : w.heap[g]? = some (.cells L.toArray 83 (0, 0)) := by rw [hL]; simpa using h5
  have hLt : L.take (hs.length * 2) = hs.flatMap trackE.c := by rw [hL]; exact h7
  obtain ⟨D, hD⟩ : ∃ D, D = (hs.drop i).flatMap trackE.c := ⟨_, rfl⟩
  obtain ⟨X, hX⟩ : ∃ X : List Value, X = [.int .i64 x.id, .pointer (some ⟨x.b, 0, none⟩)] := ⟨_, rfl⟩
  have hDl : D.length = (hs.length - i) * 2 := by rw [hD, flat_len, List.length_drop]; rfl
  have hXl : X.length = 2 := by rw [hX]; rfl
  have hcp1 : ∀ ty dc sc, (Builtin.copy_ #[74, 74] ty #[.slice (some ⟨g, (i + 1) * 2, none⟩) (hs.length - i) dc, .slice (some ⟨g, i * 2, none⟩) (hs.length + 1 - i) sc]).run Try.prog w.drew = .ok (goInt (hs.length - i)) (w.drew.setRow g (lay L ((i + 1) * 2) D).toArray) := fun ty dc sc => by
    have := run_copyK (P := Try.prog) w.drew 74 74 ty 83 2 g ((i + 1) * 2) (hs.length - i) dc ⟨g, i * 2, none⟩ (hs.length + 1 - i) sc L 83 D Try.underlying74 szTrack hg
      (by rw [hDl]; simp only [Nat.min_def]; split <;> omega) (fun j v hj => by
        have := own_at_drop h i (by omega) j v (by rw [← hD]; exact hj)
        have e : (⟨g, i * 2, none⟩ : Addr).add j = ⟨g, i * 2 + j, none⟩ := by unfold Addr.add; split <;> simp_all
        rw [e]; exact this) (by rw [hDl, hLl]; omega) (by rw [hD]; exact trackE_one _)
    rw [this]
    congr 2
    simp only [Nat.min_def]; split <;> omega
  have hcp2 : ∀ ty dc sc, (Builtin.copy_ #[74, 74] ty #[.slice (some ⟨g, i * 2, none⟩) (hs.length + 1 - i) dc, .slice (some ⟨vb, 0, none⟩) 1 sc]).run Try.prog (w.drew.setRow g (lay L ((i + 1) * 2) D).toArray) = .ok (goInt 1) ((w.drew.setRow g (lay L ((i + 1) * 2) D).toArray).setRow g (lay (lay L ((i + 1) * 2) D) (i * 2) X).toArray) := fun ty dc sc => by
    have := run_copyK (P := Try.prog) (w.drew.setRow g (lay L ((i + 1) * 2) D).toArray) 74 74 ty 83 2 g (i * 2) (hs.length + 1 - i) dc ⟨vb, 0, none⟩ 1 sc (lay L ((i + 1) * 2) D) 83 X Try.underlying74 szTrack (setRow_heap _ g _ _ _ _ hg)
      (by rw [hXl]; simp only [Nat.min_def]; split <;> omega) (fun j v hj => by
        have e : (⟨vb, 0, none⟩ : Addr).add j = ⟨vb, j, none⟩ := by unfold Addr.add; split <;> simp_all
        have hk : Blk (w.drew.setRow g (lay L ((i + 1) * 2) D).toArray) vb #[.int .i64 x.id, .pointer (some ⟨x.b, 0, none⟩)] 83 := hv.drew.grown (setRow_grown _ _ _) (fun h => hvb (by injection h with h; exact h.symm))
        rw [e, hk.cell]
        rw [hX] at hj
        rw [← Array.getElem?_toList]; exact hj) (by rw [hXl, lay_len _ _ _ (by rw [hDl, hLl]; omega), hLl]; omega) (by rw [hX]; intro v hv; simp at hv; rcases hv with rfl | rfl <;> rfl)
    rw [this]
    congr 2
    simp only [Nat.min_def]; split <;> omega
  have hsa : w.shape? vb = some (83, 2) := by unfold World.shape?; rw [show w.heap[vb]? = _ from hv]; rfl
  have hsb : w.shape? g = some (83, c * 2) := by unfold World.shape?; rw [hg]; simp [hLl]
  have hov : ∀ lb cb, (callFunc 76 #[.slice (some ⟨vb, 0, none⟩) 1 1, .slice (some ⟨g, (i + 1) * 2, none⟩) lb cb]).run Try.prog w = .ok (.value (.bool false)) w := fun lb cb => by
    rw [run_callFunc_extern Try.func76 (by kernel_rfl) (by kernel_rfl) (by kernel_rfl) (e := Extern.SlicesOverlaps.overlaps #[74, 74] #[4]) (by kernel_rfl),
      Lib.run_overlaps_apart w 74 4 83 Try.underlying74 2 (fun w => by kernel_rfl) ⟨vb, 0, none⟩ ⟨g, (i + 1) * 2, none⟩ 1 1 lb cb hvb 83 83 2 (c * 2) hsa hsb (by omega) (hv.frozen 0) (hv.frozen 2)]
    rfl
  have HO := Lib.hid h
  have HF := Lib.hid (And.intro hL (And.intro hD hX))
  have HG := Lib.hid (And.intro hg (And.intro hLl (And.intro hLt (And.intro hDl hXl))))
  have hii : (i : Int) < hs.length := by omega
  have hw1 : IntKind.i64.wrap ((i : Int) + 1) = (i : Int) + 1 := IntWalk.i64_in _ (by omega)
  have hb1 : (0 : Int) ≤ (i : Int) + 1 := by omega
  have htn : ((i : Int) + 1).toNat = i + 1 := by omega
  have hb2 : ¬ (c = i + 1) := by omega
  have hb3 : (i : Int) ≤ (hs.length : Int) + 1 := by omega
  have hb4 : ¬ (c = i) := by omega
  have hsl1 : ∀ w, (Instr.slice 74 (.slice (some ⟨g, 0, none⟩) (hs.length + 1) c) (some (.int .i64 ((i : Int) + 1))) none none).run Try.prog w = .ok (.slice (some ⟨g, (i + 1) * 2, none⟩) (hs.length + 1 - (i + 1)) (c - (i + 1))) w := fun w => by
    rw [run_slice_l w 74 (some ⟨g, 0, none⟩) (hs.length + 1) c (by kernel_rfl) .i64 ((i : Int) + 1) (by omega) (by omega), show (sizeOf (Try.prog.elem 74)).run Try.prog w = .ok 2 w from by kernel_rfl, Result.andThen_ok, htn]
    unfold sliced
    rw [if_neg hb2, Option.map_some]
    congr 4
    unfold Addr.add; split <;> simp_all
  have hne : ((i : Int) == (hs.length : Int)) = false := by rw [beq_eq_false_iff_ne]; omega
  have hne2 : (i == hs.length) = false := by rw [beq_eq_false_iff_ne]; omega
  have hc2 : c ≤ 9223372036854775807 := by unfold maxLen at hcm; omega
  clear h hL hD hX hg hLl hLt hDl hXl h5 h6 h7 hcs hsa hsb hcm
  go_enter Try.func59, Try.ntmps59
  go_wp2_with fail
  refine wp_region_ways (S := (fun _ => True)) [0, 1, 2, 3, 4, 5, 6, 7] (y := .take 0 (.take 1 (.take 2 (.take 3 (.take 4 (.take 5 (.take 6 (.take 7 (.ev 8 (.done) (.stop)))))))))) (by kernel_rfl) (by kernel_rfl) (by kernel_rfl) ?_ (fun hHeld => ?_)
  · trivial
  repeat (first | (refine wpWay_take rfl (by rfl) (by intro w hSw; (try dsimp only at hSw); first | (go_simp; done) | (go_simp; with_reducible rfl)) ?_; try simp only [Act.put, List.setIfInBounds_toArray, List.set_cons_zero, List.set_cons_succ]) | (refine wpWay_skip rfl (by rfl) ?_; try simp only [Act.put, List.setIfInBounds_toArray, List.set_cons_zero, List.set_cons_succ]))
  refine wpWay_ev rfl (fun K hK => ?_) wpWay_stop
  go_wp2_with fail
  refine ⟨trivial, ?_⟩
  refine wpWay_done ?_
  go_wp2_with fail
  go_ret
  refine ⟨_, rfl, ?_, grown_trans (grown_trans (grown_bl (Bl.refl w).drew) (setRow_grown _ _ _)) (setRow_grown _ _ _)⟩
  obtain ⟨g1, g2, g3, g4, g5⟩ := HG.out
  obtain ⟨f1, f2, f3⟩ := HF.out
  have hl1 : (lay L ((i + 1) * 2) D).length = c * 2 := by rw [lay_len _ _ _ (by rw [g4, g2]; omega), g2]
  have hil : (insL hs i x).length = hs.length + 1 := by unfold insL; simp; omega
  refine Enc.Own.ofBlk hil.symm hbg hroom (by unfold maxLen; omega) (setRow_heap _ g _ _ _ _ (setRow_heap _ g _ _ _ _ g1)) (by simp; rw [lay_len _ _ _ (by rw [g5, hl1]; omega), hl1]; rfl) ?_
  show List.take ((hs.length + 1) * 2) _ = _
  have := lay_gap L X D (i * 2) (by rw [g4, g5, g2]; omega)
  rw [g4, g5, show i * 2 + 2 + (hs.length - i) * 2 = (hs.length + 1) * 2 by omega, show i * 2 + 2 = (i + 1) * 2 by omega] at this
  rw [this]
  have e1 : L.take (i * 2) = (hs.take i).flatMap trackE.c := by
    rw [← flat_take trackE hs i (by omega), ← g3, List.take_take, show trackE.sz = 2 from rfl, Nat.min_eq_left (by omega)]
  rw [e1, f2, f3]
  unfold insL
  rw [List.flatMap_append, List.flatMap_cons, List.append_assoc]; rfl

set_option maxRecDepth 100000 in
set_option maxHeartbeats 4000000 in
theorem ins_grow (g : Nat) (hs : List TH) (x : TH) (i vb base : Nat) (w : World) (h : trackE.Own 83 w base (.slice (some ⟨g, 0, none⟩) hs.length hs.length) hs) (hv : Blk w vb #[.int .i64 x.id, .pointer (some ⟨x.b, 0, none⟩)] 83)
    (hn : hs.length ≤ 1000) (hi : i < hs.length) (hbw : base ≤ w.heap.size) :
    Calls Try.prog 59 #[.slice (some ⟨g, 0, none⟩) hs.length hs.length, .int .i64 i, .slice (some ⟨vb, 0, none⟩) 1 1] w fun e w' => ∃ u, e = .returned u ∧ trackE.Own 83 w' base u (insL hs i x) ∧ w.grownBy w' (some g) := by
  obtain ⟨i0, hi0, hz0, hs0, hb0⟩ := info_parts infoTrack
  obtain ⟨CAP, hCAP⟩ : ∃ CAP, CAP = grownCap w (hs.length + 1) hs.length 83 := ⟨_, rfl⟩
  have hcap1 : hs.length + 1 ≤ CAP := by rw [hCAP]; exact grownCap_ge _ _ _ _
  have hcap2 : CAP ≤ maxLen := by rw [hCAP]; exact grownCap_le_maxLen _ _ _ _ (by unfold maxLen; omega)
  have hm : (hs.length : Int) + 1 - i = ((hs.length + 1 - i : Nat) : Int) := by omega
  have hne0 : i + (hs.length + 1 - i) = hs.length + 1 := by omega
  obtain ⟨O, hO⟩ : ∃ O, O = (hs.take i).flatMap trackE.c := ⟨_, rfl⟩
  have hOl : O.length = i * 2 := by rw [hO, flat_len, List.length_take, Nat.min_eq_left (by omega)]; rfl
  have hcells : ∀ j q, (hs.flatMap trackE.c)[j]? = some q → w.cell? ((⟨g, 0, none⟩ : Addr).add j) = some q := fun j q hq => by
    have := own_at_drop h 0 (by omega) j q (by simpa using hq)
    rw [addr_add0]; rw [Nat.zero_mul, Nat.zero_add] at this; exact this
  have hOc : ∀ j q, O[j]? = some q → w.cell? ((⟨g, 0, none⟩ : Addr).add j) = some q := fun j q hq => by
    rw [hO, ← flat_take trackE hs i (by omega), List.getElem?_take] at hq
    split at hq
    · exact hcells j q hq
    · cases hq
  have hrun := run_append_zeros_grow (P := Try.prog) w 74 3 74 83 i0 (.agg #[.int .i64 0, .pointer none]) Try.underlying74 Try.underlying3 hi0 hz0 ⟨g, 0, none⟩ i hs.length O (by rw [hOl, hs0]) hOc
    (hs.length + 1 - i) (by rw [hs0]; omega) (by omega) (by omega) (by rw [hb0]; decide) (by rw [hb0]; have := nextslicecap_le (need := i + (hs.length + 1 - i)) (old := hs.length) (by omega); omega)
  rw [hne0, ← hCAP, ← hm] at hrun
  obtain ⟨cur, hcur⟩ : ∃ cur : Array Value, cur = O.toArray ++ Builtin.zeroCells (Value.agg #[.int .i64 0, .pointer none]).cells (hs.length + 1 - i) ++ Builtin.zeroCells (Value.agg #[.int .i64 0, .pointer none]).cells (CAP - (hs.length + 1)) := ⟨_, rfl⟩
  rw [← hcur] at hrun
  obtain ⟨L, hL⟩ : ∃ L, L = cur.toList := ⟨_, rfl⟩
  have hLl : L.length = CAP * 2 := by
    rw [hL, hcur]
    simp [Builtin.zeroCells, hOl, Value.cells]; omega
  have hLt : L.take (i * 2) = O := by
    rw [hL, hcur]
    simp only [Array.toList_append, List.append_assoc]
    rw [List.take_append_of_le_length (by omega), List.take_of_length_le (by omega)]
  have hcL : cur = L.toArray := by rw [hL]
  rw [hcL] at hrun
  obtain ⟨D, hD⟩ : ∃ D, D = (hs.drop i).flatMap trackE.c := ⟨_, rfl⟩
  obtain ⟨X, hX⟩ : ∃ X : List Value, X = [.int .i64 x.id, .pointer (some ⟨x.b, 0, none⟩)] := ⟨_, rfl⟩
  have hDl : D.length = (hs.length - i) * 2 := by rw [hD, flat_len, List.length_drop]; rfl
  have hXl : X.length = 2 := by rw [hX]; rfl
  obtain ⟨W2, hW2⟩ : ∃ W2, W2 = w.drew.alloc (.cells L.toArray 83) := ⟨_, rfl⟩
  rw [← hW2] at hrun
  have hg2 : W2.heap[w.heap.size]? = some (.cells L.toArray 83 (0, 0)) := by rw [hW2]; exact heap_alloc_new w.drew _
  have hbl2 : Bl w W2 := by rw [hW2]; exact (Bl.refl w).drew.alloc _
  have hvb : vb < w.heap.size := hv.lt
  have hcp1 : ∀ ty dc sc, (Builtin.copy_ #[74, 74] ty #[.slice (some ⟨w.heap.size, i * 2, none⟩) (hs.length + 1 - i) dc, .slice (some ⟨vb, 0, none⟩) 1 sc]).run Try.prog W2 = .ok (goInt 1) (W2.setRow w.heap.size (lay L (i * 2) X).toArray) := fun ty dc sc => by
    have := run_copyK (P := Try.prog) W2 74 74 ty 83 2 w.heap.size (i * 2) (hs.length + 1 - i) dc ⟨vb, 0, none⟩ 1 sc L 83 X Try.underlying74 szTrack hg2
      (by rw [hXl]; simp only [Nat.min_def]; split <;> omega) (fun j v hj => by
        rw [addr_add0, (hv.bl hbl2).cell]
        rw [hX] at hj
        rw [← Array.getElem?_toList]; exact hj) (by rw [hXl, hLl]; omega) (by rw [hX]; intro v hv; simp at hv; rcases hv with rfl | rfl <;> rfl)
    rw [this]
    congr 2
    simp only [Nat.min_def]; split <;> omega
  obtain ⟨W3, hW3⟩ : ∃ W3, W3 = W2.setRow w.heap.size (lay L (i * 2) X).toArray := ⟨_, rfl⟩
  rw [← hW3] at hcp1
  have hg3 : W3.heap[w.heap.size]? = some (.cells (lay L (i * 2) X).toArray 83 (0, 0)) := by rw [hW3]; exact setRow_heap _ _ _ _ _ _ hg2
  have hbl3 : Bl w W3 := by rw [hW3]; exact hbl2.grown (setRow_grown _ _ _) (fun k hk => by injection hk with hk; omega)
  have hcp2 : ∀ ty dc sc, (Builtin.copy_ #[74, 74] ty #[.slice (some ⟨w.heap.size, (i + 1) * 2, none⟩) (hs.length - i) dc, .slice (some ⟨g, i * 2, none⟩) (hs.length - i) sc]).run Try.prog W3.drew = .ok (goInt (hs.length - i)) (W3.drew.setRow w.heap.size (lay (lay L (i * 2) X) ((i + 1) * 2) D).toArray) := fun ty dc sc => by
    have := run_copyK (P := Try.prog) W3.drew 74 74 ty 83 2 w.heap.size ((i + 1) * 2) (hs.length - i) dc ⟨g, i * 2, none⟩ (hs.length - i) sc (lay L (i * 2) X) 83 D Try.underlying74 szTrack hg3
      (by rw [hDl]; simp only [Nat.min_def]; split <;> omega) (fun j v hj => by
        have h1 := own_at_drop h i (by omega) j v (by rw [← hD]; exact hj)
        rw [addr_add]; exact (hbl3.drew).cell h1) (by rw [hDl, lay_len _ _ _ (by rw [hXl, hLl]; omega), hLl]; omega) (by rw [hD]; exact trackE_one _)
    rw [this]
    congr 2
    simp only [Nat.min_def]; split <;> omega
  have htn : ((i : Int) + 1).toNat = i + 1 := by omega
  have hb2 : ¬ (CAP = i + 1) := by omega
  have hsl1 : ∀ w', (Instr.slice 74 (.slice (some ⟨w.heap.size, 0, none⟩) (hs.length + 1) CAP) (some (.int .i64 ((i : Int) + 1))) none none).run Try.prog w' = .ok (.slice (some ⟨w.heap.size, (i + 1) * 2, none⟩) (hs.length - i) (CAP - (i + 1))) w' := fun w' => by
    rw [run_slice_l w' 74 (some ⟨w.heap.size, 0, none⟩) (hs.length + 1) CAP (by kernel_rfl) .i64 ((i : Int) + 1) (by omega) (by omega), show (sizeOf (Try.prog.elem 74)).run Try.prog w' = .ok 2 w' from by kernel_rfl, Result.andThen_ok, htn]
    unfold sliced
    rw [if_neg hb2, Option.map_some, show hs.length + 1 - (i + 1) = hs.length - i by omega]
    congr 4
    rw [addr_add0]
  have hsl2 : ∀ w', (Instr.slice 74 (.slice (some ⟨g, 0, none⟩) hs.length hs.length) (some (.int .i64 (i : Int))) none none).run Try.prog w' = .ok (.slice (some ⟨g, i * 2, none⟩) (hs.length - i) (hs.length - i)) w' := fun w' => by
    rw [run_slice_l w' 74 (some ⟨g, 0, none⟩) hs.length hs.length (by kernel_rfl) .i64 (i : Int) (by omega) (by omega), show (sizeOf (Try.prog.elem 74)).run Try.prog w' = .ok 2 w' from by kernel_rfl, Result.andThen_ok, Int.toNat_natCast]
    unfold sliced
    rw [if_neg (by omega), Option.map_some]
    congr 4
    rw [addr_add0]
  have HO := Lib.hid h
  have HF := Lib.hid (And.intro hO (And.intro hD hX))
  have HG := Lib.hid (And.intro hg3 (And.intro hLl (And.intro hLt (And.intro hDl hXl))))
  have HB := Lib.hid hbl3
  have HR := Lib.hid hrun
  have hii : (i : Int) < hs.length := by omega
  have hw1 : IntKind.i64.wrap ((i : Int) + 1) = (i : Int) + 1 := IntWalk.i64_in _ (by omega)
  have hb1 : (0 : Int) ≤ (i : Int) + 1 := by omega
  have hb3 : (i : Int) ≤ (hs.length : Int) + 1 := by omega
  have hb4 : ¬ (CAP = i) := by omega
  have hb5 : ¬ (hs.length = i) := by omega
  have hne : ((i : Int) == (hs.length : Int)) = false := by rw [beq_eq_false_iff_ne]; omega
  have hne2 : (i == hs.length) = false := by rw [beq_eq_false_iff_ne]; omega
  have hc2 : CAP ≤ 9223372036854775807 := by unfold maxLen at hcap2; omega
  clear h hL hD hX hLl hLt hDl hXl hCAP hcur hcL hO hOl hcells hOc hg2 hg3 hW2 hW3 hbl2 hbl3 hrun hi0 hz0 hs0 hb0 hm hne0
  go_enter Try.func59, Try.ntmps59
  go_wp2_with (at_builtin; refine wpList_append_run rfl (.tmp 34) (.tmp 39) 74 3 rfl _ _ _ rfl rfl HR.out ?_)
  refine wp_region_ways (S := (fun _ => True)) [0, 1, 2, 3, 4, 5, 6, 7] (y := .take 0 (.take 1 (.take 2 (.take 3 (.take 4 (.take 5 (.take 6 (.take 7 (.ev 8 (.done) (.stop)))))))))) (by kernel_rfl) (by kernel_rfl) (by kernel_rfl) ?_ (fun hHeld => ?_)
  · trivial
  repeat (first | (refine wpWay_take rfl (by rfl) (by intro w hSw; (try dsimp only at hSw); first | (go_simp; done) | (go_simp; with_reducible rfl)) ?_; try simp only [Act.put, List.setIfInBounds_toArray, List.set_cons_zero, List.set_cons_succ]) | (refine wpWay_skip rfl (by rfl) ?_; try simp only [Act.put, List.setIfInBounds_toArray, List.set_cons_zero, List.set_cons_succ]))
  refine wpWay_ev rfl (fun K hK => ?_) wpWay_stop
  go_wp2_with fail
  refine ⟨trivial, ?_⟩
  refine wpWay_done ?_
  go_wp2_with fail
  go_ret
  refine ⟨_, rfl, ?_, grown_bl (((HB.out).drew).grown (setRow_grown _ _ _) (fun k hk => by injection hk with hk; omega))⟩
  obtain ⟨g1, g2, g3, g4, g5⟩ := HG.out
  obtain ⟨f1, f2, f3⟩ := HF.out
  have hl1 : (lay L (i * 2) X).length = CAP * 2 := by rw [lay_len _ _ _ (by rw [g5, g2]; omega), g2]
  have hil : (insL hs i x).length = hs.length + 1 := by unfold insL; simp; omega
  refine Enc.Own.ofBlk hil.symm hbw hcap1 hcap2 (setRow_heap _ w.heap.size _ _ _ _ g1) (by simp; rw [lay_len _ _ _ (by rw [g4, hl1]; omega), hl1]; rfl) ?_
  show List.take ((hs.length + 1) * 2) _ = _
  have := lay_two L X D (i * 2) (by rw [g4, g5, g2]; omega)
  rw [g4, g5, show i * 2 + 2 + (hs.length - i) * 2 = (hs.length + 1) * 2 by omega, show i * 2 + 2 = (i + 1) * 2 by omega] at this
  rw [this, g3, f1, f2, f3]
  unfold insL
  rw [List.flatMap_append, List.flatMap_cons, List.append_assoc]; rfl
end Go.Proofs.Ytddcjekkimajpaa.ExtW

/- Contracts of state.Put, Tree, Length, Ids. -/
namespace Go.Proofs.Ytddcjekkimajpaa.ExtW
open Go.RowKit Go.Ov Go.Proofs.Ytddcjekkimajpaa.Need

theorem ins_any (v : Value) (hs : List TH) (x : TH) (i vb base : Nat) (w : World) (h : trackE.Own 83 w base v hs) (hv : Blk w vb #[.int .i64 x.id, .pointer (some ⟨x.b, 0, none⟩)] 83) (hvb : v.ownBlock ≠ some vb) (hn : hs.length ≤ 1000) (hi : i ≤ hs.length) (hb : base ≤ w.heap.size) :
    Calls Try.prog 59 #[v, .int .i64 i, .slice (some ⟨vb, 0, none⟩) 1 1] w fun e w' => ∃ u, e = .returned u ∧ trackE.Own 83 w' base u (insL hs i x) ∧ w.grownBy w' v.ownBlock := by
  by_cases he : i = hs.length
  · subst he; exact ins_end v hs x vb base w h hv hn hb
  · rcases h.parts with ⟨_, h0⟩ | ⟨g, c, rfl, _⟩
    · omega
    · obtain ⟨_, _, hc, _⟩ := h.blk
      have hne : vb ≠ g := fun e => hvb (by rw [e]; rfl)
      by_cases hr : hs.length + 1 ≤ c
      · exact ins_room g c hs x i vb base w h hv hne hn (by omega) hr
      · obtain rfl : c = hs.length := by omega
        exact ins_grow g hs x i vb base w h hv hn (by omega) hb

/-- a state, or why not -/
def StRes (w' : World) (e : Ending) (s : StM × Int) : Prop :=
  (s.2 = 0 → ∃ u, e = .returned (.tuple #[u, .int .i64 0]) ∧ StateIs w' u s.1) ∧ (s.2 ≠ 0 → e = .returned (.tuple #[.pointer none, .int .i64 s.2]))
theorem StRes.sub {a b : World} {e : Ending} {s : StM × Int} (h : StRes a e s) (hs : Sub a b) : StRes b e s := ⟨fun z => by obtain ⟨u, e, t⟩ := h.1 z; exact ⟨u, e, hs.state t⟩, h.2⟩
theorem StRes.ok {w' : World} {u : Value} {s : StM} (h : StateIs w' u s) : StRes w' (.returned (.tuple #[u, .int .i64 0])) (s, 0) := ⟨fun _ => ⟨u, rfl, h⟩, fun h => absurd rfl h⟩
theorem StRes.bad {w' : World} {n : Int} (hn : n ≠ 0) (s : StM) : StRes w' (.returned (.tuple #[.pointer none, .int .i64 n])) (s, n) := ⟨fun h => absurd h hn, fun _ => rfl⟩

def putR (s : StM) (id : Int) (t : TreeM) : StM × Int :=
  if id < 0 ∨ 99 < id then ([], 1) else if findS s id < 0 ∧ 6 ≤ s.length then ([], 4) else (putL s id t, 0)

theorem below_le (id : Int) : ∀ s : StM, below id s ≤ s.length
  | [] => Nat.le_refl _
  | t :: s => by unfold below; split; have := below_le id s; simp; omega; exact Nat.zero_le _
theorem below_lt (id : Int) : ∀ (s : StM) (k : Nat) (h : k < s.length), k < below id s → s[k].1 < id
  | t :: s, 0, h, hk => by
    unfold below at hk
    split at hk
    · assumption
    · omega
  | t :: s, k + 1, h, hk => by
    unfold below at hk
    split at hk
    · exact below_lt id s k (by simpa using h) (by omega)
    · omega
theorem below_ge (id : Int) : ∀ (s : StM) (h : below id s < s.length), ¬ s[below id s].1 < id
  | t :: s, h => by
    unfold below at h
    by_cases e : t.1 < id
    · rw [if_pos e] at h
      have := below_ge id s (by simpa using h)
      have e2 : below id (t :: s) = below id s + 1 := by rw [below, if_pos e]
      simp only [e2, List.getElem_cons_succ]; exact this
    · have e2 : below id (t :: s) = 0 := by rw [below, if_neg e]
      simp only [e2, List.getElem_cons_zero]; exact e
theorem TRows.len {w : World} {hs : List TH} {s : StM} (h : TRows w hs s) : hs.length = s.length := h.1

set_option maxRecDepth 100000 in
set_option maxHeartbeats 2000000 in
theorem sput_G (G : Nat → Bool) (v : Value) (s : StM) (id : Int) (tv : Value) (t : TreeM) (w : World) (h : StateIs (only w G) v s) (ht : TreeIs (only w G) tv t) (hn : s.length ≤ 6) :
    Calls Try.prog 33 #[v, .int .i64 id, tv] w fun e w' => StRes (only w' (gor G w)) e (putR s id t) ∧ Bl w w' := by
  have HS := Lib.hid h
  have HT := Lib.hid ht
  obtain ⟨b, u, hs0, rfl, c0, h1, h2⟩ := h
  replace c0 := (only_cell c0).2
  obtain ⟨tb, _, _, rfl, _⟩ := ht
  obtain ⟨A0, cc0, e0, _⟩ := h1
  rw [e0] at c0
  have hl0 : hs0.length ≤ 6 := by rw [h2.1]; exact hn
  have HL0 := Lib.hid h2.1
  have hu := Try.underlying76
  have hu2 := Try.underlying83
  clear h2 e0
  by_cases hb1 : id < 0
  · have hr : putR s id t = ([], 1) := if_pos (.inl hb1)
    have HR := Lib.hid hr
    rw [hr]
    clear hr
    go_enter Try.func33, Try.ntmps33
    go_wp2_with fail
    go_ret2
    exact ⟨StRes.bad (by decide) _, Bl.refl _⟩
  · by_cases hb2 : 99 < id
    · have hr : putR s id t = ([], 1) := if_pos (.inr hb2)
      rw [hr]
      clear hr
      go_enter Try.func33, Try.ntmps33
      go_wp2_with fail
      go_ret2
      exact ⟨StRes.bad (by decide) _, Bl.refl _⟩
    · by_cases hlim : findS s id < 0 ∧ 6 ≤ s.length
      · obtain ⟨hf, hm⟩ := hlim
        have hr : putR s id t = ([], 4) := by unfold putR; rw [if_neg (by omega), if_pos ⟨hf, hm⟩]
        rw [hr]
        have hm2 : 6 ≤ hs0.length := by have := HL0.out; omega
        have hm3 : (6 : Int) ≤ hs0.length := by omega
        clear hr
        go_enter Try.func33, Try.ntmps33
        go_wp2_with fail
        refine (sfind_any _ s id _ ((Sub.un _ _).state HS.out)).mono ?_
        rintro e w1 ⟨rfl, hb⟩
        have c1 := hb.cell c0
        go_wp2_with fail
        go_ret2
        exact ⟨StRes.bad (by decide) _, hb⟩
      · have hr : putR s id t = (putL s id t, 0) := by unfold putR; rw [if_neg (by omega), if_neg hlim]
        rw [hr]
        clear hr
        go_enter Try.func33, Try.ntmps33
        go_wp2_with fail
        refine (sfind_any _ s id _ ((Sub.un _ _).state HS.out)).mono ?_
        rintro e w1 ⟨rfl, hb⟩
        have c1 := hb.cell c0
        have HB := Lib.hid hb
        clear hb
        rcases (show 0 ≤ findS s id ∨ (findS s id < 0 ∧ hs0.length < 6) from by have := HL0.out; omega) with hf | ⟨hf, hm⟩
        · clear hlim
          go_wp2_with fail
          refine (swithout_own G _ s id _ (HS.out.bl (HB.out.only G)) (by omega)).mono ?_
          rintro e w2 ⟨b2, u2, hs, rfl, hk2, hb2s, ho, hne, hr, hb⟩
          have HW := Lib.hid (HB.out.bl hb)
          have HR := Lib.hid (show TRows (only w2 G) (others id hs) (withoutS s id) from (hr.bl (hb.only G)).filter (fun i => i != id))
          have HSZ := Lib.hid hb.size
          have HR1 := Lib.hid (show TRows (only w1 G) (others id hs) (withoutS s id) from hr.filter (fun i => i != id))
          have HB2 := Lib.hid hb
          obtain ⟨A2, c2, e2⟩ := ho.slice
          rw [e2] at hk2 ho hne
          have HK := Lib.hid hk2
          have HO := Lib.hid ho
          have HNE := Lib.hid hne
          have d0 := hk2.cell 0
          simp at d0
          have hlen : (others id hs).length = (withoutS s id).length := HR.out.1
          have hsm : (withoutS s id).length ≤ 6 := Nat.le_trans (List.length_filter_le _ _) hn
          have hcc := HO.out.is
          obtain ⟨A3, c3, e3, _, _, _, hat⟩ := hcc
          simp at e3
          obtain ⟨rfl, rfl⟩ := e3
          have HAT := Lib.hid hat
          have HIDS := Lib.hid (show ∀ k (h : k < (others id hs).length) (h' : k < (withoutS s id).length), (others id hs)[k].id = (withoutS s id)[k].1 from fun k h h' => (HR.out.2 k _ _ (List.getElem?_eq_getElem h') (List.getElem?_eq_getElem h)).1)
          obtain ⟨S2, hS2⟩ : ∃ S2, S2 = withoutS s id := ⟨_, rfl⟩
          obtain ⟨hs2, hhs2⟩ : ∃ hs2, hs2 = others id hs := ⟨_, rfl⟩
          rw [← hS2] at HR HR1 HIDS hlen hsm
          rw [← hhs2] at HR HR1 HO HK HNE HAT HIDS hlen d0
          have HPL := Lib.hid (show putL s id t = insertS S2 id t by rw [hS2]; rfl)
          clear hk2 ho hne hr hb e2 hat hS2
          clear hhs2
          have hl3 : hs2.length ≤ 1000 := by omega
          have HLN := Lib.hid hlen
          clear hlen
          go_wp2_with fail
          go_loopg [9] hs2.length (fun g i wr => ∃ k : Nat, k ≤ hs2.length ∧ k ≤ below id S2 ∧ g = hs2.length - k ∧ i = .int .i64 k ∧ wr = w2)
          case atStart => exact ⟨0, by omega, by omega, rfl, rfl, rfl⟩
          case round =>
            obtain ⟨k, hk, hkb, rfl, rfl, rfl⟩ := hrel
            by_cases hlt : k < hs2.length
            · have hlt2 : k < S2.length := by have := HLN.out; omega
              have hid := HIDS.out k hlt hlt2
              have hbl := below_lt id S2 k hlt2
              have hge := fun e : k = below id S2 => below_ge id S2 (by rw [← e]; exact hlt2)
              obtain ⟨ad, rfl, k0, k1⟩ := track_at HAT.out k hlt
              rw [hid] at k0
              by_cases hq : S2[k].1 < id
              · have hkb2 : k < below id S2 := by
                  by_cases e : k = below id S2
                  · have := hge e
                    simp only [← e] at this
                    exact absurd hq this
                  · omega
                clear hbl hge hid k1
                generalize S2[k].1 = y at *
                have hki : (k : Int) < hs2.length := by omega
                go_wp2_with fail
                go_roundg (hs2.length - (k + 1))
                case measure => omega
                case rel => exact ⟨k + 1, by omega, by omega, rfl, by go_num, rfl⟩
              · have hke : k = below id S2 := by
                  by_cases e : k = below id S2
                  · exact e
                  · exact absurd (hbl (by omega)) hq
                have HKE := Lib.hid hke
                clear hbl hge hid k1 hke
                generalize S2[k].1 = y at *
                have hki : (k : Int) < hs2.length := by omega
                go_wp2_with fail
                have HV := Lib.hid (Blk.new wr #[.int .i64 id, .pointer (some ⟨tb, 0, none⟩)] 83)
                refine (ins_any _ hs2 ⟨id, tb⟩ k wr.heap.size w1.heap.size _ (HO.out.bl ((Bl.refl _).alloc _)) HV.out (fun he => by have := (Enc.Own.lt HO.out _ he).2; omega) hl3 hk (Nat.le_trans HSZ.out ((Bl.refl wr).alloc _).size)).mono ?_
                rintro e w3 ⟨z, rfl, ho, hg⟩
                have HZ := Lib.hid ho
                have HK3 := Lib.hid ((HK.out.bl ((Bl.refl _).alloc _)).grown hg HNE.out)
                have HB4 := Lib.hid ((HB2.out.alloc _).grown hg (fun g hg => (Enc.Own.lt HO.out g hg).1))
                have HB3 := Lib.hid ((HW.out.alloc _).grown hg (fun g hg => by have h1 := (Enc.Own.lt HO.out g hg).1; have h2 := HB.out.size; omega))
                obtain ⟨A4, c4, rfl⟩ := ho.slice
                clear ho hg
                have z0 := HK3.out.cell 0
                simp at z0
                have z1 := HK3.out.frozen 0
                have z2 := HK3.out.lt
                have hzb : (Value.slice A4 (insL hs2 k ⟨id, tb⟩).length c4).ownBlock ≠ some b2 := HZ.out.ne_blk HK3.out (by decide)
                have HZB := Lib.hid hzb
                clear hzb
                go_wp2_with fail
                go_ret2
                have hins : insL hs2 k ⟨id, tb⟩ = hs2.take k ++ ⟨id, tb⟩ :: hs2.drop k := rfl
                have hfin : TRows (only w1 G) (insL hs2 k ⟨id, tb⟩) (insertS S2 id t) := by
                  unfold insertS
                  rw [hins, ← HKE.out]
                  exact (HR1.out.take k).append (TRows.cons ⟨rfl, HT.out.bl (HB.out.only G)⟩ (HR1.out.drop k))
                have hb3 := Bl.set HB3.out b2 0 (.slice A4 (insL hs2 k ⟨id, tb⟩).length c4) (by have := HB.out.size; omega)
                refine ⟨?_, hb3⟩
                rw [HPL.out]
                refine StRes.ok ⟨b2, ⟨A4, (insL hs2 k ⟨id, tb⟩).length, c4⟩, insL hs2 k ⟨id, tb⟩, rfl, cell_only (fr_gor G w _ (fr_ge HB.out.size hb2s)) ((HK3.out.set 0 _).cell 0), ?_, (Sub.mono (gor_l G w)).trows (hfin.bl (Bl.only ?_ G))⟩
                · exact Enc.Own.isM (HZ.out.grown (setCell_grown _ _ _ _) (.inr HZB.out)) (fun k hk => fr_gor G w _ (fr_ge HB.out.size hk))
                · exact Bl.set HB4.out _ _ _ hb2s
            · have hke : k = below id S2 := by have := below_le id S2; have := HLN.out; omega
              have HKE := Lib.hid hke
              clear hke
              go_wp2_with fail
              have HV := Lib.hid (Blk.new wr #[.int .i64 id, .pointer (some ⟨tb, 0, none⟩)] 83)
              refine (ins_any _ hs2 ⟨id, tb⟩ k wr.heap.size w1.heap.size _ (HO.out.bl ((Bl.refl _).alloc _)) HV.out (fun he => by have := (Enc.Own.lt HO.out _ he).2; omega) hl3 hk (Nat.le_trans HSZ.out ((Bl.refl wr).alloc _).size)).mono ?_
              rintro e w3 ⟨z, rfl, ho, hg⟩
              have HZ := Lib.hid ho
              have HK3 := Lib.hid ((HK.out.bl ((Bl.refl _).alloc _)).grown hg HNE.out)
              have HB4 := Lib.hid ((HB2.out.alloc _).grown hg (fun g hg => (Enc.Own.lt HO.out g hg).1))
              have HB3 := Lib.hid ((HW.out.alloc _).grown hg (fun g hg => by have h1 := (Enc.Own.lt HO.out g hg).1; have h2 := HB.out.size; omega))
              obtain ⟨A4, c4, rfl⟩ := ho.slice
              clear ho hg
              have z0 := HK3.out.cell 0
              simp at z0
              have z1 := HK3.out.frozen 0
              have z2 := HK3.out.lt
              have hzb : (Value.slice A4 (insL hs2 k ⟨id, tb⟩).length c4).ownBlock ≠ some b2 := HZ.out.ne_blk HK3.out (by decide)
              have HZB := Lib.hid hzb
              clear hzb
              go_wp2_with fail
              go_ret2
              have hins : insL hs2 k ⟨id, tb⟩ = hs2.take k ++ ⟨id, tb⟩ :: hs2.drop k := rfl
              have hfin : TRows (only w1 G) (insL hs2 k ⟨id, tb⟩) (insertS S2 id t) := by
                unfold insertS
                rw [hins, ← HKE.out]
                exact (HR1.out.take k).append (TRows.cons ⟨rfl, HT.out.bl (HB.out.only G)⟩ (HR1.out.drop k))
              have hb3 := Bl.set HB3.out b2 0 (.slice A4 (insL hs2 k ⟨id, tb⟩).length c4) (by have := HB.out.size; omega)
              refine ⟨?_, hb3⟩
              rw [HPL.out]
              refine StRes.ok ⟨b2, ⟨A4, (insL hs2 k ⟨id, tb⟩).length, c4⟩, insL hs2 k ⟨id, tb⟩, rfl, cell_only (fr_gor G w _ (fr_ge HB.out.size hb2s)) ((HK3.out.set 0 _).cell 0), ?_, (Sub.mono (gor_l G w)).trows (hfin.bl (Bl.only ?_ G))⟩
              · exact Enc.Own.isM (HZ.out.grown (setCell_grown _ _ _ _) (.inr HZB.out)) (fun k hk => fr_gor G w _ (fr_ge HB.out.size hk))
              · exact Bl.set HB4.out _ _ _ hb2s
        · have hm3 : (hs0.length : Int) < 6 := by omega
          clear hlim
          go_wp2_with fail
          refine (swithout_own G _ s id _ (HS.out.bl (HB.out.only G)) (by omega)).mono ?_
          rintro e w2 ⟨b2, u2, hs, rfl, hk2, hb2s, ho, hne, hr, hb⟩
          have HW := Lib.hid (HB.out.bl hb)
          have HR := Lib.hid (show TRows (only w2 G) (others id hs) (withoutS s id) from (hr.bl (hb.only G)).filter (fun i => i != id))
          have HSZ := Lib.hid hb.size
          have HR1 := Lib.hid (show TRows (only w1 G) (others id hs) (withoutS s id) from hr.filter (fun i => i != id))
          have HB2 := Lib.hid hb
          obtain ⟨A2, c2, e2⟩ := ho.slice
          rw [e2] at hk2 ho hne
          have HK := Lib.hid hk2
          have HO := Lib.hid ho
          have HNE := Lib.hid hne
          have d0 := hk2.cell 0
          simp at d0
          have hlen : (others id hs).length = (withoutS s id).length := HR.out.1
          have hsm : (withoutS s id).length ≤ 6 := Nat.le_trans (List.length_filter_le _ _) hn
          have hcc := HO.out.is
          obtain ⟨A3, c3, e3, _, _, _, hat⟩ := hcc
          simp at e3
          obtain ⟨rfl, rfl⟩ := e3
          have HAT := Lib.hid hat
          have HIDS := Lib.hid (show ∀ k (h : k < (others id hs).length) (h' : k < (withoutS s id).length), (others id hs)[k].id = (withoutS s id)[k].1 from fun k h h' => (HR.out.2 k _ _ (List.getElem?_eq_getElem h') (List.getElem?_eq_getElem h)).1)
          obtain ⟨S2, hS2⟩ : ∃ S2, S2 = withoutS s id := ⟨_, rfl⟩
          obtain ⟨hs2, hhs2⟩ : ∃ hs2, hs2 = others id hs := ⟨_, rfl⟩
          rw [← hS2] at HR HR1 HIDS hlen hsm
          rw [← hhs2] at HR HR1 HO HK HNE HAT HIDS hlen d0
          have HPL := Lib.hid (show putL s id t = insertS S2 id t by rw [hS2]; rfl)
          clear hk2 ho hne hr hb e2 hat hS2
          clear hhs2
          have hl3 : hs2.length ≤ 1000 := by omega
          have HLN := Lib.hid hlen
          clear hlen
          go_wp2_with fail
          go_loopg [9] hs2.length (fun g i wr => ∃ k : Nat, k ≤ hs2.length ∧ k ≤ below id S2 ∧ g = hs2.length - k ∧ i = .int .i64 k ∧ wr = w2)
          case atStart => exact ⟨0, by omega, by omega, rfl, rfl, rfl⟩
          case round =>
            obtain ⟨k, hk, hkb, rfl, rfl, rfl⟩ := hrel
            by_cases hlt : k < hs2.length
            · have hlt2 : k < S2.length := by have := HLN.out; omega
              have hid := HIDS.out k hlt hlt2
              have hbl := below_lt id S2 k hlt2
              have hge := fun e : k = below id S2 => below_ge id S2 (by rw [← e]; exact hlt2)
              obtain ⟨ad, rfl, k0, k1⟩ := track_at HAT.out k hlt
              rw [hid] at k0
              by_cases hq : S2[k].1 < id
              · have hkb2 : k < below id S2 := by
                  by_cases e : k = below id S2
                  · have := hge e
                    simp only [← e] at this
                    exact absurd hq this
                  · omega
                clear hbl hge hid k1
                generalize S2[k].1 = y at *
                have hki : (k : Int) < hs2.length := by omega
                go_wp2_with fail
                go_roundg (hs2.length - (k + 1))
                case measure => omega
                case rel => exact ⟨k + 1, by omega, by omega, rfl, by go_num, rfl⟩
              · have hke : k = below id S2 := by
                  by_cases e : k = below id S2
                  · exact e
                  · exact absurd (hbl (by omega)) hq
                have HKE := Lib.hid hke
                clear hbl hge hid k1 hke
                generalize S2[k].1 = y at *
                have hki : (k : Int) < hs2.length := by omega
                go_wp2_with fail
                have HV := Lib.hid (Blk.new wr #[.int .i64 id, .pointer (some ⟨tb, 0, none⟩)] 83)
                refine (ins_any _ hs2 ⟨id, tb⟩ k wr.heap.size w1.heap.size _ (HO.out.bl ((Bl.refl _).alloc _)) HV.out (fun he => by have := (Enc.Own.lt HO.out _ he).2; omega) hl3 hk (Nat.le_trans HSZ.out ((Bl.refl wr).alloc _).size)).mono ?_
                rintro e w3 ⟨z, rfl, ho, hg⟩
                have HZ := Lib.hid ho
                have HK3 := Lib.hid ((HK.out.bl ((Bl.refl _).alloc _)).grown hg HNE.out)
                have HB4 := Lib.hid ((HB2.out.alloc _).grown hg (fun g hg => (Enc.Own.lt HO.out g hg).1))
                have HB3 := Lib.hid ((HW.out.alloc _).grown hg (fun g hg => by have h1 := (Enc.Own.lt HO.out g hg).1; have h2 := HB.out.size; omega))
                obtain ⟨A4, c4, rfl⟩ := ho.slice
                clear ho hg
                have z0 := HK3.out.cell 0
                simp at z0
                have z1 := HK3.out.frozen 0
                have z2 := HK3.out.lt
                have hzb : (Value.slice A4 (insL hs2 k ⟨id, tb⟩).length c4).ownBlock ≠ some b2 := HZ.out.ne_blk HK3.out (by decide)
                have HZB := Lib.hid hzb
                clear hzb
                go_wp2_with fail
                go_ret2
                have hins : insL hs2 k ⟨id, tb⟩ = hs2.take k ++ ⟨id, tb⟩ :: hs2.drop k := rfl
                have hfin : TRows (only w1 G) (insL hs2 k ⟨id, tb⟩) (insertS S2 id t) := by
                  unfold insertS
                  rw [hins, ← HKE.out]
                  exact (HR1.out.take k).append (TRows.cons ⟨rfl, HT.out.bl (HB.out.only G)⟩ (HR1.out.drop k))
                have hb3 := Bl.set HB3.out b2 0 (.slice A4 (insL hs2 k ⟨id, tb⟩).length c4) (by have := HB.out.size; omega)
                refine ⟨?_, hb3⟩
                rw [HPL.out]
                refine StRes.ok ⟨b2, ⟨A4, (insL hs2 k ⟨id, tb⟩).length, c4⟩, insL hs2 k ⟨id, tb⟩, rfl, cell_only (fr_gor G w _ (fr_ge HB.out.size hb2s)) ((HK3.out.set 0 _).cell 0), ?_, (Sub.mono (gor_l G w)).trows (hfin.bl (Bl.only ?_ G))⟩
                · exact Enc.Own.isM (HZ.out.grown (setCell_grown _ _ _ _) (.inr HZB.out)) (fun k hk => fr_gor G w _ (fr_ge HB.out.size hk))
                · exact Bl.set HB4.out _ _ _ hb2s
            · have hke : k = below id S2 := by have := below_le id S2; have := HLN.out; omega
              have HKE := Lib.hid hke
              clear hke
              go_wp2_with fail
              have HV := Lib.hid (Blk.new wr #[.int .i64 id, .pointer (some ⟨tb, 0, none⟩)] 83)
              refine (ins_any _ hs2 ⟨id, tb⟩ k wr.heap.size w1.heap.size _ (HO.out.bl ((Bl.refl _).alloc _)) HV.out (fun he => by have := (Enc.Own.lt HO.out _ he).2; omega) hl3 hk (Nat.le_trans HSZ.out ((Bl.refl wr).alloc _).size)).mono ?_
              rintro e w3 ⟨z, rfl, ho, hg⟩
              have HZ := Lib.hid ho
              have HK3 := Lib.hid ((HK.out.bl ((Bl.refl _).alloc _)).grown hg HNE.out)
              have HB4 := Lib.hid ((HB2.out.alloc _).grown hg (fun g hg => (Enc.Own.lt HO.out g hg).1))
              have HB3 := Lib.hid ((HW.out.alloc _).grown hg (fun g hg => by have h1 := (Enc.Own.lt HO.out g hg).1; have h2 := HB.out.size; omega))
              obtain ⟨A4, c4, rfl⟩ := ho.slice
              clear ho hg
              have z0 := HK3.out.cell 0
              simp at z0
              have z1 := HK3.out.frozen 0
              have z2 := HK3.out.lt
              have hzb : (Value.slice A4 (insL hs2 k ⟨id, tb⟩).length c4).ownBlock ≠ some b2 := HZ.out.ne_blk HK3.out (by decide)
              have HZB := Lib.hid hzb
              clear hzb
              go_wp2_with fail
              go_ret2
              have hins : insL hs2 k ⟨id, tb⟩ = hs2.take k ++ ⟨id, tb⟩ :: hs2.drop k := rfl
              have hfin : TRows (only w1 G) (insL hs2 k ⟨id, tb⟩) (insertS S2 id t) := by
                unfold insertS
                rw [hins, ← HKE.out]
                exact (HR1.out.take k).append (TRows.cons ⟨rfl, HT.out.bl (HB.out.only G)⟩ (HR1.out.drop k))
              have hb3 := Bl.set HB3.out b2 0 (.slice A4 (insL hs2 k ⟨id, tb⟩).length c4) (by have := HB.out.size; omega)
              refine ⟨?_, hb3⟩
              rw [HPL.out]
              refine StRes.ok ⟨b2, ⟨A4, (insL hs2 k ⟨id, tb⟩).length, c4⟩, insL hs2 k ⟨id, tb⟩, rfl, cell_only (fr_gor G w _ (fr_ge HB.out.size hb2s)) ((HK3.out.set 0 _).cell 0), ?_, (Sub.mono (gor_l G w)).trows (hfin.bl (Bl.only ?_ G))⟩
              · exact Enc.Own.isM (HZ.out.grown (setCell_grown _ _ _ _) (.inr HZB.out)) (fun k hk => fr_gor G w _ (fr_ge HB.out.size hk))
              · exact Bl.set HB4.out _ _ _ hb2s
theorem sput_any (v : Value) (s : StM) (id : Int) (tv : Value) (t : TreeM) (w : World) (h : StateIs w v s) (ht : TreeIs w tv t) (hn : s.length ≤ 6) :
    Calls Try.prog 33 #[v, .int .i64 id, tv] w fun e w' => StRes w' e (putR s id t) ∧ Bl w w' :=
  (sput_G (fun _ => true) v s id tv t w (Sub.state (fun _ _ h => cell_only rfl h) h) (Sub.tree (fun _ _ h => cell_only rfl h) ht) hn).mono fun _ w' ⟨h, hb⟩ => ⟨h.sub (Sub.un w' _), hb⟩
end Go.Proofs.Ytddcjekkimajpaa.ExtW

/- Contracts of state.New, Tree, Length, Ids; record.Valid. -/
namespace Go.Proofs.Ytddcjekkimajpaa.ExtW
open Go.RowKit Go.Ov Go.Proofs.Ytddcjekkimajpaa.Need

def getS : StM → Int → Option TreeM
  | [], _ => none
  | t :: s, id => if t.1 = id then some t.2 else getS s id
theorem idx_get (id : Int) : ∀ (s : StM) (k : Nat), (idxFrom id k (s.map (·.1)) = -1 ∧ getS s id = none) ∨ ∃ i, ∃ h : i < s.length, idxFrom id k (s.map (·.1)) = ((k + i : Nat) : Int) ∧ s[i].1 = id ∧ getS s id = some s[i].2
  | [], _ => .inl ⟨rfl, rfl⟩
  | t :: s, k => by
    rw [List.map_cons]
    unfold idxFrom getS
    by_cases e : t.1 = id
    · simp only [if_pos e]
      exact .inr ⟨0, by simp, by simp, e, rfl⟩
    · simp only [if_neg e]
      rcases idx_get id s (k + 1) with ⟨h1, h2⟩ | ⟨i, h, h1, h2, h3⟩
      · exact .inl ⟨h1, h2⟩
      · exact .inr ⟨i + 1, by simp; omega, by rw [h1]; congr 1; omega, by simpa using h2, by simpa using h3⟩
theorem findS_get (s : StM) (id : Int) : (findS s id = -1 ∧ getS s id = none) ∨ ∃ i, ∃ h : i < s.length, findS s id = (i : Int) ∧ s[i].1 = id ∧ getS s id = some s[i].2 := by
  have := idx_get id s 0
  simpa [findS] using this

def TreeRes (w' : World) (e : Ending) (o : Option TreeM) : Prop :=
  (o = none → e = .returned (.tuple #[.pointer none, .bool false])) ∧ ∀ t, o = some t → ∃ u, e = .returned (.tuple #[u, .bool true]) ∧ TreeIs w' u t
def LenRes (e : Ending) (o : Option TreeM) : Prop :=
  (o = none → e = .returned (.tuple #[.int .i64 0, .bool false])) ∧ ∀ t, o = some t → e = .returned (.tuple #[.int .i64 (endM t.row), .bool true])

set_option maxHeartbeats 1000000 in
theorem snew_G (w : World) : Calls Try.prog 11 #[] w fun e w' => ∃ u, e = .returned u ∧ StateIs (only w' (fr w)) u [] ∧ Bl w w' := by
  go_enter Try.func11, Try.ntmps11
  go_wp2
  go_ret
  exact ⟨_, rfl, ⟨w.heap.size, nilH, [], rfl, cell_only (fr_ge (Nat.le_refl _) (Nat.le_refl _)) ((Blk.new _ _ _).cell 0), Enc.Is.nil _, TRows.nil _⟩, (Bl.refl _).alloc _⟩
theorem snew_any (w : World) : Calls Try.prog 11 #[] w fun e w' => ∃ u, e = .returned u ∧ StateIs w' u [] ∧ Bl w w' :=
  (snew_G w).mono fun _ w' ⟨u, e, h, hb⟩ => ⟨u, e, (Sub.un w' _).state h, hb⟩

set_option maxRecDepth 100000 in
set_option maxHeartbeats 1000000 in
theorem stree_G (G : Nat → Bool) (v : Value) (s : StM) (id : Int) (w : World) (h : StateIs (only w G) v s) :
    Calls Try.prog 18 #[v, .int .i64 id] w fun e w' => TreeRes (only w' G) e (getS s id) ∧ Bl w w' := by
  have HS := Lib.hid ((Sub.un _ _).state h)
  obtain ⟨b, u, hs, rfl, c0, h1, h2⟩ := h
  replace c0 := (only_cell c0).2
  replace h1 := (Sub.un w G).is h1
  obtain ⟨A, c, e0, q1, q2, q3, hat⟩ := h1
  rw [e0] at c0
  have HAT := Lib.hid hat
  have HR := Lib.hid h2
  have hu := Try.underlying76
  have hu2 := Try.underlying83
  clear e0 hat
  rcases findS_get s id with ⟨h1, h2⟩ | ⟨i, hi, h1, h2, h3⟩
  · have HG := Lib.hid h2
    have HF := Lib.hid h1
    clear h1 h2
    go_enter Try.func18, Try.ntmps18
    go_wp2_with fail
    refine (sfind_any _ s id _ HS.out).mono ?_
    rintro e w1 ⟨rfl, hb⟩
    rw [HF.out]
    go_wp2_with fail
    go_ret2
    exact ⟨⟨fun _ => rfl, fun t ht => by rw [HG.out] at ht; cases ht⟩, hb⟩
  · have HG := Lib.hid h3
    have HF := Lib.hid h1
    clear h1 h2 h3
    obtain ⟨hi2, hr⟩ := HR.out.at i hi
    have HT := Lib.hid hr.2
    have hln := HR.out.1
    have hii : (i : Int) < hs.length := by omega
    clear hr hln
    go_enter Try.func18, Try.ntmps18
    go_wp2_with fail
    refine (sfind_any _ s id _ HS.out).mono ?_
    rintro e w1 ⟨rfl, hb⟩
    rw [HF.out]
    obtain ⟨ad, rfl, k0, k1⟩ := track_at (HAT.out.bl hb) i hi2
    have c1 := hb.cell c0
    go_wp2_with fail
    go_ret2
    refine ⟨⟨(fun h => by rw [HG.out] at h; cases h), fun t ht => ?_⟩, hb⟩
    rw [HG.out] at ht
    injection ht with ht
    subst ht
    exact ⟨_, rfl, HT.out.bl (hb.only G)⟩
theorem stree_any (v : Value) (s : StM) (id : Int) (w : World) (h : StateIs w v s) :
    Calls Try.prog 18 #[v, .int .i64 id] w fun e w' => TreeRes w' e (getS s id) ∧ Bl w w' :=
  (stree_G (fun _ => true) v s id w (Sub.state (fun _ _ h => cell_only rfl h) h)).mono fun _ w' ⟨h, hb⟩ => ⟨⟨h.1, fun t ht => by obtain ⟨u, e, h⟩ := h.2 t ht; exact ⟨u, e, (Sub.un w' _).tree h⟩⟩, hb⟩

set_option maxRecDepth 100000 in
set_option maxHeartbeats 1000000 in
theorem slength_any (v : Value) (s : StM) (id : Int) (w : World) (h : StateIs w v s) (hv : ∀ t ∈ s, validFrom 0 t.2.row = true) :
    Calls Try.prog 13 #[v, .int .i64 id] w fun e w' => LenRes e (getS s id) ∧ Bl w w' := by
  have HS := Lib.hid h
  have HV := Lib.hid hv
  obtain ⟨b, u, hs, rfl, _⟩ := h
  clear hv
  rcases findS_get s id with ⟨h1, h2⟩ | ⟨i, hi, h1, h2, h3⟩
  · have HG := Lib.hid h2
    clear h1 h2
    go_enter Try.func13, Try.ntmps13
    go_wp2_with fail
    refine (stree_any _ s id _ HS.out).mono ?_
    rintro e w1 ⟨⟨h1, _⟩, hb⟩
    obtain rfl := h1 HG.out
    clear h1
    go_wp2_with fail
    go_ret2
    exact ⟨⟨fun _ => rfl, fun t ht => by rw [HG.out] at ht; cases ht⟩, hb⟩
  · have HG := Lib.hid h3
    have HVV := Lib.hid (HV.out s[i] (List.getElem_mem hi))
    clear h1 h2 h3
    go_enter Try.func13, Try.ntmps13
    go_wp2_with fail
    refine (stree_any _ s id _ HS.out).mono ?_
    rintro e w1 ⟨⟨_, h1⟩, hb⟩
    obtain ⟨t, rfl, ht⟩ := h1 _ HG.out
    have HT := Lib.hid ht
    clear h1 ht
    go_wp2_with fail
    refine (tend_any _ _ _ HT.out HVV.out).mono ?_
    rintro e w2 ⟨rfl, hb2⟩
    go_wp2_with fail
    go_ret2
    refine ⟨⟨(fun h => by rw [HG.out] at h; cases h), fun t ht => ?_⟩, hb.bl hb2⟩
    rw [HG.out] at ht
    injection ht with ht
    subst ht
    rfl

set_option maxRecDepth 100000 in
set_option maxHeartbeats 1000000 in
theorem sids_any (v : Value) (s : StM) (w : World) (h : StateIs w v s) (hn : s.length ≤ 1000) :
    Calls Try.prog 15 #[v] w fun e w' => ∃ u, e = .returned u ∧ intE.Own 3 w' w.heap.size u (s.map (·.1)) ∧ Bl w w' := by
  obtain ⟨b, u, hs, rfl, c0, h1, h2⟩ := h
  obtain ⟨A, c, e0, q1, q2, q3, hat⟩ := h1
  rw [e0] at c0
  have HAT := Lib.hid hat
  have HI := Lib.hid (TRows.ids h2)
  have hl : hs.length ≤ 1000 := by rw [h2.1]; exact hn
  have hu := Try.underlying76
  have hu2 := Try.underlying83
  clear e0 hat h2 q1 q2 q3
  go_enter Try.func15, Try.ntmps15
  go_wp2_with fail
  go_loopg [3, 11] hs.length (fun g v i wr => ∃ k : Nat, k ≤ hs.length ∧ g = hs.length - k ∧ i = .int .i64 k ∧ Hid (intE.Own 3 wr w.heap.size v (pmap TH.id hs k)) ∧ Hid (Bl w wr))
  case atStart => exact ⟨0, by omega, rfl, rfl, Lib.hid (Enc.Own.nil _ _ _), Lib.hid (Bl.refl _)⟩
  case round =>
    obtain ⟨k, hk, rfl, rfl, HO, HB⟩ := hrel
    by_cases hlt : k < hs.length
    · obtain ⟨ad, rfl, k0, k1⟩ := track_at (HAT.out.bl HB.out) k hlt
      have hps := Lib.hid (pmap_succ TH.id hs k hlt)
      have hpl := Lib.hid (pmap_len TH.id hs k hk)
      generalize hs[k] = x at *
      generalize pmap TH.id hs k = xs at *
      obtain ⟨xi, xb⟩ := x
      dsimp only at k0 k1
      have hki : (k : Int) < hs.length := by omega
      go_wp2_with (at_builtin; refine Enc.Own.append1 (E := intE) rfl (.tmp 15) (.tmp 18) 22 rfl w.heap.size 3 (.int .i64 0) 1 8 Try.underlying22 infoIntT rfl rfl (by decide) (by decide) u3 xs rfl (HO.out.bl ((Bl.refl _).alloc _)) xi _ rfl (by simp) rfl ?hlen ?hbase ?_; (case hlen => have := hpl.out; omega); (case hbase => exact (HB.out.alloc _).size); intro v1 w1 ho hg)
      go_roundg (hs.length - (k + 1))
      case measure => omega
      case rel => exact ⟨k + 1, by omega, rfl, by go_num, Lib.hid (by rw [hps.out]; exact ho), Lib.hid (((HB.out.alloc _).alloc _).grown hg (fun k hk => (Enc.Own.lt HO.out k hk).1))⟩
    · go_wp2_with fail
      go_ret
      exact ⟨_, rfl, by have := HO.out; rw [pmap_all _ _ _ (by omega), HI.out] at this; exact this, HB.out⟩
end Go.Proofs.Ytddcjekkimajpaa.ExtW
