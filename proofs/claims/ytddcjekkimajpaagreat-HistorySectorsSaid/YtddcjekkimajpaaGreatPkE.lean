/- Several texts joined (see each one's head). -/
import Derived.Test.YtddcjekkimajpaaGreatPkD
import Derived.Test.YtddcjekkimajpaaGreatPkA
import Derived.Test.YtddcjekkimajpaaGreatPkB
import Derived.IntWalk
import Derived.Test.YtddcjekkimajpaaGreatShelf
import Derived.Lib.SlicesCompact
import Derived.Test.YtddcjekkimajpaaGreatPkC
import Derived.Outline
/- Histories as the document has them (ref20.History), as data: rows of rows of lines; how they lie. No program in sight. -/
namespace Go.Proofs.YtddcjekkimajpaaGreat.ExtW
open Go.RowKit Go.Ov Go.Proofs.YtddcjekkimajpaaGreat.Need

def LnsRows (w : World) (hs : List Head) (ss : List StM) : Prop := hs.length = ss.length ∧ ∀ (i : Nat) (s : StM) (h : Head), ss[i]? = some s → hs[i]? = some h → LnIs w h.v (rowsOf s)
theorem LnsRows.sub {a b : World} (h : Sub a b) {hs : List Head} {ss : List StM} (hr : LnsRows a hs ss) : LnsRows b hs ss := ⟨hr.1, fun i x y hx hy => LnIs.sub h (hr.2 i x y hx hy)⟩
theorem LnsRows.nil (w : World) : LnsRows w [] [] := ⟨rfl, fun i x h hx => by simp at hx⟩
theorem LnsRows.at {w : World} {hs : List Head} {ss : List StM} (hr : LnsRows w hs ss) (k : Nat) (h : k < ss.length) : ∃ h' : k < hs.length, LnIs w hs[k].v (rowsOf ss[k]) :=
  ⟨by rw [hr.1]; exact h, hr.2 k _ _ (List.getElem?_eq_getElem h) (List.getElem?_eq_getElem _)⟩
theorem LnsRows.snoc {w : World} {hs : List Head} {ss : List StM} {h : Head} {t : StM} (hr : LnsRows w hs ss) (h0 : LnIs w h.v (rowsOf t)) : LnsRows w (hs ++ [h]) (ss ++ [t]) := by
  refine ⟨by simp [hr.1], fun i x y hx hy => ?_⟩
  by_cases hi : i < ss.length
  · rw [List.getElem?_append_left hi] at hx
    rw [List.getElem?_append_left (by rw [hr.1]; exact hi)] at hy
    exact hr.2 i x y hx hy
  · rw [List.getElem?_append_right (by omega)] at hx
    rw [List.getElem?_append_right (by rw [hr.1]; omega)] at hy
    have : i - ss.length = 0 := by have := (List.getElem?_eq_some_iff.1 hx).1; simp at this; omega
    rw [this] at hx
    rw [hr.1, this] at hy
    simp at hx hy; subst hx; subst hy; exact h0
theorem LnsRows.take {w : World} {hs : List Head} {ss : List StM} (hr : LnsRows w hs ss) (k : Nat) : LnsRows w (hs.take k) (ss.take k) := by
  refine ⟨by simp [hr.1], fun i x y hx hy => ?_⟩
  rw [List.getElem?_take] at hx hy
  split at hx
  · rename_i hi
    rw [if_pos hi] at hy
    exact hr.2 i x y hx hy
  · cases hx
theorem LnsRows.drop {w : World} {hs : List Head} {ss : List StM} (hr : LnsRows w hs ss) (k : Nat) : LnsRows w (hs.drop k) (ss.drop k) :=
  ⟨by simp [hr.1], fun i x y hx hy => hr.2 (k + i) x y (by rw [List.getElem?_drop] at hx; exact hx) (by rw [List.getElem?_drop] at hy; exact hy)⟩
theorem LnsRows.append {w : World} {hs hs2 : List Head} {s s2 : List StM} (hr : LnsRows w hs s) (h2 : LnsRows w hs2 s2) : LnsRows w (hs ++ hs2) (s ++ s2) := by
  refine ⟨by simp [hr.1, h2.1], fun i x y hx hy => ?_⟩
  by_cases hi : i < s.length
  · rw [List.getElem?_append_left hi] at hx
    rw [List.getElem?_append_left (by rw [hr.1]; exact hi)] at hy
    exact hr.2 i x y hx hy
  · rw [List.getElem?_append_right (by omega)] at hx
    rw [List.getElem?_append_right (by rw [hr.1]; omega), hr.1] at hy
    exact h2.2 _ x y hx hy
def LnsIs (w : World) (v : Value) (ss : List StM) : Prop := ∃ hs, headE.Is w v hs ∧ LnsRows w hs ss
theorem LnsIs.sub {a b : World} (h : Sub a b) {v : Value} {ss : List StM} (hr : LnsIs a v ss) : LnsIs b v ss := by
  obtain ⟨hs, h1, h2⟩ := hr
  exact ⟨hs, h.is h1, LnsRows.sub h h2⟩
theorem LnsIs.bl {w w' : World} {v : Value} {ss : List StM} (h : LnsIs w v ss) (hb : Bl w w') : LnsIs w' v ss := LnsIs.sub (Sub.bl hb) h
theorem LnsIs.nil (w : World) : LnsIs w (.slice none 0 0) [] := ⟨[], Enc.Is.nil w, LnsRows.nil w⟩
theorem LnsIs.slice {w : World} {v : Value} {ss : List StM} (h : LnsIs w v ss) : ∃ A c, v = .slice A ss.length c := by
  obtain ⟨hs, ⟨A, c, e, _⟩, h2⟩ := h
  exact ⟨A, c, by rw [e, h2.1]⟩
/-- the history, as the document's -/
def RHIs (w : World) (v : Value) (m : HistM) : Prop := ∃ a b c, v = .agg #[a, b, c] ∧ LnIs w a (rowsOf m.now) ∧ LnsIs w b m.undo ∧ LnsIs w c m.redo
theorem RHIs.sub {a b : World} (h : Sub a b) {v : Value} {m : HistM} (hr : RHIs a v m) : RHIs b v m := by
  obtain ⟨x, y, z, e, h1, h2, h3⟩ := hr
  exact ⟨x, y, z, e, LnIs.sub h h1, LnsIs.sub h h2, LnsIs.sub h h3⟩
theorem RHIs.bl {w w' : World} {v : Value} {m : HistM} (h : RHIs w v m) (hb : Bl w w') : RHIs w' v m := RHIs.sub (Sub.bl hb) h
theorem RHIs.nil (w : World) : RHIs w (.agg #[.slice none 0 0, .slice none 0 0, .slice none 0 0]) ⟨[], [], []⟩ := ⟨_, _, _, rfl, LnIs.nil w, LnsIs.nil w, LnsIs.nil w⟩
end Go.Proofs.YtddcjekkimajpaaGreat.ExtW

/- Trees that are right, in plain words: what made makes is right, and has the row's extents. No walk here. -/
namespace Go.Ov
open Go.RowKit

mutual
def itemsM : NodeM → List Ext
  | .mk l _ p => l ++ itemsL p
def itemsL : List NodeM → List Ext
  | [] => []
  | x :: p => itemsM x ++ itemsL p
end
theorem itemsM_mk (l : List Ext) (f : List Int) (p : List NodeM) : itemsM (.mk l f p) = l ++ itemsL p := by simp [itemsM]
theorem itemsL_cons (x : NodeM) (p : List NodeM) : itemsL (x :: p) = itemsM x ++ itemsL p := by simp [itemsL]
theorem itemsL_flat : ∀ p : List NodeM, itemsL p = p.flatMap itemsM
  | [] => by simp [itemsL]
  | x :: p => by rw [itemsL_cons, itemsL_flat p]; rfl
def leastN (top : Bool) : Nat := if top then 1 else 4
/-- a node that is right, of a depth -/
def goodN : Nat → Bool → NodeM → Prop
  | 0, _, _ => False
  | 1, top, .mk l f p => p = [] ∧ f = [] ∧ leastN top ≤ l.length ∧ l.length ≤ 8
  | d + 2, top, .mk l f p => l = [] ∧ f = p.map NodeM.first1 ∧ max 2 (leastN top) ≤ p.length ∧ p.length ≤ 8 ∧ ∀ x ∈ p, goodN (d + 1) false x ∧ x.hasFirst = true
theorem parts_flat {α : Type} (l : List α) (g : Nat) : ∀ k, k ≤ g → (List.range k).flatMap (partM l g) = l.take (preM l.length g k)
  | 0, _ => by rw [preM_zero]; simp
  | k + 1, h => by
    rw [List.range_succ, List.flatMap_append, parts_flat l g k (by omega), preM_succ]
    simp only [List.flatMap_cons, List.flatMap_nil, List.append_nil]
    unfold partM
    rw [← List.take_add]
theorem parts_all {α : Type} (l : List α) (g : Nat) (hg : 0 < g) : (List.range g).flatMap (partM l g) = l := by
  rw [parts_flat l g g (Nat.le_refl _), preM_all _ _ hg, List.take_length]
theorem leaves_items (l : List Ext) : itemsL (leavesM l) = l := by
  rw [itemsL_flat]
  unfold leavesM
  rw [List.flatMap_map]
  cases hl : l with
  | nil => simp [grp]
  | cons a b =>
    rw [← hl]
    have : ∀ i, itemsM (leafM l i) = partM l (grp l.length) i := fun i => by unfold leafM; rw [itemsM_mk]; simp [itemsL]
    simp only [this]
    exact parts_all l _ (by rw [hl]; unfold grp; simp)
theorem up_items (r : List NodeM) (h : 1 ≤ r.length) : itemsL (upM r) = itemsL r := by
  rw [itemsL_flat, itemsL_flat]
  unfold upM
  rw [List.flatMap_map]
  have : ∀ i, itemsM (nodeM r i) = (partM r (grp r.length) i).flatMap itemsM := fun i => by unfold nodeM; rw [itemsM_mk, itemsL_flat]; rfl
  simp only [this]
  rw [← List.flatMap_assoc, parts_all r _ (by unfold grp; omega)]
theorem top_items (r : List NodeM) (h : 1 ≤ r.length) : itemsM (topM r) = itemsL r := by
  generalize hm : r.length = m at h
  induction m using Nat.strongRecOn generalizing r with
  | _ m ih =>
    by_cases h1 : 1 < r.length
    · rw [topM_up r h1, ih (grp r.length) (by have := grp_le r.length h1; omega) (upM r) (upM_len r) (by unfold grp; omega), up_items r (by omega)]
    · rw [topM_one r h1]
      cases r with
      | nil => simp at hm; omega
      | cons x p =>
        have : p = [] := List.eq_nil_of_length_eq_zero (by simp only [List.length_cons] at h1; omega)
        subst this
        simp [itemsL]
theorem made_items (l : List Ext) (h : l ≠ []) : itemsM (madeM l) = l := by
  unfold madeM
  have : 1 ≤ l.length := by cases l with | nil => exact absurd rfl h | cons _ _ => simp
  rw [top_items _ (by rw [leavesM_len]; unfold grp; omega), leaves_items]
theorem size_ge4 (n i : Nat) (h : 2 ≤ grp n) : 4 ≤ sizeM n (grp n) i := by
  unfold sizeM
  have : 4 ≤ n / grp n := by rw [Nat.le_div_iff_mul_le (by omega)]; unfold grp at *; omega
  omega
theorem size_one (n : Nat) (h : grp n = 1) : sizeM n (grp n) 0 = n := by
  rw [h]; unfold sizeM; simp [Nat.mod_one]
theorem up_good (r : List NodeM) (d : Nat) (h2 : 2 ≤ r.length) (h : ∀ x ∈ r, goodN (d + 1) false x ∧ x.hasFirst = true) :
    (2 ≤ (upM r).length → ∀ x ∈ upM r, goodN (d + 2) false x) ∧ ((upM r).length = 1 → ∀ x ∈ upM r, goodN (d + 2) true x) := by
  have hg : 1 ≤ grp r.length := by unfold grp; omega
  have hg8 : r.length ≤ grp r.length * 8 := by unfold grp; omega
  have part : ∀ i, i < grp r.length → ∀ x ∈ partM r (grp r.length) i, goodN (d + 1) false x ∧ x.hasFirst = true := fun i _ x hx => h x (List.mem_of_mem_drop (List.mem_of_mem_take hx))
  rw [upM_len]
  refine ⟨fun hl x hx => ?_, fun hl x hx => ?_⟩
  · obtain ⟨i, hi, rfl⟩ := List.mem_map.1 hx
    rw [List.mem_range] at hi
    have hs := partM_len r (grp r.length) i hi
    have h4 := size_ge4 r.length i hl
    have h8 := size_le r.length (grp r.length) i hg hg8
    unfold nodeM
    refine ⟨rfl, rfl, ?_, by omega, part i hi⟩
    rw [hs]; simp [leastN]; omega
  · obtain ⟨i, hi, rfl⟩ := List.mem_map.1 hx
    rw [List.mem_range] at hi
    have hi0 : i = 0 := by omega
    subst hi0
    have hs := partM_len r (grp r.length) 0 hi
    rw [size_one _ hl] at hs
    have : r.length ≤ 8 := by rw [hl] at hg8; omega
    unfold nodeM
    refine ⟨rfl, rfl, ?_, by omega, part 0 hi⟩
    rw [hs]; simp [leastN]; omega
theorem top_good : ∀ (k d : Nat) (r : List NodeM), 1 ≤ r.length → r.length ≤ 8 ^ k → (∀ x ∈ r, x.hasFirst = true) → (2 ≤ r.length → ∀ x ∈ r, goodN (d + 1) false x) → (r.length = 1 → ∀ x ∈ r, goodN (d + 1) true x) →
    ∃ e, e ≤ d + 1 + k ∧ goodN e true (topM r)
  | 0, d, r, h1, h2, _, _, h4 => by
    have hl : r.length = 1 := by simp at h2; omega
    rw [topM_one r (by omega)]
    cases r with
    | nil => simp at h1
    | cons x p => exact ⟨d + 1, by omega, h4 hl x (by simp)⟩
  | k + 1, d, r, h1, h2, hf, h3, h4 => by
    by_cases hl : 1 < r.length
    · obtain ⟨g1, g2⟩ := up_good r d hl (fun x hx => ⟨h3 hl x hx, hf x hx⟩)
      rw [topM_up r hl]
      obtain ⟨e, he, hg⟩ := top_good k (d + 1) (upM r) (by rw [upM_len]; unfold grp; omega) (by rw [upM_len]; unfold grp; rw [Nat.pow_succ] at h2; omega) (up_first r hf) g1 g2
      exact ⟨e, by omega, hg⟩
    · have hl : r.length = 1 := by omega
      rw [topM_one r (by omega)]
      cases r with
      | nil => simp at h1
      | cons x p => exact ⟨d + 1, by omega, h4 hl x (by simp)⟩
theorem made_good (l : List Ext) (h : l ≠ []) (hn : l.length ≤ 1000) : ∃ e, e ≤ 4 ∧ goodN e true (madeM l) := by
  have h1 : 1 ≤ l.length := by cases l with | nil => exact absurd rfl h | cons _ _ => simp
  have hg8 : l.length ≤ grp l.length * 8 := by unfold grp; omega
  have hg : 1 ≤ grp l.length := by unfold grp; omega
  obtain ⟨e, he, hgd⟩ := top_good 3 0 (leavesM l) (by rw [leavesM_len]; exact hg) (by rw [leavesM_len]; unfold grp; omega) (leaves_first l) (fun hl x hx => by
    rw [leavesM_len] at hl
    obtain ⟨i, hi, rfl⟩ := List.mem_map.1 hx
    rw [List.mem_range] at hi
    have hs := partM_len l (grp l.length) i hi
    exact ⟨rfl, rfl, by rw [hs]; exact size_ge4 _ _ hl, by rw [hs]; exact size_le _ _ _ hg hg8⟩) (fun hl x hx => by
    rw [leavesM_len] at hl
    obtain ⟨i, hi, rfl⟩ := List.mem_map.1 hx
    rw [List.mem_range] at hi
    have hi0 : i = 0 := by omega
    subst hi0
    have hs := partM_len l (grp l.length) 0 hi
    rw [size_one _ hl] at hs
    exact ⟨rfl, rfl, by rw [hs]; simp [leastN]; omega, by rw [hs]; rw [hl] at hg8; omega⟩)
  exact ⟨e, by omega, hgd⟩
end Go.Ov

/- Contracts of tree.Node's depth, items, copied, of tree.Of and Right: at a tree that is right. -/
namespace Go.Proofs.YtddcjekkimajpaaGreat.ExtW
open Go.RowKit Go.Ov Go.Proofs.YtddcjekkimajpaaGreat.Need

set_option maxRecDepth 100000 in
set_option maxHeartbeats 4000000 in
theorem tdepth_any : ∀ (d : Nat) (top : Bool) (n : NodeM) (h : NH) (left : Int) (w : World), NodeR w n h → goodN d top n → (d : Int) ≤ left → left ≤ 100 →
    Calls Tryz.prog 93 #[h.v, .bool top, .int .i64 left] w fun e w' => e = .returned (.int .i64 d) ∧ Bl w w'
  | 0, _, _, _, _, _, _, hg, _, _ => by cases ‹NodeM›; exact hg.elim
  | 1, top, .mk l f p, h, left, w, hr, hg, hd, hl => by
    obtain ⟨rfl, rfl, h1, h2⟩ := hg
    obtain ⟨a1, a2, hs, a3, a4⟩ := hr.inv
    obtain ⟨A1, c1, e1, _⟩ := a1
    obtain ⟨A2, c2, e2, _⟩ := a2
    obtain ⟨A3, c3, e3, _⟩ := a3
    have hs0 : hs = [] := List.eq_nil_of_length_eq_zero a4.1
    subst hs0
    have hu := Tryz.underlying101
    have hl1 : (1 : Int) ≤ left := by omega
    have hl2 : ¬ left < 1 := by omega
    have hl3 : (l.length : Int) ≤ 8 := by omega
    unfold NH.v
    rw [e1, e2, e3]
    clear e1 e2 e3 a4
    cases top with
    | true =>
      have h3 : (1 : Int) ≤ l.length := by simp [leastN] at h1; omega
      go_enter Tryz.func93, Tryz.ntmps93
      go_wp2_with fail
      go_ret
      exact ⟨rfl, (Bl.refl _).alloc _⟩
    | false =>
      have h3 : (4 : Int) ≤ l.length := by simp [leastN] at h1; omega
      go_enter Tryz.func93, Tryz.ntmps93
      go_wp2_with fail
      go_ret
      exact ⟨rfl, (Bl.refl _).alloc _⟩
  | d + 2, top, .mk l f p, h, left, w, hr, hg, hd, hl => by
    obtain ⟨rfl, hf, h1, h2, hp⟩ := hg
    obtain ⟨a1, a2, hs, a3, a4⟩ := hr.inv
    obtain ⟨A1, c1, e1, _⟩ := a1
    obtain ⟨A2, c2, e2, _, _, _, at2⟩ := a2
    obtain ⟨A3, c3, e3, q1, q2, q3, at3⟩ := a3
    have hfl : f.length = p.length := by rw [hf, List.length_map]
    have HA := Lib.hid at3
    have HF := Lib.hid at2
    have HR := Lib.hid a4
    have HL := Lib.hid a4.1
    have HFe := Lib.hid hf
    have HP := Lib.hid hp
    have HIH := Lib.hid (tdepth_any (d + 1))
    have hu := Tryz.underlying101
    have hhs := a4.1
    have hp2 : 2 ≤ p.length := by omega
    unfold NH.v
    rw [e1, e2, e3]
    rw [hfl, ← hhs]
    have HFL := Lib.hid hfl
    have hl1 : ¬ left < 2 := by omega
    have hl8 : (hs.length : Int) ≤ 8 := by omega
    have hl2 : (2 : Int) ≤ hs.length := by omega
    have hl4 : top = false → (4 : Int) ≤ hs.length := by intro ht; subst ht; simp [leastN] at h1; omega
    have hn0 : ((hs.length : Int) == 0) = false := by rw [beq_eq_false_iff_ne]; omega
    clear e1 e2 e3 a4 at2 at3 hp hf hr hfl q1 q2 q3 h1 h2 hhs
    go_enter Tryz.func93, Tryz.ntmps93
    go_upto_if 12 with (fail)
    go_cut [7] (fun v7 wc => ∃ m : Int, v7 = .int .i64 m ∧ m ≤ hs.length ∧ wc = w.alloc (.cells #[.slice A1 0 c1, .slice A2 hs.length c2, .slice A3 hs.length c3] 101))
    case first =>
      cases top with
      | true =>
        go_wp2_with fail
        go_meet
        exact ⟨1, rfl, by omega, rfl⟩
      | false =>
        have := hl4 rfl
        go_wp2_with fail
        go_meet
        exact ⟨4, rfl, by omega, rfl⟩
    case rest =>
    obtain ⟨m, rfl, hm, rfl⟩ := hcut
    clear hl4
    have hmx : ¬ ((hs.length : Int) < max 2 m) := by omega
    have hp0 : 0 < hs.length := by omega
    obtain ⟨ad, rfl, k0, k1, k2⟩ := node_at0 (HA.out.bl ((Bl.refl w).alloc (.cells #[.slice A1 0 c1, .slice A2 hs.length c2, .slice A3 hs.length c3] 101))) hp0
    have hpp : 0 < p.length := by have := HL.out; omega
    obtain ⟨_, hr0⟩ := HR.out.at 0 hpp
    have HR0 := Lib.hid hr0
    have HG0 := Lib.hid (HP.out p[0] (List.getElem_mem hpp)).1
    simp only [Head.v] at k0 k1 k2
    generalize hs[0] = h0 at *
    generalize p[0] = x0 at *
    clear hr0
    go_wp2_with fail
    refine (HIH.out false x0 h0 _ _ (HR0.out.bl ((Bl.refl _).alloc _)) HG0.out (by omega) (by omega)).mono ?_
    rintro e w1 ⟨rfl, hb⟩
    have HB := Lib.hid (((Bl.refl w).alloc _).bl hb)
    have HK := Lib.hid ((Blk.new w #[.slice A1 0 c1, .slice A2 hs.length c2, .slice (some ad) hs.length c3] 101).bl hb)
    have z1 := HK.out.cell 1
    have z2 := HK.out.cell 2
    simp at z1 z2
    have hdn : ¬ ((d : Int) + 1 < 0) := by omega
    clear k0 k1 k2 hb
    go_wp2_with fail
    go_loopg [79] hs.length (fun g i wr => ∃ k : Nat, k ≤ hs.length ∧ g = hs.length - k ∧ i = .int .i64 k ∧ Hid (Bl w1 wr))
    case atStart => exact ⟨0, by omega, rfl, rfl, Lib.hid (Bl.refl _)⟩
    case round =>
      obtain ⟨k, hk, rfl, rfl, HC⟩ := hrel
      by_cases hlt : k < hs.length
      · have hkp : k < p.length := by have := HL.out; omega
        have hkf : k < f.length := by have := HFL.out; omega
        obtain ⟨ad', e', k0, k1, k2⟩ := node_at (HA.out.bl (HB.out.bl HC.out)) k hlt
        cases e'
        obtain ⟨_, hr1⟩ := HR.out.at k hkp
        obtain ⟨af, rfl, f0⟩ := int_at (HF.out.bl (HB.out.bl HC.out)) k hkf
        have hfe : f[k] = p[k].first1 := by
          have := HFe.out
          simp only [this, List.getElem_map]
        rw [hfe] at f0
        have HR1 := Lib.hid (hr1.bl (HB.out.bl HC.out))
        have hg1 := HP.out p[k] (List.getElem_mem hkp)
        have HG1 := Lib.hid hg1.1
        have HF1 := Lib.hid hg1.2
        have g1 := (HK.out.bl HC.out).cell 1
        simp at g1
        simp only [Head.v] at k0 k1 k2
        generalize hs[k] = h1 at *
        generalize p[k] = x1 at *
        have hw : IntKind.i64.wrap (left - 1) = left - 1 := IntWalk.i64_in _ (by omega)
        have hki : (k : Int) < hs.length := by omega
        clear hr1 hg1 hfe z1 z2
        go_wp2_with fail
        refine wp_region_ways (S := (fun w' => (w'.cell? ⟨wr.heap.size, 0, none⟩ = some (.slice h1.a.A h1.a.n h1.a.cap) ∧ w'.cell? ⟨wr.heap.size, 1, none⟩ = some (.slice h1.b.A h1.b.n h1.b.cap) ∧ w'.cell? ⟨wr.heap.size, 2, none⟩ = some (.slice h1.c.A h1.c.n h1.c.cap)) ∧ w'.cell? ⟨w.heap.size, 1, none⟩ = some (.slice (some af) hs.length c2) ∧ w'.cell? (af.add k) = some (.int .i64 x1.first1))) [0, 1, 2, 3, 4, 5, 7, 8, 9, 10, 11, 13, 14, 15, 16, 17, 18, 19] (y := .take 0 (.take 1 (.take 2 (.take 3 (.take 4 (.take 5 (.take 7 (.ev 6 (.take 8 (.take 9 (.take 10 (.take 11 (.take 13 (.take 14 (.take 15 (.take 16 (.take 17 (.ev 12 (.take 18 (.take 19 (.done))) (.stop))))))))))) (.stop))))))))) (by kernel_rfl) (by kernel_rfl) (by kernel_rfl) ?_ (fun hHeld => ?_)
        · have hb := ((Blk.new wr #[.slice h1.a.A h1.a.n h1.a.cap, .slice h1.b.A h1.b.n h1.b.cap, .slice h1.c.A h1.c.n h1.c.cap] 101).bl (Bl.refl _).drew).cell
          have hb2 := ((Bl.refl wr).alloc (.cells #[.slice h1.a.A h1.a.n h1.a.cap, .slice h1.b.A h1.b.n h1.b.cap, .slice h1.c.A h1.c.n h1.c.cap] 101)).drew
          exact ⟨⟨hb 0, hb 1, hb 2⟩, hb2.cell g1, hb2.cell f0⟩
        have HH := Lib.hid hHeld
        clear hHeld f0 g1 k0 k1 k2
        have HB4 := Lib.hid (((Bl.refl wr).alloc (.cells #[.slice h1.a.A h1.a.n h1.a.cap, .slice h1.b.A h1.b.n h1.b.cap, .slice h1.c.A h1.c.n h1.c.cap] 101)).drew)
        repeat (first | (refine wpWay_take rfl (by rfl) (by intro w hSw; (try dsimp only at hSw); first | (go_simp; done) | (go_simp; with_reducible rfl)) ?_; try simp only [Act.put, List.setIfInBounds_toArray, List.set_cons_zero, List.set_cons_succ]) | (refine wpWay_skip rfl (by rfl) ?_; try simp only [Act.put, List.setIfInBounds_toArray, List.set_cons_zero, List.set_cons_succ]))
        refine wpWay_ev rfl (fun K hK => ?_) wpWay_stop
        go_wp2_with fail
        refine (HIH.out false x1 h1 _ _ (HR1.out.bl HB4.out) HG1.out (by omega) (by omega)).mono ?_
        rintro e w2 ⟨rfl, hb⟩
        have HB5 := Lib.hid (HB4.out.bl hb)
        have HH2 := Lib.hid (And.intro (And.intro (hb.cell HH.out.1.1) (And.intro (hb.cell HH.out.1.2.1) (hb.cell HH.out.1.2.2))) (And.intro (hb.cell HH.out.2.1) (hb.cell HH.out.2.2)))
        clear hb
        go_wp2_with fail
        refine ⟨HH2.out, ?_⟩
        repeat (first | (refine wpWay_take rfl (by rfl) (by intro w hSw; (try dsimp only at hSw); first | (go_simp; done) | (go_simp; with_reducible rfl)) ?_; try simp only [Act.put, List.setIfInBounds_toArray, List.set_cons_zero, List.set_cons_succ]) | (refine wpWay_skip rfl (by rfl) ?_; try simp only [Act.put, List.setIfInBounds_toArray, List.set_cons_zero, List.set_cons_succ]))
        refine wpWay_ev rfl (fun K hK => ?_) wpWay_stop
        go_wp2_with fail
        refine (tfirst_any x1 h1 _ (HR1.out.bl HB5.out) HF1.out).mono ?_
        rintro e w3 ⟨rfl, hb⟩
        have HB6 := Lib.hid (HB5.out.bl hb)
        have HH3 := Lib.hid (And.intro (And.intro (hb.cell HH2.out.1.1) (And.intro (hb.cell HH2.out.1.2.1) (hb.cell HH2.out.1.2.2))) (And.intro (hb.cell HH2.out.2.1) (hb.cell HH2.out.2.2)))
        clear hb
        go_wp2_with fail
        refine ⟨HH3.out, ?_⟩
        repeat (first | (refine wpWay_take rfl (by rfl) (by intro w hSw; (try dsimp only at hSw); first | (go_simp; done) | (go_simp; with_reducible rfl)) ?_; try simp only [Act.put, List.setIfInBounds_toArray, List.set_cons_zero, List.set_cons_succ]) | (refine wpWay_skip rfl (by rfl) ?_; try simp only [Act.put, List.setIfInBounds_toArray, List.set_cons_zero, List.set_cons_succ]))
        refine wpWay_done ?_
        clear hw
        go_wp2_with fail
        go_roundg (hs.length - (k + 1))
        case measure => omega
        case rel => exact ⟨k + 1, by omega, rfl, by go_num, Lib.hid (HC.out.bl HB6.out)⟩
      · go_wp2_with fail
        go_ret
        exact ⟨ret_int (by omega), HB.out.bl HC.out⟩
end Go.Proofs.YtddcjekkimajpaaGreat.ExtW

/- Contract of tree.Node's items. -/
namespace Go.Proofs.YtddcjekkimajpaaGreat.ExtW
open Go.RowKit Go.Ov Go.Proofs.YtddcjekkimajpaaGreat.Need

theorem itemsL_take (p : List NodeM) (k : Nat) (h : k < p.length) : itemsL (p.take (k + 1)) = itemsL (p.take k) ++ itemsM p[k] := by
  rw [itemsL_flat, itemsL_flat, List.take_succ_eq_append_getElem h, List.flatMap_append]; simp
theorem itemsL_le (p : List NodeM) (k : Nat) : (itemsL (p.take k)).length ≤ (itemsL p).length := by
  have : itemsL p = itemsL (p.take k) ++ itemsL (p.drop k) := by rw [itemsL_flat, itemsL_flat, itemsL_flat, ← List.flatMap_append, List.take_append_drop]
  rw [this, List.length_append]; omega

set_option maxRecDepth 100000 in
set_option maxHeartbeats 1000000 in
theorem titems_any (n : NodeM) (h : NH) (w : World) (hr : NodeR w n h) (hc : (itemsM n).length ≤ 1000000) :
    Calls Tryz.prog 94 #[h.v] w fun e w' => ∃ u, e = .returned u ∧ extE.Own 81 w' w.heap.size u (itemsM n) ∧ Bl w w' := by
  generalize hm : n.count = m
  induction m using Nat.strongRecOn generalizing n h w with
  | _ m ih =>
    have IH : ∀ (n : NodeM) (h : NH) (w : World), n.count < m → NodeR w n h → (itemsM n).length ≤ 1000000 → Calls Tryz.prog 94 #[h.v] w fun e w' => ∃ u, e = .returned u ∧ extE.Own 81 w' w.heap.size u (itemsM n) ∧ Bl w w' := fun n h w hn hr hc => ih n.count hn n h w hr hc rfl
    have HIH := Lib.hid IH
    obtain ⟨l, f, p⟩ := n
    rw [count_mk] at hm
    rw [itemsM_mk] at hc
    obtain ⟨h1, h2, hs, h3, h4⟩ := hr.inv
    have HX := Lib.hid h1
    obtain ⟨A1, c1, e1, _⟩ := h1
    obtain ⟨A2, c2, e2, _⟩ := h2
    obtain ⟨A3, c3, e3, q1, q2, q3, at3⟩ := h3
    have HA := Lib.hid at3
    have HR := Lib.hid h4
    have HM := Lib.hid hm
    have HL := Lib.hid h4.1
    have hu := Tryz.underlying101
    unfold maxLen at q2
    unfold NH.v
    rw [e1] at HX
    rw [e1, e2, e3, itemsM_mk]
    rw [List.length_append] at hc
    have hll : l.length * 40 ≤ 140737488355328 := by omega
    clear ih IH hr h4 at3 hm e1 e2 e3 q3
    go_enter Tryz.func94, Tryz.ntmps94
    go_wp2_with fail
    refine (tfresh_any _ _ _ (HX.out.bl ((Bl.refl _).alloc _)) hll).mono ?_
    rintro e w1 ⟨u, rfl, ho, hb⟩
    have HK := Lib.hid ((Blk.new w #[.slice A1 l.length c1, .slice A2 f.length c2, .slice A3 hs.length c3] 101).bl hb)
    have HB := Lib.hid (((Bl.refl w).alloc _).bl hb)
    have HO := Lib.hid (ho.low ((Bl.refl w).alloc (.cells #[.slice A1 l.length c1, .slice A2 f.length c2, .slice A3 hs.length c3] 101)).size)
    obtain ⟨A4, c4, rfl⟩ := ho.slice
    have z2 := HK.out.cell 2
    simp at z2
    clear ho hb
    go_wp2_with fail
    go_loopg [3, 12] hs.length (fun g v3 i wr => ∃ k : Nat, k ≤ hs.length ∧ g = hs.length - k ∧ i = .int .i64 k ∧ Hid (extE.Own 81 wr w.heap.size v3 (l ++ itemsL (p.take k))) ∧ Hid (Bl w wr))
    case atStart => exact ⟨0, by omega, rfl, rfl, Lib.hid (by simpa [itemsL] using HO.out), HB⟩
    case round =>
      obtain ⟨k, hk, rfl, rfl, HO1, HC⟩ := hrel
      by_cases hlt : k < hs.length
      · have hkp : k < p.length := by have := HL.out; omega
        obtain ⟨_, hn⟩ := HR.out.at k hkp
        obtain ⟨ad, rfl, k0, k1, k2⟩ := node_at (HA.out.bl HC.out) k hlt
        have HN := Lib.hid (hn.bl HC.out)
        have hlk := itemsL_take p k hkp
        have HLK := Lib.hid hlk
        have hle := itemsL_le p (k + 1)
        rw [hlk, List.length_append] at hle
        have hcm := count_mem p k hkp
        have hm := HM.out
        generalize hs[k] = h' at *
        generalize p[k] = x at *
        simp only [Head.v] at k0 k1 k2
        have hxm : x.count < m := by omega
        have hol : (l ++ itemsL (p.take k)).length + (itemsM x).length ≤ 1000000 := by rw [List.length_append]; omega
        obtain ⟨o, hoe⟩ : ∃ o, o = l ++ itemsL (p.take k) := ⟨_, rfl⟩
        rw [← hoe] at HO1 hol
        have HOe := Lib.hid hoe
        clear hoe
        obtain ⟨A5, c5, rfl⟩ := HO1.out.slice
        clear hn hlk hm hcm z2
        have hxl : (itemsM x).length ≤ 1000000 := by omega
        go_wp2_with fail
        refine (HIH.out x h' _ hxm (HN.out.bl ((Bl.refl _).alloc _)) hxl).mono ?_
        rintro e w2 ⟨u, rfl, ho, hb⟩
        have HU := Lib.hid ho.is
        have HO2 := Lib.hid (HO1.out.bl (((Bl.refl wr).alloc _).bl hb))
        have HB2 := Lib.hid (((Bl.refl wr).alloc (.cells #[.slice h'.a.A h'.a.n h'.a.cap, .slice h'.b.A h'.b.n h'.b.cap, .slice h'.c.A h'.c.n h'.c.cap] 101)).bl hb)
        obtain ⟨A6, c6, rfl⟩ := ho.slice
        clear ho hb
        go_wp2_with (at_builtin; refine Enc.Own.append (E := extE) rfl (.tmp 16) (.tmp 18) 44 rfl w.heap.size 81 (.agg #[.int .i64 0, .int .i64 0, .int .i64 0, .int .i64 0, .int .i64 0]) 5 40 Tryz.underlying44 infoExt rfl rfl (by decide) (by decide) _ _ rfl HO2.out _ _ rfl HU.out ?hlen ?hbase ?_; (case hlen => omega); (case hbase => exact (HC.out.bl HB2.out).size); intro v1 w4 ho hg)
        have HC4 := Lib.hid ((HC.out.bl HB2.out).grown hg (fun k hk => (Enc.Own.lt HO2.out k hk).1))
        have HO4 := Lib.hid (show extE.Own 81 w4 w.heap.size v1 (l ++ itemsL (p.take (k + 1))) by rw [HLK.out, ← List.append_assoc, ← HOe.out]; exact ho)
        clear ho hg
        go_wp2_with fail
        go_roundg (hs.length - (k + 1))
        case measure => omega
        case rel => exact ⟨k + 1, by omega, rfl, by go_num, HO4, HC4⟩
      · have HF := Lib.hid (show extE.Own 81 wr w.heap.size _ (l ++ itemsL p) by
          have := HO1.out
          rw [List.take_of_length_le (by have := HL.out; omega)] at this
          exact this)
        go_wp2_with fail
        go_ret
        exact ⟨_, rfl, HF.out, HC.out⟩
end Go.Proofs.YtddcjekkimajpaaGreat.ExtW

/- Contract of tree.Node's copied: it ends, and nothing that was there turns. -/
namespace Go.Proofs.YtddcjekkimajpaaGreat.ExtW
open Go.RowKit Go.Ov Go.Proofs.YtddcjekkimajpaaGreat.Need


set_option maxRecDepth 100000 in
set_option maxHeartbeats 2000000 in
theorem tcopied_any (n : NodeM) (h : NH) (w : World) (hr : NodeR w n h) (P : NodeM → Prop) (hP : ∀ l f p, P (.mk l f p) → l.length ≤ 1000000 ∧ f.length ≤ 1000000 ∧ p.length ≤ 1000000 ∧ ∀ x ∈ p, P x) (hn : P n) :
    Calls Tryz.prog 95 #[h.v] w fun e w' => ∃ h' : NH, e = .returned h'.v ∧ Bl w w' := by
  generalize hm : n.count = m
  induction m using Nat.strongRecOn generalizing n h w with
  | _ m ih =>
    have IH : ∀ (n : NodeM) (h : NH) (w : World), n.count < m → NodeR w n h → P n → Calls Tryz.prog 95 #[h.v] w fun e w' => ∃ h' : NH, e = .returned h'.v ∧ Bl w w' := fun n h w hn hr hp => ih n.count hn n h w hr hp rfl
    have HIH := Lib.hid IH
    obtain ⟨l, f, p⟩ := n
    rw [count_mk] at hm
    obtain ⟨b1, b2, b3, b4⟩ := hP l f p hn
    obtain ⟨h1, h2, hs, h3, h4⟩ := hr.inv
    have HX := Lib.hid h1
    have HY := Lib.hid h2
    obtain ⟨A1, c1, e1, _⟩ := h1
    obtain ⟨A2, c2, e2, _⟩ := h2
    obtain ⟨A3, c3, e3, q1, q2, q3, at3⟩ := h3
    have HA := Lib.hid at3
    have HR := Lib.hid h4
    have HM := Lib.hid hm
    have HL := Lib.hid h4.1
    have HPs := Lib.hid b4
    have hu := Tryz.underlying101
    have hsl : hs.length ≤ 1000000 := by have := h4.1; omega
    unfold NH.v
    rw [e1] at HX
    rw [e2] at HY
    rw [e1, e2, e3]
    have hll : l.length * 40 ≤ 140737488355328 := by omega
    clear ih IH hr h4 at3 hm e1 e2 e3 q3 q2 b4 hn
    go_enter Tryz.func95, Tryz.ntmps95
    go_wp2_with fail
    have W0 := Lib.hid (((Bl.refl w).alloc (.cells #[.slice A1 l.length c1, .slice A2 f.length c2, .slice A3 hs.length c3] 101)).alloc (.cells #[.slice none 0 0, .slice none 0 0, .slice none 0 0] 101))
    have hbx := (Blk.new w #[.slice A1 l.length c1, .slice A2 f.length c2, .slice A3 hs.length c3] 101).bl ((Bl.refl _).alloc (.cells #[.slice none 0 0, .slice none 0 0, .slice none 0 0] 101))
    have HRb := Lib.hid (Blk.new (w.alloc (.cells #[.slice A1 l.length c1, .slice A2 f.length c2, .slice A3 hs.length c3] 101)) #[.slice none 0 0, .slice none 0 0, .slice none 0 0] 101)
    have S0 := Lib.hid (hbx.cell 0)
    have S1 := Lib.hid (hbx.cell 1)
    have S2 := Lib.hid (hbx.cell 2)
    have HX1 := Lib.hid (HX.out.bl W0.out)
    have HY1 := Lib.hid (HY.out.bl W0.out)
    clear hbx HX HY
    have HX := HX1
    have HY := HY1
    clear HX1 HY1
    go_cut [3] (fun v3 wc => ∃ (B : Nat) (A4 : Option Addr) (c4 : Nat) (A5 : Option Addr) (c5 : Nat), v3 = .pointer (some ⟨B, 0, none⟩) ∧ ((w.alloc (.cells #[.slice A1 l.length c1, .slice A2 f.length c2, .slice A3 hs.length c3] 101)).alloc (.cells #[.slice none 0 0, .slice none 0 0, .slice none 0 0] 101)).heap.size ≤ B ∧
      Hid (Blk wc B #[.slice A4 l.length c4, .slice A5 f.length c5, .slice none 0 0] 101) ∧ Hid (Bl ((w.alloc (.cells #[.slice A1 l.length c1, .slice A2 f.length c2, .slice A3 hs.length c3] 101)).alloc (.cells #[.slice none 0 0, .slice none 0 0, .slice none 0 0] 101)) wc))
    case first =>
      have GB := Lib.hid ((Bl.refl ((w.alloc (.cells #[.slice A1 l.length c1, .slice A2 f.length c2, .slice A3 hs.length c3] 101)).alloc (.cells #[.slice none 0 0, .slice none 0 0, .slice none 0 0] 101))).drew)
      refine wp_region_ways (S := (fun w' => w'.cell? ⟨w.heap.size, 0, none⟩ = some (.slice A1 l.length c1) ∧ w'.cell? ⟨w.heap.size, 1, none⟩ = some (.slice A2 f.length c2))) [0, 1, 3, 4, 6] (y := .take 0 (.take 1 (.take 3 (.take 4 (.ev 2 (.ev 5 (.take 6 (.ev 7 (.ev 8 (.done) (.stop)) (.stop))) (.ev 7 (.ev 5 (.take 6 (.ev 8 (.done) (.stop))) (.stop)) (.stop))) (.ev 7 (.ev 2 (.ev 5 (.take 6 (.ev 8 (.done) (.stop))) (.stop)) (.stop)) (.stop))))))) (by kernel_rfl) (by kernel_rfl) (by kernel_rfl) ?_ (fun hHeld => ?_)
      · exact ⟨GB.out.cell S0.out, GB.out.cell S1.out⟩
      repeat (first | (refine wpWay_take rfl (by rfl) (by intro w hSw; (try dsimp only at hSw); first | (go_simp; done) | (go_simp; with_reducible rfl)) ?_; try simp only [Act.put, List.setIfInBounds_toArray, List.set_cons_zero, List.set_cons_succ]) | (refine wpWay_skip rfl (by rfl) ?_; try simp only [Act.put, List.setIfInBounds_toArray, List.set_cons_zero, List.set_cons_succ]))
      clear hHeld
      refine wpWay_ev rfl (fun K hK => ?_) ?_
      · go_wp2_with fail
        refine (tfresh_any _ _ _ (HX.out.bl GB.out) hll).mono ?_
        rintro e wa ⟨u1, rfl, ho, hb⟩
        obtain ⟨A4, c4, rfl⟩ := ho.slice
        replace GB := Lib.hid (GB.out.bl hb)
        try replace HK := Lib.hid (HK.out.bl hb)
        clear ho hb
        go_wp2_with fail
        refine ⟨⟨GB.out.cell S0.out, GB.out.cell S1.out⟩, ?_⟩
        repeat (first | (refine wpWay_take rfl (by rfl) (by intro w hSw; (try dsimp only at hSw); first | (go_simp; done) | (go_simp; with_reducible rfl)) ?_; try simp only [Act.put, List.setIfInBounds_toArray, List.set_cons_zero, List.set_cons_succ]) | (refine wpWay_skip rfl (by rfl) ?_; try simp only [Act.put, List.setIfInBounds_toArray, List.set_cons_zero, List.set_cons_succ]))
        refine wpWay_ev rfl (fun K hK => ?_) ?_
        · go_wp2_with (at_builtin; refine Enc.Own.append (E := intE) rfl (.const (.slice none 0 0)) (.tmp 10) 23 rfl w.heap.size 3 (.int .i64 0) 1 8 Tryz.underlying23 infoIntT rfl rfl (by decide) (by decide) (.slice none 0 0) [] rfl (Enc.Own.nil _ _ _) _ _ rfl (HY.out.bl GB.out) ?hlen ?hbase ?_; (case hlen => simp; omega); (case hbase => exact Nat.le_trans W0.out.size GB.out.size); intro v5 wb ho hg)
          have hb := (Bl.refl _).grown hg (fun k hk => by simp [Value.ownBlock] at hk)
          obtain ⟨A5, c5, rfl⟩ := ho.slice
          simp only [List.nil_append] at *
          replace GB := Lib.hid (GB.out.bl hb)
          try replace HK := Lib.hid (HK.out.bl hb)
          clear ho hb hg
          refine ⟨⟨GB.out.cell S0.out, GB.out.cell S1.out⟩, ?_⟩
          repeat (first | (refine wpWay_take rfl (by rfl) (by intro w hSw; (try dsimp only at hSw); first | (go_simp; done) | (go_simp; with_reducible rfl)) ?_; try simp only [Act.put, List.setIfInBounds_toArray, List.set_cons_zero, List.set_cons_succ]) | (refine wpWay_skip rfl (by rfl) ?_; try simp only [Act.put, List.setIfInBounds_toArray, List.set_cons_zero, List.set_cons_succ]))
          refine wpWay_ev rfl (fun K hK => ?_) wpWay_stop
          have hX : ∀ X, Bl ((w.alloc (.cells #[.slice A1 l.length c1, .slice A2 f.length c2, .slice A3 hs.length c3] 101)).alloc (.cells #[.slice none 0 0, .slice none 0 0, .slice none 0 0] 101)) X → Blk (X.alloc (.cells #[.slice none 0 0, .slice none 0 0, .slice none 0 0] 101)) X.heap.size #[.slice none 0 0, .slice none 0 0, .slice none 0 0] 101 := fun X _ => Blk.new X _ _
          have HK := Lib.hid (hX _ GB.out)
          have hsz := GB.out.size
          have GB0 := Lib.hid GB.out
          replace GB := Lib.hid (GB.out.alloc (.cells #[.slice none 0 0, .slice none 0 0, .slice none 0 0] 101))
          clear hX
          go_wp2_with fail
          refine ⟨⟨GB.out.cell S0.out, GB.out.cell S1.out⟩, ?_⟩
          repeat (first | (refine wpWay_take rfl (by rfl) (by intro w hSw; (try dsimp only at hSw); first | (go_simp; done) | (go_simp; with_reducible rfl)) ?_; try simp only [Act.put, List.setIfInBounds_toArray, List.set_cons_zero, List.set_cons_succ]) | (refine wpWay_skip rfl (by rfl) ?_; try simp only [Act.put, List.setIfInBounds_toArray, List.set_cons_zero, List.set_cons_succ]))
          have f0 := HK.out.frozen 0
          have f1 := HK.out.frozen 1
          have f2 := HK.out.frozen 2
          have g0 := HK.out.cell 0
          have g1 := HK.out.cell 1
          have g2 := HK.out.cell 2
          have l1 := HK.out.lt
          simp at g0 g1 g2
          refine wpWay_ev rfl (fun K hK => ?_) wpWay_stop
          go_wp2_with fail
          clear f0 f1 f2 g0 g1 g2
          have hk2 := Blk.new wb #[.slice A4 l.length c4, .slice A5 f.length c5, .slice none 0 0] 101
          have hb2 := GB0.out.alloc (.cells #[.slice A4 l.length c4, .slice A5 f.length c5, .slice none 0 0] 101)
          refine ⟨⟨hb2.cell S0.out, hb2.cell S1.out⟩, ?_⟩
          refine wpWay_done ?_
          go_wp2_with fail
          go_meet
          exact ⟨_, _, _, _, _, rfl, hsz, Lib.hid hk2, Lib.hid hb2⟩
        · refine wpWay_ev rfl (fun K hK => ?_) wpWay_stop
          have hX : ∀ X, Bl ((w.alloc (.cells #[.slice A1 l.length c1, .slice A2 f.length c2, .slice A3 hs.length c3] 101)).alloc (.cells #[.slice none 0 0, .slice none 0 0, .slice none 0 0] 101)) X → Blk (X.alloc (.cells #[.slice none 0 0, .slice none 0 0, .slice none 0 0] 101)) X.heap.size #[.slice none 0 0, .slice none 0 0, .slice none 0 0] 101 := fun X _ => Blk.new X _ _
          have HK := Lib.hid (hX _ GB.out)
          have hsz := GB.out.size
          have GB0 := Lib.hid GB.out
          replace GB := Lib.hid (GB.out.alloc (.cells #[.slice none 0 0, .slice none 0 0, .slice none 0 0] 101))
          clear hX
          go_wp2_with fail
          refine ⟨⟨GB.out.cell S0.out, GB.out.cell S1.out⟩, ?_⟩
          repeat (first | (refine wpWay_take rfl (by rfl) (by intro w hSw; (try dsimp only at hSw); first | (go_simp; done) | (go_simp; with_reducible rfl)) ?_; try simp only [Act.put, List.setIfInBounds_toArray, List.set_cons_zero, List.set_cons_succ]) | (refine wpWay_skip rfl (by rfl) ?_; try simp only [Act.put, List.setIfInBounds_toArray, List.set_cons_zero, List.set_cons_succ]))
          refine wpWay_ev rfl (fun K hK => ?_) wpWay_stop
          go_wp2_with (at_builtin; refine Enc.Own.append (E := intE) rfl (.const (.slice none 0 0)) (.tmp 10) 23 rfl w.heap.size 3 (.int .i64 0) 1 8 Tryz.underlying23 infoIntT rfl rfl (by decide) (by decide) (.slice none 0 0) [] rfl (Enc.Own.nil _ _ _) _ _ rfl (HY.out.bl GB.out) ?hlen ?hbase ?_; (case hlen => simp; omega); (case hbase => exact Nat.le_trans W0.out.size GB.out.size); intro v5 wb ho hg)
          have hb := (Bl.refl _).grown hg (fun k hk => by simp [Value.ownBlock] at hk)
          obtain ⟨A5, c5, rfl⟩ := ho.slice
          simp only [List.nil_append] at *
          replace GB := Lib.hid (GB.out.bl hb)
          try replace HK := Lib.hid (HK.out.bl hb)
          clear ho hb hg
          refine ⟨⟨GB.out.cell S0.out, GB.out.cell S1.out⟩, ?_⟩
          repeat (first | (refine wpWay_take rfl (by rfl) (by intro w hSw; (try dsimp only at hSw); first | (go_simp; done) | (go_simp; with_reducible rfl)) ?_; try simp only [Act.put, List.setIfInBounds_toArray, List.set_cons_zero, List.set_cons_succ]) | (refine wpWay_skip rfl (by rfl) ?_; try simp only [Act.put, List.setIfInBounds_toArray, List.set_cons_zero, List.set_cons_succ]))
          have f0 := HK.out.frozen 0
          have f1 := HK.out.frozen 1
          have f2 := HK.out.frozen 2
          have g0 := HK.out.cell 0
          have g1 := HK.out.cell 1
          have g2 := HK.out.cell 2
          have l1 := HK.out.lt
          simp at g0 g1 g2
          refine wpWay_ev rfl (fun K hK => ?_) wpWay_stop
          go_wp2_with fail
          clear f0 f1 f2 g0 g1 g2
          have hk2 := ((HK.out.set 0 (.slice A4 l.length c4)).set 1 (.slice A5 f.length c5)).set 2 (.slice none 0 0)
          have hb2 := Bl.set (Bl.set (Bl.set GB.out _ 0 (.slice A4 l.length c4) hsz) _ 1 (.slice A5 f.length c5) hsz) _ 2 (.slice none 0 0) hsz
          refine ⟨⟨hb2.cell S0.out, hb2.cell S1.out⟩, ?_⟩
          refine wpWay_done ?_
          go_wp2_with fail
          go_meet
          exact ⟨_, _, _, _, _, rfl, hsz, Lib.hid hk2, Lib.hid hb2⟩
      · refine wpWay_ev rfl (fun K hK => ?_) wpWay_stop
        have hX : ∀ X, Bl ((w.alloc (.cells #[.slice A1 l.length c1, .slice A2 f.length c2, .slice A3 hs.length c3] 101)).alloc (.cells #[.slice none 0 0, .slice none 0 0, .slice none 0 0] 101)) X → Blk (X.alloc (.cells #[.slice none 0 0, .slice none 0 0, .slice none 0 0] 101)) X.heap.size #[.slice none 0 0, .slice none 0 0, .slice none 0 0] 101 := fun X _ => Blk.new X _ _
        have HK := Lib.hid (hX _ GB.out)
        have hsz := GB.out.size
        have GB0 := Lib.hid GB.out
        replace GB := Lib.hid (GB.out.alloc (.cells #[.slice none 0 0, .slice none 0 0, .slice none 0 0] 101))
        clear hX
        go_wp2_with fail
        refine ⟨⟨GB.out.cell S0.out, GB.out.cell S1.out⟩, ?_⟩
        repeat (first | (refine wpWay_take rfl (by rfl) (by intro w hSw; (try dsimp only at hSw); first | (go_simp; done) | (go_simp; with_reducible rfl)) ?_; try simp only [Act.put, List.setIfInBounds_toArray, List.set_cons_zero, List.set_cons_succ]) | (refine wpWay_skip rfl (by rfl) ?_; try simp only [Act.put, List.setIfInBounds_toArray, List.set_cons_zero, List.set_cons_succ]))
        have hBe : ((((w.alloc (.cells #[.slice A1 l.length c1, .slice A2 f.length c2, .slice A3 hs.length c3] 101)).alloc (.cells #[.slice none 0 0, .slice none 0 0, .slice none 0 0] 101)).drew)).heap.size = w.heap.size + 1 + 1 := by simp
        rw [hBe] at HK hsz
        clear hBe
        refine wpWay_ev rfl (fun K hK => ?_) wpWay_stop
        go_wp2_with fail
        refine (tfresh_any _ _ _ (HX.out.bl GB.out) hll).mono ?_
        rintro e wa ⟨u1, rfl, ho, hb⟩
        obtain ⟨A4, c4, rfl⟩ := ho.slice
        replace GB := Lib.hid (GB.out.bl hb)
        try replace HK := Lib.hid (HK.out.bl hb)
        clear ho hb
        go_wp2_with fail
        refine ⟨⟨GB.out.cell S0.out, GB.out.cell S1.out⟩, ?_⟩
        repeat (first | (refine wpWay_take rfl (by rfl) (by intro w hSw; (try dsimp only at hSw); first | (go_simp; done) | (go_simp; with_reducible rfl)) ?_; try simp only [Act.put, List.setIfInBounds_toArray, List.set_cons_zero, List.set_cons_succ]) | (refine wpWay_skip rfl (by rfl) ?_; try simp only [Act.put, List.setIfInBounds_toArray, List.set_cons_zero, List.set_cons_succ]))
        refine wpWay_ev rfl (fun K hK => ?_) wpWay_stop
        go_wp2_with (at_builtin; refine Enc.Own.append (E := intE) rfl (.const (.slice none 0 0)) (.tmp 10) 23 rfl w.heap.size 3 (.int .i64 0) 1 8 Tryz.underlying23 infoIntT rfl rfl (by decide) (by decide) (.slice none 0 0) [] rfl (Enc.Own.nil _ _ _) _ _ rfl (HY.out.bl GB.out) ?hlen ?hbase ?_; (case hlen => simp; omega); (case hbase => exact Nat.le_trans W0.out.size GB.out.size); intro v5 wb ho hg)
        have hb := (Bl.refl _).grown hg (fun k hk => by simp [Value.ownBlock] at hk)
        obtain ⟨A5, c5, rfl⟩ := ho.slice
        simp only [List.nil_append] at *
        replace GB := Lib.hid (GB.out.bl hb)
        try replace HK := Lib.hid (HK.out.bl hb)
        clear ho hb hg
        refine ⟨⟨GB.out.cell S0.out, GB.out.cell S1.out⟩, ?_⟩
        repeat (first | (refine wpWay_take rfl (by rfl) (by intro w hSw; (try dsimp only at hSw); first | (go_simp; done) | (go_simp; with_reducible rfl)) ?_; try simp only [Act.put, List.setIfInBounds_toArray, List.set_cons_zero, List.set_cons_succ]) | (refine wpWay_skip rfl (by rfl) ?_; try simp only [Act.put, List.setIfInBounds_toArray, List.set_cons_zero, List.set_cons_succ]))
        have f0 := HK.out.frozen 0
        have f1 := HK.out.frozen 1
        have f2 := HK.out.frozen 2
        have g0 := HK.out.cell 0
        have g1 := HK.out.cell 1
        have g2 := HK.out.cell 2
        have l1 := HK.out.lt
        simp at g0 g1 g2
        refine wpWay_ev rfl (fun K hK => ?_) wpWay_stop
        go_wp2_with fail
        clear f0 f1 f2 g0 g1 g2
        have hk2 := ((HK.out.set 0 (.slice A4 l.length c4)).set 1 (.slice A5 f.length c5)).set 2 (.slice none 0 0)
        have hb2 := Bl.set (Bl.set (Bl.set GB.out _ 0 (.slice A4 l.length c4) hsz) _ 1 (.slice A5 f.length c5) hsz) _ 2 (.slice none 0 0) hsz
        refine ⟨⟨hb2.cell S0.out, hb2.cell S1.out⟩, ?_⟩
        refine wpWay_done ?_
        go_wp2_with fail
        go_meet
        exact ⟨_, _, _, _, _, rfl, hsz, Lib.hid hk2, Lib.hid hb2⟩
    case rest =>
    obtain ⟨B, A4, c4, A5, c5, rfl, hBs, HK, HW⟩ := hcut
    have z2 := HW.out.cell S2.out
    simp at z2
    go_wp2_with fail
    clear z2
    go_loopg [16] hs.length (fun g i wr => ∃ (k : Nat) (us : List NH) (v : Value), k ≤ hs.length ∧ g = hs.length - k ∧ i = .int .i64 k ∧ us.length = k ∧ Hid (Blk wr B #[.slice A4 l.length c4, .slice A5 f.length c5, v] 101) ∧ Hid (nodeE.Own 101 wr (B + 1) v us) ∧
      Hid (Bl ((w.alloc (.cells #[.slice A1 l.length c1, .slice A2 f.length c2, .slice A3 hs.length c3] 101)).alloc (.cells #[.slice none 0 0, .slice none 0 0, .slice none 0 0] 101)) wr))
    case atStart => exact ⟨0, [], .slice none 0 0, by omega, rfl, rfl, rfl, HK, Lib.hid (Enc.Own.nil _ _ _), HW⟩
    case round =>
      clear HK HW
      obtain ⟨k, us, v, hk, rfl, rfl, hus, HKr, HO0, HW⟩ := hrel
      have HUS := Lib.hid hus
      by_cases hlt : k < hs.length
      · have hkp : k < p.length := by have := HL.out; omega
        obtain ⟨_, hn⟩ := HR.out.at k hkp
        obtain ⟨ad, rfl, k0, k1, k2⟩ := node_at (HA.out.bl (W0.out.bl HW.out)) k hlt
        have HN := Lib.hid (hn.bl (W0.out.bl HW.out))
        have HPx := Lib.hid (HPs.out p[k] (List.getElem_mem hkp))
        have hcm := count_mem p k hkp
        have hm := HM.out
        generalize hs[k] = h1 at *
        generalize p[k] = x1 at *
        simp only [Head.v] at k0 k1 k2
        have hxm : x1.count < m := by omega
        obtain ⟨A7, c7, rfl⟩ := HO0.out.slice
        have husl : us.length ≤ 1000000 := by omega
        clear hn hm hcm hus
        go_wp2_with fail
        have GB := Lib.hid (((Bl.refl wr).alloc (.cells #[.slice h1.a.A h1.a.n h1.a.cap, .slice h1.b.A h1.b.n h1.b.cap, .slice h1.c.A h1.c.n h1.c.cap] 101)).drew)
        have HK := Lib.hid (HKr.out.bl GB.out)
        have HO := Lib.hid (HO0.out.bl GB.out)
        refine wp_region_ways (S := (fun w' => w'.cell? ⟨wr.heap.size, 0, none⟩ = some (.slice h1.a.A h1.a.n h1.a.cap) ∧ w'.cell? ⟨wr.heap.size, 1, none⟩ = some (.slice h1.b.A h1.b.n h1.b.cap) ∧ w'.cell? ⟨wr.heap.size, 2, none⟩ = some (.slice h1.c.A h1.c.n h1.c.cap))) [0, 2, 6] (y := .take 0 (.take 2 (.ev 1 (.ev 3 (.ev 4 (.ev 5 (.take 6 (.ev 7 (.done) (.stop))) (.stop)) (.stop)) (.stop)) (.ev 3 (.ev 1 (.ev 4 (.ev 5 (.take 6 (.ev 7 (.done) (.stop))) (.stop)) (.stop)) (.ev 4 (.ev 1 (.ev 5 (.take 6 (.ev 7 (.done) (.stop))) (.stop)) (.stop)) (.stop))) (.stop))))) (by kernel_rfl) (by kernel_rfl) (by kernel_rfl) ?_ (fun hHeld => ?_)
        · have hb := ((Blk.new wr #[.slice h1.a.A h1.a.n h1.a.cap, .slice h1.b.A h1.b.n h1.b.cap, .slice h1.c.A h1.c.n h1.c.cap] 101).bl (Bl.refl _).drew).cell
          exact ⟨hb 0, hb 1, hb 2⟩
        have GS := Lib.hid hHeld
        repeat (first | (refine wpWay_take rfl (by rfl) (by intro w hSw; (try dsimp only at hSw); first | (go_simp; done) | (go_simp; with_reducible rfl)) ?_; try simp only [Act.put, List.setIfInBounds_toArray, List.set_cons_zero, List.set_cons_succ]) | (refine wpWay_skip rfl (by rfl) ?_; try simp only [Act.put, List.setIfInBounds_toArray, List.set_cons_zero, List.set_cons_succ]))
        clear hHeld k0 k1 k2
        refine wpWay_ev rfl (fun K hK => ?_) ?_
        · have c2 := HK.out.cell 2
          simp at c2
          go_wp2_with fail
          clear c2
          refine ⟨GS.out, ?_⟩
          repeat (first | (refine wpWay_take rfl (by rfl) (by intro w hSw; (try dsimp only at hSw); first | (go_simp; done) | (go_simp; with_reducible rfl)) ?_; try simp only [Act.put, List.setIfInBounds_toArray, List.set_cons_zero, List.set_cons_succ]) | (refine wpWay_skip rfl (by rfl) ?_; try simp only [Act.put, List.setIfInBounds_toArray, List.set_cons_zero, List.set_cons_succ]))
          refine wpWay_ev rfl (fun K hK => ?_) wpWay_stop
          go_wp2_with fail
          refine (HIH.out x1 h1 _ hxm (HN.out.bl GB.out) HPx.out).mono ?_
          rintro e wa ⟨h2, rfl, hb⟩
          replace GB := Lib.hid (GB.out.bl hb)
          replace HK := Lib.hid (HK.out.bl hb)
          replace HO := Lib.hid (HO.out.bl hb)
          replace GS := Lib.hid (And.intro (hb.cell GS.out.1) (And.intro (hb.cell GS.out.2.1) (hb.cell GS.out.2.2)))
          clear hb
          obtain ⟨⟨hA1, hn1, hc1⟩, ⟨hA2, hn2, hc2⟩, ⟨hA3, hn3, hc3⟩⟩ := h2
          simp only [NH.v, Head.v]
          go_wp2_with fail
          refine ⟨GS.out, ?_⟩
          repeat (first | (refine wpWay_take rfl (by rfl) (by intro w hSw; (try dsimp only at hSw); first | (go_simp; done) | (go_simp; with_reducible rfl)) ?_; try simp only [Act.put, List.setIfInBounds_toArray, List.set_cons_zero, List.set_cons_succ]) | (refine wpWay_skip rfl (by rfl) ?_; try simp only [Act.put, List.setIfInBounds_toArray, List.set_cons_zero, List.set_cons_succ]))
          refine wpWay_ev rfl (fun K hK => ?_) wpWay_stop
          go_wp2_with fail
          have hb4 := Bl.alloc (Bl.refl wa) (.cells #[.slice hA1 hn1 hc1, .slice hA2 hn2 hc2, .slice hA3 hn3 hc3] 101)
          have GS2 := Lib.hid (And.intro (hb4.cell GS.out.1) (And.intro (hb4.cell GS.out.2.1) (hb4.cell GS.out.2.2)))
          have HK2 := Lib.hid (HK.out.bl hb4)
          clear hb4
          refine ⟨GS2.out, ?_⟩
          repeat (first | (refine wpWay_take rfl (by rfl) (by intro w hSw; (try dsimp only at hSw); first | (go_simp; done) | (go_simp; with_reducible rfl)) ?_; try simp only [Act.put, List.setIfInBounds_toArray, List.set_cons_zero, List.set_cons_succ]) | (refine wpWay_skip rfl (by rfl) ?_; try simp only [Act.put, List.setIfInBounds_toArray, List.set_cons_zero, List.set_cons_succ]))
          refine wpWay_ev rfl (fun K hK => ?_) wpWay_stop
          go_wp2_with (at_builtin; refine Enc.Own.append1 (E := nodeE) rfl (.tmp 21) (.tmp 24) 99 rfl (B + 1) 101 (.agg #[.slice none 0 0, .slice none 0 0, .slice none 0 0]) 3 72 Tryz.underlying99 infoNode rfl rfl (by decide) (by decide) (.slice A7 us.length c7) us rfl HO.out ⟨⟨hA1, hn1, hc1⟩, ⟨hA2, hn2, hc2⟩, ⟨hA3, hn3, hc3⟩⟩ _ rfl rfl rfl ?hlen ?hbase ?_; (case hlen => omega); (case hbase => exact HK.out.lt); intro v5 w4 ho hg)
          have hne1 : some B ≠ (Value.slice A7 us.length c7).ownBlock := fun he => by
            have := (Enc.Own.lt HO.out _ he.symm).1; omega
          have hne2 : some wr.heap.size ≠ (Value.slice A7 us.length c7).ownBlock := fun he => by
            have := (Enc.Own.lt HO0.out _ he.symm).2; omega
          have GS4 := Lib.hid (And.intro (World.grownBy.cell hg GS2.out.1 hne2) (And.intro (World.grownBy.cell hg GS2.out.2.1 hne2) (World.grownBy.cell hg GS2.out.2.2 hne2)))
          refine ⟨GS4.out, ?_⟩
          have HK4 := Lib.hid (HK2.out.grown hg (fun h => hne1 h.symm))
          have HB5 := Lib.hid (((HW.out.bl GB.out).alloc _).grown hg (fun k hk => by have := (Enc.Own.lt HO.out k hk).1; omega))
          obtain ⟨A10, c10, rfl⟩ := ho.slice
          simp only [List.length_append, List.length_singleton] at ho
          have HO5 := Lib.hid ho
          clear hne1 hne2 hg ho
          repeat (first | (refine wpWay_take rfl (by rfl) (by intro w hSw; (try dsimp only at hSw); first | (go_simp; done) | (go_simp; with_reducible rfl)) ?_; try simp only [Act.put, List.setIfInBounds_toArray, List.set_cons_zero, List.set_cons_succ]) | (refine wpWay_skip rfl (by rfl) ?_; try simp only [Act.put, List.setIfInBounds_toArray, List.set_cons_zero, List.set_cons_succ]))
          have e0 := HK4.out.cell 2
          simp at e0
          have e1 := HK4.out.frozen 2
          have e2 := HK4.out.lt
          refine wpWay_ev rfl (fun K hK => ?_) wpWay_stop
          go_wp2_with fail
          have hnw : B ≠ wr.heap.size := by have := HKr.out.lt; omega
          refine ⟨⟨?_, ?_, ?_⟩, ?_⟩
          · rw [World.cell?_setCell_other _ _ _ _ (fun h => hnw (congrArg Addr.block h))]; exact GS4.out.1
          · rw [World.cell?_setCell_other _ _ _ _ (fun h => hnw (congrArg Addr.block h))]; exact GS4.out.2.1
          · rw [World.cell?_setCell_other _ _ _ _ (fun h => hnw (congrArg Addr.block h))]; exact GS4.out.2.2
          refine wpWay_done ?_
          clear e0 e1 e2
          go_wp2_with fail
          go_roundg (hs.length - (k + 1))
          case measure => omega
          case rel =>
            refine ⟨k + 1, us ++ [⟨⟨hA1, hn1, hc1⟩, ⟨hA2, hn2, hc2⟩, ⟨hA3, hn3, hc3⟩⟩], .slice A10 (us.length + 1) c10, by omega, rfl, by go_num, by have := HUS.out; simp; omega, Lib.hid (HK4.out.set 2 _), Lib.hid ?_, Lib.hid (Bl.set HB5.out _ _ _ hBs)⟩
            exact Enc.Own.set HO5.out B 2 (.slice A10 (us.length + 1) c10) (Nat.lt_succ_self _)
        · refine wpWay_ev rfl (fun K hK => ?_) wpWay_stop
          go_wp2_with fail
          refine (HIH.out x1 h1 _ hxm (HN.out.bl GB.out) HPx.out).mono ?_
          rintro e wa ⟨h2, rfl, hb⟩
          replace GB := Lib.hid (GB.out.bl hb)
          replace HK := Lib.hid (HK.out.bl hb)
          replace HO := Lib.hid (HO.out.bl hb)
          replace GS := Lib.hid (And.intro (hb.cell GS.out.1) (And.intro (hb.cell GS.out.2.1) (hb.cell GS.out.2.2)))
          clear hb
          obtain ⟨⟨hA1, hn1, hc1⟩, ⟨hA2, hn2, hc2⟩, ⟨hA3, hn3, hc3⟩⟩ := h2
          simp only [NH.v, Head.v]
          go_wp2_with fail
          refine ⟨GS.out, ?_⟩
          repeat (first | (refine wpWay_take rfl (by rfl) (by intro w hSw; (try dsimp only at hSw); first | (go_simp; done) | (go_simp; with_reducible rfl)) ?_; try simp only [Act.put, List.setIfInBounds_toArray, List.set_cons_zero, List.set_cons_succ]) | (refine wpWay_skip rfl (by rfl) ?_; try simp only [Act.put, List.setIfInBounds_toArray, List.set_cons_zero, List.set_cons_succ]))
          refine wpWay_ev rfl (fun K hK => ?_) ?_
          · have c2 := HK.out.cell 2
            simp at c2
            go_wp2_with fail
            clear c2
            refine ⟨GS.out, ?_⟩
            repeat (first | (refine wpWay_take rfl (by rfl) (by intro w hSw; (try dsimp only at hSw); first | (go_simp; done) | (go_simp; with_reducible rfl)) ?_; try simp only [Act.put, List.setIfInBounds_toArray, List.set_cons_zero, List.set_cons_succ]) | (refine wpWay_skip rfl (by rfl) ?_; try simp only [Act.put, List.setIfInBounds_toArray, List.set_cons_zero, List.set_cons_succ]))
            refine wpWay_ev rfl (fun K hK => ?_) wpWay_stop
            go_wp2_with fail
            have hb4 := Bl.alloc (Bl.refl wa) (.cells #[.slice hA1 hn1 hc1, .slice hA2 hn2 hc2, .slice hA3 hn3 hc3] 101)
            have GS2 := Lib.hid (And.intro (hb4.cell GS.out.1) (And.intro (hb4.cell GS.out.2.1) (hb4.cell GS.out.2.2)))
            have HK2 := Lib.hid (HK.out.bl hb4)
            clear hb4
            refine ⟨GS2.out, ?_⟩
            repeat (first | (refine wpWay_take rfl (by rfl) (by intro w hSw; (try dsimp only at hSw); first | (go_simp; done) | (go_simp; with_reducible rfl)) ?_; try simp only [Act.put, List.setIfInBounds_toArray, List.set_cons_zero, List.set_cons_succ]) | (refine wpWay_skip rfl (by rfl) ?_; try simp only [Act.put, List.setIfInBounds_toArray, List.set_cons_zero, List.set_cons_succ]))
            refine wpWay_ev rfl (fun K hK => ?_) wpWay_stop
            go_wp2_with (at_builtin; refine Enc.Own.append1 (E := nodeE) rfl (.tmp 21) (.tmp 24) 99 rfl (B + 1) 101 (.agg #[.slice none 0 0, .slice none 0 0, .slice none 0 0]) 3 72 Tryz.underlying99 infoNode rfl rfl (by decide) (by decide) (.slice A7 us.length c7) us rfl HO.out ⟨⟨hA1, hn1, hc1⟩, ⟨hA2, hn2, hc2⟩, ⟨hA3, hn3, hc3⟩⟩ _ rfl rfl rfl ?hlen ?hbase ?_; (case hlen => omega); (case hbase => exact HK.out.lt); intro v5 w4 ho hg)
            have hne1 : some B ≠ (Value.slice A7 us.length c7).ownBlock := fun he => by
              have := (Enc.Own.lt HO.out _ he.symm).1; omega
            have hne2 : some wr.heap.size ≠ (Value.slice A7 us.length c7).ownBlock := fun he => by
              have := (Enc.Own.lt HO0.out _ he.symm).2; omega
            have GS4 := Lib.hid (And.intro (World.grownBy.cell hg GS2.out.1 hne2) (And.intro (World.grownBy.cell hg GS2.out.2.1 hne2) (World.grownBy.cell hg GS2.out.2.2 hne2)))
            refine ⟨GS4.out, ?_⟩
            have HK4 := Lib.hid (HK2.out.grown hg (fun h => hne1 h.symm))
            have HB5 := Lib.hid (((HW.out.bl GB.out).alloc _).grown hg (fun k hk => by have := (Enc.Own.lt HO.out k hk).1; omega))
            obtain ⟨A10, c10, rfl⟩ := ho.slice
            simp only [List.length_append, List.length_singleton] at ho
            have HO5 := Lib.hid ho
            clear hne1 hne2 hg ho
            repeat (first | (refine wpWay_take rfl (by rfl) (by intro w hSw; (try dsimp only at hSw); first | (go_simp; done) | (go_simp; with_reducible rfl)) ?_; try simp only [Act.put, List.setIfInBounds_toArray, List.set_cons_zero, List.set_cons_succ]) | (refine wpWay_skip rfl (by rfl) ?_; try simp only [Act.put, List.setIfInBounds_toArray, List.set_cons_zero, List.set_cons_succ]))
            have e0 := HK4.out.cell 2
            simp at e0
            have e1 := HK4.out.frozen 2
            have e2 := HK4.out.lt
            refine wpWay_ev rfl (fun K hK => ?_) wpWay_stop
            go_wp2_with fail
            have hnw : B ≠ wr.heap.size := by have := HKr.out.lt; omega
            refine ⟨⟨?_, ?_, ?_⟩, ?_⟩
            · rw [World.cell?_setCell_other _ _ _ _ (fun h => hnw (congrArg Addr.block h))]; exact GS4.out.1
            · rw [World.cell?_setCell_other _ _ _ _ (fun h => hnw (congrArg Addr.block h))]; exact GS4.out.2.1
            · rw [World.cell?_setCell_other _ _ _ _ (fun h => hnw (congrArg Addr.block h))]; exact GS4.out.2.2
            refine wpWay_done ?_
            clear e0 e1 e2
            go_wp2_with fail
            go_roundg (hs.length - (k + 1))
            case measure => omega
            case rel =>
              refine ⟨k + 1, us ++ [⟨⟨hA1, hn1, hc1⟩, ⟨hA2, hn2, hc2⟩, ⟨hA3, hn3, hc3⟩⟩], .slice A10 (us.length + 1) c10, by omega, rfl, by go_num, by have := HUS.out; simp; omega, Lib.hid (HK4.out.set 2 _), Lib.hid ?_, Lib.hid (Bl.set HB5.out _ _ _ hBs)⟩
              exact Enc.Own.set HO5.out B 2 (.slice A10 (us.length + 1) c10) (Nat.lt_succ_self _)
          · refine wpWay_ev rfl (fun K hK => ?_) wpWay_stop
            go_wp2_with fail
            have hb4 := Bl.alloc (Bl.refl wa) (.cells #[.slice hA1 hn1 hc1, .slice hA2 hn2 hc2, .slice hA3 hn3 hc3] 101)
            have GS2 := Lib.hid (And.intro (hb4.cell GS.out.1) (And.intro (hb4.cell GS.out.2.1) (hb4.cell GS.out.2.2)))
            have HK2 := Lib.hid (HK.out.bl hb4)
            clear hb4
            refine ⟨GS2.out, ?_⟩
            repeat (first | (refine wpWay_take rfl (by rfl) (by intro w hSw; (try dsimp only at hSw); first | (go_simp; done) | (go_simp; with_reducible rfl)) ?_; try simp only [Act.put, List.setIfInBounds_toArray, List.set_cons_zero, List.set_cons_succ]) | (refine wpWay_skip rfl (by rfl) ?_; try simp only [Act.put, List.setIfInBounds_toArray, List.set_cons_zero, List.set_cons_succ]))
            refine wpWay_ev rfl (fun K hK => ?_) wpWay_stop
            have c2 := HK2.out.cell 2
            simp at c2
            go_wp2_with fail
            clear c2
            refine ⟨GS2.out, ?_⟩
            repeat (first | (refine wpWay_take rfl (by rfl) (by intro w hSw; (try dsimp only at hSw); first | (go_simp; done) | (go_simp; with_reducible rfl)) ?_; try simp only [Act.put, List.setIfInBounds_toArray, List.set_cons_zero, List.set_cons_succ]) | (refine wpWay_skip rfl (by rfl) ?_; try simp only [Act.put, List.setIfInBounds_toArray, List.set_cons_zero, List.set_cons_succ]))
            refine wpWay_ev rfl (fun K hK => ?_) wpWay_stop
            go_wp2_with (at_builtin; refine Enc.Own.append1 (E := nodeE) rfl (.tmp 21) (.tmp 24) 99 rfl (B + 1) 101 (.agg #[.slice none 0 0, .slice none 0 0, .slice none 0 0]) 3 72 Tryz.underlying99 infoNode rfl rfl (by decide) (by decide) (.slice A7 us.length c7) us rfl HO.out ⟨⟨hA1, hn1, hc1⟩, ⟨hA2, hn2, hc2⟩, ⟨hA3, hn3, hc3⟩⟩ _ rfl rfl rfl ?hlen ?hbase ?_; (case hlen => omega); (case hbase => exact HK.out.lt); intro v5 w4 ho hg)
            have hne1 : some B ≠ (Value.slice A7 us.length c7).ownBlock := fun he => by
              have := (Enc.Own.lt HO.out _ he.symm).1; omega
            have hne2 : some wr.heap.size ≠ (Value.slice A7 us.length c7).ownBlock := fun he => by
              have := (Enc.Own.lt HO0.out _ he.symm).2; omega
            have GS4 := Lib.hid (And.intro (World.grownBy.cell hg GS2.out.1 hne2) (And.intro (World.grownBy.cell hg GS2.out.2.1 hne2) (World.grownBy.cell hg GS2.out.2.2 hne2)))
            refine ⟨GS4.out, ?_⟩
            have HK4 := Lib.hid (HK2.out.grown hg (fun h => hne1 h.symm))
            have HB5 := Lib.hid (((HW.out.bl GB.out).alloc _).grown hg (fun k hk => by have := (Enc.Own.lt HO.out k hk).1; omega))
            obtain ⟨A10, c10, rfl⟩ := ho.slice
            simp only [List.length_append, List.length_singleton] at ho
            have HO5 := Lib.hid ho
            clear hne1 hne2 hg ho
            repeat (first | (refine wpWay_take rfl (by rfl) (by intro w hSw; (try dsimp only at hSw); first | (go_simp; done) | (go_simp; with_reducible rfl)) ?_; try simp only [Act.put, List.setIfInBounds_toArray, List.set_cons_zero, List.set_cons_succ]) | (refine wpWay_skip rfl (by rfl) ?_; try simp only [Act.put, List.setIfInBounds_toArray, List.set_cons_zero, List.set_cons_succ]))
            have e0 := HK4.out.cell 2
            simp at e0
            have e1 := HK4.out.frozen 2
            have e2 := HK4.out.lt
            refine wpWay_ev rfl (fun K hK => ?_) wpWay_stop
            go_wp2_with fail
            have hnw : B ≠ wr.heap.size := by have := HKr.out.lt; omega
            refine ⟨⟨?_, ?_, ?_⟩, ?_⟩
            · rw [World.cell?_setCell_other _ _ _ _ (fun h => hnw (congrArg Addr.block h))]; exact GS4.out.1
            · rw [World.cell?_setCell_other _ _ _ _ (fun h => hnw (congrArg Addr.block h))]; exact GS4.out.2.1
            · rw [World.cell?_setCell_other _ _ _ _ (fun h => hnw (congrArg Addr.block h))]; exact GS4.out.2.2
            refine wpWay_done ?_
            clear e0 e1 e2
            go_wp2_with fail
            go_roundg (hs.length - (k + 1))
            case measure => omega
            case rel =>
              refine ⟨k + 1, us ++ [⟨⟨hA1, hn1, hc1⟩, ⟨hA2, hn2, hc2⟩, ⟨hA3, hn3, hc3⟩⟩], .slice A10 (us.length + 1) c10, by omega, rfl, by go_num, by have := HUS.out; simp; omega, Lib.hid (HK4.out.set 2 _), Lib.hid ?_, Lib.hid (Bl.set HB5.out _ _ _ hBs)⟩
              exact Enc.Own.set HO5.out B 2 (.slice A10 (us.length + 1) c10) (Nat.lt_succ_self _)
      · clear hus
        have z0 := HKr.out.cell 0
        have z1 := HKr.out.cell 1
        have z2 := HKr.out.cell 2
        simp at z0 z1 z2
        have hRb := HRb.out.bl HW.out
        rw [show (w.alloc (.cells #[.slice A1 l.length c1, .slice A2 f.length c2, .slice A3 hs.length c3] 101)).heap.size = w.heap.size + 1 by simp] at hRb
        have y0 := hRb.cell 0
        have y1 := hRb.cell 1
        have y2 := hRb.cell 2
        have f0 := hRb.frozen 0
        have f1 := hRb.frozen 1
        have f2 := hRb.frozen 2
        have l1 := hRb.lt
        simp at y0 y1 y2
        obtain ⟨A7, c7, rfl⟩ := HO0.out.slice
        go_wp2_with fail
        refine bodyPost_ret (v := .agg #[.slice A4 l.length c4, .slice A5 f.length c5, .slice A7 us.length c7]) (by simp [results, Tryz.results95, go_sem, y0, y1, y2]) rfl ⟨⟨⟨A4, l.length, c4⟩, ⟨A5, f.length, c5⟩, ⟨A7, us.length, c7⟩⟩, rfl, ?_⟩
        iterate 3 refine Bl.set ?_ _ _ _ (Nat.le_succ _)
        exact W0.out.bl HW.out
end Go.Proofs.YtddcjekkimajpaaGreat.ExtW

/- Contracts of tree.Of and Right: what made made is right. -/
namespace Go.Proofs.YtddcjekkimajpaaGreat.ExtW
open Go.RowKit Go.Ov Go.Proofs.YtddcjekkimajpaaGreat.Need

theorem good_small : ∀ (d : Nat) (top : Bool) (l : List Ext) (f : List Int) (p : List NodeM), goodN d top (.mk l f p) → l.length ≤ 8 ∧ f.length ≤ 8 ∧ p.length ≤ 8 ∧ (∀ x ∈ p, ∃ d top, goodN d top x) ∧ isE l.length f.length p.length = false
  | 0, _, _, _, _, h => h.elim
  | 1, top, l, f, p, h => by
    obtain ⟨rfl, rfl, h1, h2⟩ := h
    have : 1 ≤ l.length := by unfold leastN at h1; split at h1 <;> omega
    exact ⟨h2, by simp, by simp, fun x hx => by simp at hx, by unfold isE; simp; intro e; rw [e] at this; simp at this⟩
  | d + 2, top, l, f, p, h => by
    obtain ⟨rfl, rfl, h1, h2, h3⟩ := h
    have : 2 ≤ p.length := by omega
    exact ⟨by simp, by simpa using h2, h2, fun x hx => ⟨_, _, (h3 x hx).1⟩, by unfold isE; simp; intro e; rw [e] at this; simp at this⟩

set_option maxRecDepth 100000 in
set_option maxHeartbeats 1000000 in
theorem tof_any (l : List Ext) (h : NH) (w : World) (hr : NodeR w (madeM l) h) (hv : validFrom 0 l = true) :
    Calls Tryz.prog 63 #[h.v] w fun e w' => ∃ b : Nat, e = .returned (.tuple #[.pointer (some ⟨b, 0, none⟩), .bool true]) ∧ Bl w w' := by
  have hlen := valid_len l hv
  have HR := Lib.hid hr
  have HV := Lib.hid hv
  have hu := Tryz.underlying101
  have hu2 := Tryz.underlying103
  obtain ⟨⟨hA1, hn1, hc1⟩, ⟨hA2, hn2, hc2⟩, ⟨hA3, hn3, hc3⟩⟩ := h
  by_cases hl : l = []
  · subst hl
    have hE := tempty_any [] [] [] _ (w.alloc (.cells #[.slice hA1 hn1 hc1, .slice hA2 hn2 hc2, .slice hA3 hn3 hc3] 101)) (by have := hr.bl ((Bl.refl w).alloc (.cells #[.slice hA1 hn1 hc1, .slice hA2 hn2 hc2, .slice hA3 hn3 hc3] 101)); rwa [madeM_nil] at this)
    have HE := Lib.hid hE
    simp only [NH.v, Head.v]
    clear hr hE hv hlen
    go_enter Tryz.func63, Tryz.ntmps63
    go_wp2_with fail
    refine HE.out.mono ?_
    rintro e w1 ⟨rfl, hb⟩
    rw [show isE ([] : List Ext).length ([] : List Int).length ([] : List NodeM).length = true from rfl]
    have HB := Lib.hid (((Bl.refl w).alloc _).bl hb)
    clear hb
    go_wp2_with fail
    refine (tnew_any _).mono ?_
    rintro e w2 ⟨u, rfl, ht, hb⟩
    obtain ⟨b, _, _, rfl, _⟩ := ht
    go_wp2_with fail
    go_ret2
    exact ⟨b, rfl, HB.out.bl hb⟩
  · obtain ⟨d, hd, hg⟩ := made_good l hl hlen
    have hit := made_items l hl
    have HG := Lib.hid hg
    have HIT := Lib.hid hit
    have hd1 : 1 ≤ d := by
      cases d with
      | zero => cases hm : madeM l; rw [hm] at hg; exact hg.elim
      | succ d => omega
    have hd2 : ¬ (d : Int) < 0 := by omega
    have hE : ∀ W, NodeR W (madeM l) ⟨⟨hA1, hn1, hc1⟩, ⟨hA2, hn2, hc2⟩, ⟨hA3, hn3, hc3⟩⟩ → Calls Tryz.prog 92 #[.agg #[.slice hA1 hn1 hc1, .slice hA2 hn2 hc2, .slice hA3 hn3 hc3]] W fun e w' => e = .returned (.bool false) ∧ Bl W w' := by
      intro W hW
      cases hm : madeM l with
      | mk a b c =>
        rw [hm] at hW hg
        have := tempty_any a b c _ W hW
        rw [(good_small d true a b c hg).2.2.2.2] at this
        exact this
    have HE := Lib.hid hE
    simp only [NH.v, Head.v]
    clear hr hE hv hg hit
    go_enter Tryz.func63, Tryz.ntmps63
    go_wp2_with fail
    refine (HE.out _ (HR.out.bl ((Bl.refl _).alloc _))).mono ?_
    rintro e w1 ⟨rfl, hb⟩
    have HK := Lib.hid ((Blk.new w #[.slice hA1 hn1 hc1, .slice hA2 hn2 hc2, .slice hA3 hn3 hc3] 101).bl hb)
    have HB := Lib.hid (((Bl.refl w).alloc _).bl hb)
    have z0 := HK.out.cell 0
    have z1 := HK.out.cell 1
    have z2 := HK.out.cell 2
    simp at z0 z1 z2
    clear hb
    go_wp2_with fail
    refine (tdepth_any d true (madeM l) ⟨⟨hA1, hn1, hc1⟩, ⟨hA2, hn2, hc2⟩, ⟨hA3, hn3, hc3⟩⟩ 8 _ (HR.out.bl HB.out) HG.out (by omega) (by decide)).mono ?_
    rintro e w2 ⟨rfl, hb⟩
    have HK2 := Lib.hid (HK.out.bl hb)
    have HB2 := Lib.hid (HB.out.bl hb)
    have y0 := HK2.out.cell 0
    have y1 := HK2.out.cell 1
    have y2 := HK2.out.cell 2
    simp at y0 y1 y2
    clear hb z0 z1 z2
    go_wp2_with fail
    refine (titems_any (madeM l) ⟨⟨hA1, hn1, hc1⟩, ⟨hA2, hn2, hc2⟩, ⟨hA3, hn3, hc3⟩⟩ _ (HR.out.bl HB2.out) (by rw [HIT.out]; omega)).mono ?_
    rintro e w3 ⟨u, rfl, ho, hb⟩
    rw [HIT.out] at ho
    have HK3 := Lib.hid (HK2.out.bl hb)
    have HB3 := Lib.hid (HB2.out.bl hb)
    have HU := Lib.hid ho.is
    obtain ⟨A5, c5, rfl⟩ := ho.slice
    clear ho hb y0 y1 y2
    go_wp2_with fail
    refine (valid_any _ l _ HU.out).mono ?_
    rintro e w4 ⟨rfl, hb⟩
    rw [HV.out]
    have HK4 := Lib.hid (HK3.out.bl hb)
    have HB4 := Lib.hid (HB3.out.bl hb)
    have y0 := HK4.out.cell 0
    have y1 := HK4.out.cell 1
    have y2 := HK4.out.cell 2
    simp at y0 y1 y2
    clear hb
    go_wp2_with fail
    refine (tcopied_any (madeM l) ⟨⟨hA1, hn1, hc1⟩, ⟨hA2, hn2, hc2⟩, ⟨hA3, hn3, hc3⟩⟩ _ (HR.out.bl HB4.out) (fun n => ∃ d top, goodN d top n) (fun a b c ⟨d, top, hg⟩ => by obtain ⟨g1, g2, g3, g4, _⟩ := good_small d top a b c hg; exact ⟨by omega, by omega, by omega, g4⟩) ⟨d, true, HG.out⟩).mono ?_
    rintro e w5 ⟨h2, rfl, hb⟩
    have HB5 := Lib.hid (HB4.out.bl hb)
    obtain ⟨⟨kA1, kn1, kc1⟩, ⟨kA2, kn2, kc2⟩, ⟨kA3, kn3, kc3⟩⟩ := h2
    simp only [NH.v, Head.v]
    clear hb
    go_wp2_with fail
    go_ret2
    exact ⟨_, rfl, HB5.out.alloc _⟩

set_option maxRecDepth 100000 in
set_option maxHeartbeats 1000000 in
theorem tright_any (v : Value) (l : List Ext) (w : World) (h : TreeIs w v (treeM l)) (hv : validFrom 0 l = true) :
    Calls Tryz.prog 40 #[v] w fun e w' => e = .returned (.bool true) ∧ Bl w w' := by
  obtain ⟨b, u, n, rfl, c0, c1, c2, c3, h4, h5⟩ := h
  have HL := Lib.hid h4
  have HN := Lib.hid h5
  have HV := Lib.hid hv
  have hu := Tryz.underlying103
  have hu2 := Tryz.underlying101
  obtain ⟨uA, un, uc⟩ := u
  obtain ⟨⟨hA1, hn1, hc1⟩, ⟨hA2, hn2, hc2⟩, ⟨hA3, hn3, hc3⟩⟩ := n
  simp only [Head.v] at c0 c1 c2 c3
  have C0 := Lib.hid c0
  clear h4 h5 hv
  go_enter Tryz.func40, Tryz.ntmps40
  go_wp2_with fail
  refine (tof_any l ⟨⟨hA1, hn1, hc1⟩, ⟨hA2, hn2, hc2⟩, ⟨hA3, hn3, hc3⟩⟩ _ HN.out HV.out).mono ?_
  rintro e w1 ⟨b2, rfl, hb⟩
  have d0 := hb.cell C0.out
  have HB := Lib.hid hb
  clear hb
  go_wp2_with fail
  refine (valid_any _ l _ (HL.out.bl HB.out)).mono ?_
  rintro e w2 ⟨rfl, hb⟩
  rw [HV.out]
  go_wp2_with fail
  go_ret
  exact ⟨rfl, HB.out.bl hb⟩
end Go.Proofs.YtddcjekkimajpaaGreat.ExtW

/- slices.Sort and slices.Compact at []int, as contracts on a slice that a call owns. -/
namespace Go.Proofs.YtddcjekkimajpaaGreat.Need
open Go.RowKit Go.Ov Go.Sort

theorem int_cells (xs : List Int) : xs.flatMap intE.c = xs.map (Value.int .i64) := by
  induction xs with
  | nil => rfl
  | cons x xs ih => rw [List.flatMap_cons, ih]; rfl

theorem putRow_at (w : World) (blk q : Nat) (d : Array Int) (os : Array Obj) (cur : Array Value) (T : TypeId) (h : w.heap[blk]? = some (.cells cur T (0, 0))) :
    (grow (putRow (Value.int .i64) (Sort.ahead w q) blk 0 d) os).heap[blk]? = some (.cells (putCells (Value.int .i64) 0 d cur) T (0, 0)) := by
  have hlt : blk < w.heap.size := (Array.getElem?_eq_some_iff.1 h).1
  rw [heap_grow_old _ _ (by simpa using hlt)]
  show (w.heap.modify blk (onCells (putCells (Value.int .i64) 0 d)))[blk]? = _
  rw [Array.getElem?_modify, if_pos rfl, h]
  rfl
theorem putRow_else (w : World) (blk q : Nat) (d : Array Int) (os : Array Obj) (k : Nat) (hk : k < w.heap.size) (hne : blk ≠ k) :
    (grow (putRow (Value.int .i64) (Sort.ahead w q) blk 0 d) os).heap[k]? = w.heap[k]? := by
  rw [heap_grow_old _ _ (by simpa using hk)]
  show (w.heap.modify blk (onCells (putCells (Value.int .i64) 0 d)))[k]? = _
  rw [Array.getElem?_modify, if_neg hne]
theorem take_putCells (d : Array Int) (cur : Array Value) (m : Nat) (hm : m ≤ d.size) (hc : d.size ≤ cur.size) :
    (putCells (Value.int .i64) 0 d cur).toList.take m = (d.toList.take m).map (Value.int .i64) := by
  apply List.ext_getElem?
  intro k
  simp only [putCells, List.getElem?_take, List.getElem?_map, Array.getElem?_toList, Array.getElem?_mapIdx]
  by_cases hk : k < m
  · rw [if_pos hk, if_pos hk, Array.getElem?_eq_getElem (by omega : k < cur.size), Array.getElem?_eq_getElem (by omega : k < d.size)]
    simp only [Option.map_some, Nat.sub_zero]
    rw [if_pos ⟨Nat.zero_le _, by omega⟩, getElem!_pos d k (by omega)]
  · rw [if_neg hk, if_neg hk]; rfl

/-- a row that is laid anew in an owned slice -/
theorem own_put {w : World} {T : TypeId} {base blk cap n : Nat} {xs : List Int} (h : intE.Own T w base (.slice (some ⟨blk, 0, none⟩) n cap) xs) (q : Nat) (d : Array Int) (os : Array Obj) (hd : d.size = xs.length) (m : Nat) (hm : m ≤ d.size) (ys : List Int) (hy : d.toList.take m = ys) :
    intE.Own T (grow (putRow (Value.int .i64) (Sort.ahead w q) blk 0 d) os) base (.slice (some ⟨blk, 0, none⟩) m cap) ys ∧
    ∀ w0, Bl w0 w → w0.heap.size ≤ base → Bl w0 (grow (putRow (Value.int .i64) (Sort.ahead w q) blk 0 d) os) := by
  obtain ⟨h1, h2⟩ := h
  rcases h2 with ⟨h2, _⟩ | ⟨g, c, cur, h2, h3, h4, h5, h6, h7, h8⟩
  · cases h2
  · simp at h2
    obtain ⟨rfl, rfl, rfl⟩ := h2
    have hl : m = ys.length := by rw [← hy, List.length_take, Array.length_toList]; omega
    have hsz : intE.sz = 1 := rfl
    rw [hsz] at h7
    refine ⟨⟨by rw [int_cells, List.length_map, hsz]; omega, .inr ⟨blk, cap, _, by rw [hl], h3, putRow_at w blk q d os cur T h4, by omega, h6, ?_, ?_⟩⟩, fun w0 hb hs => ?_⟩
    · simp [putCells, h7, hsz]
    · rw [hsz, Nat.mul_one, ← hl, take_putCells d cur m hm (by omega), int_cells, hy]
    · have hlt : blk < w.heap.size := (Array.getElem?_eq_some_iff.1 h4).1
      refine ⟨hb.os, hb.tape, hb.output, by simp; have := hb.size; omega, fun k hk => ?_⟩
      rw [putRow_else w blk q d os k (by have := hb.size; omega) (by omega)]
      exact hb.block k hk

theorem own_holds {w : World} {T : TypeId} {base blk cap n : Nat} {xs : List Int} (h : intE.Own T w base (.slice (some ⟨blk, 0, none⟩) n cap) xs) :
    Holds (Value.int .i64) w blk 0 xs.toArray ∧ blk < w.heap.size ∧ n = xs.length ∧ n ≤ cap := by
  obtain ⟨h1, h2⟩ := h
  rcases h2 with ⟨h2, _⟩ | ⟨g, c, cur, h2, h3, h4, h5, h6, h7, h8⟩
  · cases h2
  · simp at h2
    obtain ⟨rfl, rfl, rfl⟩ := h2
    refine ⟨fun j hj => ?_, (Array.getElem?_eq_some_iff.1 h4).1, rfl, h5⟩
    have hj' : j < xs.length := by simpa using hj
    rw [int_cells] at h8
    have : (cur.toList.take (xs.length * intE.sz))[j]? = some (Value.int .i64 xs[j]) := by rw [h8, List.getElem?_map, List.getElem?_eq_getElem hj']; rfl
    rw [List.getElem?_take, if_pos (by show j < xs.length * 1; omega), Array.getElem?_toList] at this
    refine ⟨?_, ?_⟩
    · unfold World.cell?
      simp only [h4, Nat.zero_add]
      rw [this]
      simp [hj']
    · unfold World.frozen?
      simp only [h4]
      simp

theorem sort_any (v : Value) (T : TypeId) (base : Nat) (xs : List Int) (w : World) (h : intE.Own T w base v xs) (hn : xs.length < 4611686018427387904) :
    Calls Tryz.prog 32 #[v] w fun e w' => e = .returned (.tuple #[]) ∧ intE.Own T w' base v (xs.mergeSort fun x y => decide (x ≤ y)) ∧ ∀ w0, Bl w0 w → w0.heap.size ≤ base → Bl w0 w' := by
  obtain ⟨A, c, rfl⟩ := Enc.Own.slice h
  by_cases hA : ∃ blk, A = some ⟨blk, 0, none⟩
  · obtain ⟨blk, rfl⟩ := hA
    obtain ⟨hH, hb, _, _⟩ := own_holds h
    refine (Tryz.slices_Sort_int blk 0 c xs w hH hb hn).mono ?_
    rintro e w' ⟨rfl, q, os, rfl⟩
    have hp := own_put h q (xs.mergeSort fun x y => decide (x ≤ y)).toArray os (by simp) xs.length (by simp) (xs.mergeSort fun x y => decide (x ≤ y)) (by rw [List.take_of_length_le (by simp)])
    exact ⟨rfl, hp.1, hp.2⟩
  · obtain ⟨h1, h2⟩ := h
    rcases h2 with ⟨h2, h3⟩ | ⟨g, c', cur, h2, _⟩
    · have hx : xs = [] := List.length_eq_zero_iff.1 h3
      subst hx
      refine (Tryz.slices_Sort_int_none A c w).mono ?_
      rintro e w' ⟨rfl, rfl⟩
      rw [show ([] : List Int).mergeSort (fun x y => decide (x ≤ y)) = [] by simp]
      exact ⟨rfl, ⟨h1, .inl ⟨h2, h3⟩⟩, fun _ h _ => h⟩
    · simp at h2; exact (hA ⟨g, h2.1⟩).elim

theorem compact_any (v : Value) (T : TypeId) (base : Nat) (xs : List Int) (w : World) (h : intE.Own T w base v xs) (hn : xs.length < 4611686018427387904) (hl : (Lib.compact xs).length ≤ xs.length) :
    Calls Tryz.prog 33 #[v] w fun e w' => ∃ u, e = .returned u ∧ intE.Own T w' base u (Lib.compact xs) ∧ ∀ w0, Bl w0 w → w0.heap.size ≤ base → Bl w0 w' := by
  obtain ⟨A, c, rfl⟩ := Enc.Own.slice h
  by_cases hA : ∃ blk, A = some ⟨blk, 0, none⟩
  · obtain ⟨blk, rfl⟩ := hA
    obtain ⟨hH, hb, _, hc⟩ := own_holds h
    refine (Tryz.slices_Compact_int blk 0 c xs w hH (by omega) hc).mono ?_
    rintro e w' ⟨rfl, q, rfl⟩
    have hp := own_put h q (Lib.compact xs ++ List.replicate (xs.length - (Lib.compact xs).length) 0).toArray #[] (by simp; omega) (Lib.compact xs).length (by simp) (Lib.compact xs) (by simp)
    rw [grow_empty] at hp
    exact ⟨_, rfl, hp.1, hp.2⟩
  · obtain ⟨h1, h2⟩ := h
    rcases h2 with ⟨h2, h3⟩ | ⟨g, c', cur, h2, _⟩
    · have hx : xs = [] := List.length_eq_zero_iff.1 h3
      subst hx
      refine (Tryz.slices_Compact_int_empty A c w).mono ?_
      rintro e w' ⟨rfl, rfl⟩
      exact ⟨_, rfl, ⟨h1, .inl ⟨h2, h3⟩⟩, fun _ h _ => h⟩
    · simp at h2; exact (hA ⟨g, h2.1⟩).elim
end Go.Proofs.YtddcjekkimajpaaGreat.Need

/- Rising rows of numbers: what a sort and a compaction make, what a number put in makes. No program in sight. -/
namespace Go.Ov
open Go.Lib

theorem comp_spec (d : Array Int) (hs : ∀ i j, i ≤ j → j < d.size → d[i]! ≤ d[j]!) : ∀ m, m ≤ d.size →
    (compactUpTo d m).Pairwise (· < ·) ∧ ∀ x, x ∈ compactUpTo d m ↔ ∃ j, j < m ∧ d[j]! = x
  | 0, _ => ⟨by simp [compactUpTo], fun x => by simp [compactUpTo]⟩
  | m + 1, hm => by
    obtain ⟨h1, h2⟩ := comp_spec d hs m (by omega)
    rw [compactUpTo_succ]
    by_cases hk : keeps d m = true
    · rw [if_pos hk]
      refine ⟨List.pairwise_append.2 ⟨h1, by simp, fun a ha b hb => ?_⟩, fun x => ?_⟩
      · obtain ⟨j, hj, rfl⟩ := (h2 a).1 ha
        have hb' : b = d[m]! := by simpa using hb
        subst hb'
        have hk' := hk
        simp only [keeps, decide_eq_true_eq] at hk'
        have hne : d[m]! ≠ d[m - 1]! := by rcases hk' with h | h; · omega
                                           · exact h
        have h3 := hs j (m - 1) (by omega) (by omega)
        have h4 := hs (m - 1) m (by omega) (by omega)
        omega
      · rw [List.mem_append, h2, List.mem_singleton]
        constructor
        · rintro (⟨j, hj, rfl⟩ | rfl)
          · exact ⟨j, by omega, rfl⟩
          · exact ⟨m, by omega, rfl⟩
        · rintro ⟨j, hj, rfl⟩
          by_cases e : j = m
          · exact .inr (by rw [e])
          · exact .inl ⟨j, by omega, rfl⟩
    · rw [if_neg hk, List.append_nil]
      refine ⟨h1, fun x => ?_⟩
      rw [h2]
      constructor
      · rintro ⟨j, hj, rfl⟩; exact ⟨j, by omega, rfl⟩
      · rintro ⟨j, hj, rfl⟩
        by_cases e : j = m
        · subst e
          simp only [keeps, decide_eq_true_eq, not_or, Decidable.not_not] at hk
          exact ⟨j - 1, by omega, hk.2.symm⟩
        · exact ⟨j, by omega, rfl⟩

theorem strict_ext : ∀ (a b : List Int), a.Pairwise (· < ·) → b.Pairwise (· < ·) → (∀ x, x ∈ a ↔ x ∈ b) → a = b
  | [], [], _, _, _ => rfl
  | [], y :: b, _, _, h => by have := (h y).2 (by simp); cases this
  | x :: a, [], _, _, h => by have := (h x).1 (by simp); cases this
  | x :: a, y :: b, ha, hb, h => by
    obtain ⟨ha1, ha2⟩ := List.pairwise_cons.1 ha
    obtain ⟨hb1, hb2⟩ := List.pairwise_cons.1 hb
    have e : x = y := by
      rcases List.mem_cons.1 ((h x).1 (by simp)) with e | hx
      · exact e
      · rcases List.mem_cons.1 ((h y).2 (by simp)) with e | hy
        · exact e.symm
        · have := ha1 y hy; have := hb1 x hx; omega
    subst e
    congr 1
    refine strict_ext a b ha2 hb2 fun z => ?_
    constructor
    · intro hz
      rcases List.mem_cons.1 ((h z).1 (by simp [hz])) with e | hz'
      · have := ha1 z hz; omega
      · exact hz'
    · intro hz
      rcases List.mem_cons.1 ((h z).2 (by simp [hz])) with e | hz'
      · have := hb1 z hz; omega
      · exact hz'

/-- sorted, each once -/
def sortedM (l : List Int) : List Int := Lib.compact (l.mergeSort fun x y => decide (x ≤ y))
theorem sortedM_spec (l : List Int) : (sortedM l).Pairwise (· < ·) ∧ ∀ x, x ∈ sortedM l ↔ x ∈ l := by
  have hp : (l.mergeSort fun x y => decide (x ≤ y)).Pairwise (fun x y => decide (x ≤ y) = true) := List.pairwise_mergeSort (by intro a b c; simp; omega) (by intro a b; simp; omega) l
  generalize hz : (l.mergeSort fun x y => decide (x ≤ y)) = z at *
  have hmem : ∀ x, x ∈ z ↔ x ∈ l := fun x => by rw [← hz]; exact List.mem_mergeSort
  obtain ⟨h1, h2⟩ := comp_spec z.toArray (fun i j hij hj => by
    have hj' : j < z.length := by simpa using hj
    have e1 : z.toArray[i]! = z[i]'(by omega) := by simp [show i < z.length by omega]
    have e2 : z.toArray[j]! = z[j]'(by omega) := by simp [hj']
    rw [e1, e2]
    by_cases e : i = j
    · subst e; exact Int.le_refl _
    · have := List.pairwise_iff_getElem.1 hp i j (by omega) (by omega) (by omega)
      simpa using this) z.length (by simp)
  unfold sortedM
  rw [hz]
  refine ⟨h1, fun x => ?_⟩
  rw [← hmem, show Lib.compact z = compactUpTo z.toArray z.length from rfl, h2]
  constructor
  · rintro ⟨j, hj, rfl⟩; simp [hj]
  · intro hx
    obtain ⟨j, hj, rfl⟩ := List.getElem_of_mem hx
    exact ⟨j, hj, by simp [hj]⟩
theorem compact_len (z : List Int) : (Lib.compact z).length ≤ z.length := by
  unfold Lib.compact compactUpTo
  rw [List.length_map]
  have := List.length_filter_le (keeps z.toArray) (List.range z.length)
  simpa using this
theorem sortedM_len (l : List Int) : (sortedM l).length ≤ l.length := by
  have := compact_len (l.mergeSort fun x y => decide (x ≤ y))
  simpa [sortedM] using this

/-- a number put into a rising row, from place k down -/
def riseK (l : List Int) (n : Int) : Nat → List Int
  | 0 => l.take 0 ++ n :: l.drop 0
  | k + 1 => if n ≤ l[k]?.getD 0 then (if l[k]?.getD 0 = n then l else riseK l n k) else l.take (k + 1) ++ n :: l.drop (k + 1)
def riseM (l : List Int) (n : Int) : List Int := riseK l n l.length
theorem riseK_spec (l : List Int) (n : Int) (hl : l.Pairwise (· < ·)) : ∀ k, k ≤ l.length → (∀ j (h : j < l.length), k ≤ j → n < l[j]) →
    (riseK l n k).Pairwise (· < ·) ∧ (∀ x, x ∈ riseK l n k ↔ x ∈ l ∨ x = n) ∧ (riseK l n k).length ≤ l.length + 1 := by
  have fin : ∀ k, k ≤ l.length → (∀ j (h : j < l.length), k ≤ j → n < l[j]) → (∀ j (h : j < l.length), j < k → l[j] < n) →
      (l.take k ++ n :: l.drop k).Pairwise (· < ·) ∧ (∀ x, x ∈ l.take k ++ n :: l.drop k ↔ x ∈ l ∨ x = n) ∧ (l.take k ++ n :: l.drop k).length ≤ l.length + 1 := by
    intro k hk h1 h2
    refine ⟨List.pairwise_append.2 ⟨hl.sublist (List.take_sublist _ _), List.pairwise_cons.2 ⟨fun a ha => ?_, hl.sublist (List.drop_sublist _ _)⟩, fun a ha b hb => ?_⟩, fun x => ?_, by simp; omega⟩
    · obtain ⟨j, hj, rfl⟩ := List.getElem_of_mem ha
      rw [List.getElem_drop]; exact h1 _ _ (by omega)
    · obtain ⟨i, hi, rfl⟩ := List.getElem_of_mem ha
      have hi' : i < k := by rw [List.length_take] at hi; omega
      rw [List.getElem_take]
      have h3 := h2 i (by omega) hi'
      rcases List.mem_cons.1 hb with rfl | hb
      · exact h3
      · obtain ⟨j, hj, rfl⟩ := List.getElem_of_mem hb
        rw [List.getElem_drop]
        have := h1 (k + j) (by rw [List.length_drop] at hj; omega) (by omega)
        omega
    · rw [List.mem_append, List.mem_cons]
      constructor
      · rintro (h | rfl | h)
        · exact .inl (List.mem_of_mem_take h)
        · exact .inr rfl
        · exact .inl (List.mem_of_mem_drop h)
      · rintro (h | rfl)
        · rw [← List.take_append_drop k l, List.mem_append] at h
          rcases h with h | h
          · exact .inl h
          · exact .inr (.inr h)
        · exact .inr (.inl rfl)
  intro k
  induction k with
  | zero => intro hk h1; exact fin 0 hk h1 (fun j _ h => by omega)
  | succ k ih =>
    intro hk h1
    have hkl : k < l.length := by omega
    have eg : l[k]?.getD 0 = l[k] := by simp [hkl]
    unfold riseK
    rw [eg]
    by_cases h : n ≤ l[k]
    · rw [if_pos h]
      by_cases h' : l[k] = n
      · rw [if_pos h']
        refine ⟨hl, fun x => ⟨.inl, ?_⟩, by omega⟩
        rintro (h | rfl)
        · exact h
        · rw [← h']; exact List.getElem_mem _
      · rw [if_neg h']
        refine ih (by omega) fun j hj hkj => ?_
        by_cases e : j = k
        · subst e; omega
        · exact h1 j hj (by omega)
    · rw [if_neg h]
      refine fin (k + 1) hk h1 fun j hj hjk => ?_
      by_cases e : j = k
      · subst e; omega
      · have := List.pairwise_iff_getElem.1 hl j k hj hkl (by omega); omega
def risesM (l : List Int) : List Int := l.foldl riseM []
theorem rises_spec : ∀ (l a : List Int), a.Pairwise (· < ·) → (l.foldl riseM a).Pairwise (· < ·) ∧ (∀ x, x ∈ l.foldl riseM a ↔ x ∈ a ∨ x ∈ l) ∧ (l.foldl riseM a).length ≤ a.length + l.length
  | [], a, h => ⟨h, fun x => by simp, by simp⟩
  | n :: l, a, h => by
    obtain ⟨h1, h2, h3⟩ := riseK_spec a n h a.length (Nat.le_refl _) (fun j hj hk => by omega)
    obtain ⟨g1, g2, g3⟩ := rises_spec l (riseM a n) h1
    refine ⟨g1, fun x => ?_, ?_⟩
    · rw [List.foldl_cons, g2, show x ∈ riseM a n ↔ _ from h2 x, List.mem_cons, or_assoc]
    · rw [List.foldl_cons, List.length_cons]
      have : (riseM a n).length ≤ a.length + 1 := h3
      omega
theorem rises_sorted (l : List Int) : risesM l = sortedM l := by
  obtain ⟨h1, h2, _⟩ := rises_spec l [] (by simp)
  obtain ⟨g1, g2⟩ := sortedM_spec l
  exact strict_ext _ _ h1 g1 fun x => by rw [g2]; unfold risesM; rw [h2]; simp
end Go.Ov

/- Contracts of extent.Find, extent.Sectors and overdubref14's Find, Rise, Sectors. -/
namespace Go.Proofs.YtddcjekkimajpaaGreat.ExtW
open Go.RowKit Go.Ov Go.Proofs.YtddcjekkimajpaaGreat.Need

theorem infoInt : (Tryz.prog.info? 3).map (fun i => (i.zero, i.size, i.bytes)) = some (some (.int .i64 0), 1, 8) := by kernel_rfl

/-- which one has a sample, from number k on -/
def findP (p : Ext → Bool) : Nat → List Ext → Int × Bool
  | _, [] => (0, false)
  | k, e :: l => if p e then (k, true) else findP p (k + 1) l
def hasM (x : Int) (e : Ext) : Bool := decide (e.at_ ≤ x) && decide (wrap64 (x - e.at_) < e.take)
def hasR (x : Int) (e : Ext) : Bool := decide (e.at_ ≤ x) && decide (x < wrap64 (e.at_ + e.take))

set_option maxRecDepth 100000 in
set_option maxHeartbeats 1000000 in
theorem sectors_any (v : Value) (l : List Ext) (w : World) (h : extE.Is w v l) (hn : l.length ≤ 1000000) :
    Calls Tryz.prog 29 #[v] w fun e w' => ∃ u, e = .returned u ∧ intE.Own 3 w' w.heap.size u (sortedM (l.map Ext.sector)) ∧ Bl w w' := by
  obtain ⟨A, c, rfl, h1, h2, h3, h4⟩ := h
  have HA := Lib.hid h4
  have hl : l.length ≤ 9223372036854775807 := by unfold maxLen at h2; omega
  have hu := Tryz.underlying81
  clear h1 h2 h3 h4
  go_enter Tryz.func29, Tryz.ntmps29
  go_wp2
  go_loopg [3, 8] l.length (fun g s i wr => ∃ (k : Nat), k ≤ l.length ∧ g = l.length - k ∧ i = .int .i64 k ∧ intE.Own 3 wr w.heap.size s (pmap Ext.sector l k) ∧ Bl w wr)
  case atStart => exact ⟨0, by omega, rfl, rfl, Enc.Own.nil _ _ _, Bl.refl _⟩
  case round =>
    obtain ⟨k, hk, rfl, rfl, ho, hbl⟩ := hrel
    have HB := Lib.hid hbl
    have HO := Lib.hid ho
    clear hbl ho
    by_cases hlt : k < l.length
    · obtain ⟨ad, rfl, c0, c1, c2, c3, c4⟩ := ext_at (HA.out.bl HB.out) k hlt
      have hst := Lib.hid (pmap_succ Ext.sector l k hlt)
      have hlen := Lib.hid (pmap_len Ext.sector l k hk)
      generalize pmap Ext.sector l k = xs at *
      generalize l[k] = x at *
      obtain ⟨x0, x1, x2, x3, x4⟩ := x
      dsimp only at c0 c1 c2 c3 c4
      go_wp2_with (at_builtin; refine Enc.Own.append1 (E := intE) rfl (.tmp 12) (.tmp 15) 23 rfl w.heap.size 3 (.int .i64 0) 1 8 Tryz.underlying23 infoInt rfl rfl (by decide) (by decide) u3 xs rfl (HO.out.bl ((Bl.refl _).alloc _)) x1 _ rfl (by simp) rfl ?hlen ?hbase ?_; (case hlen => have := hlen.out; omega); (case hbase => exact (HB.out.alloc _).size); intro v1 w1 ho hg)
      go_roundg (l.length - (k + 1))
      case measure => omega
      case rel => exact ⟨k + 1, by omega, rfl, by go_num, by rw [hst.out]; exact ho, ((HB.out.alloc _).alloc _).grown hg (fun k hk => (Enc.Own.lt HO.out k hk).1)⟩
    · have ho : intE.Own 3 wr w.heap.size u3 (l.map Ext.sector) := by have := HO.out; rw [pmap_all _ _ _ (by omega)] at this; exact this
      have HO2 := Lib.hid ho
      clear HO ho
      go_wp2_with fail
      refine (sort_any _ _ _ _ _ HO2.out (by rw [List.length_map]; omega)).mono ?_
      rintro e w1 ⟨rfl, ho, hb⟩
      have HO3 := Lib.hid ho
      have HB1 := Lib.hid (hb w HB.out (Nat.le_refl _))
      clear ho hb
      go_wp2_with fail
      refine (compact_any _ _ _ _ _ HO3.out (by rw [List.length_mergeSort, List.length_map]; omega) (compact_len _)).mono ?_
      rintro e w2 ⟨u, rfl, ho, hb⟩
      have HO4 := Lib.hid ho
      have HB2 := Lib.hid (hb w HB1.out (Nat.le_refl _))
      clear ho hb
      go_wp2
      go_ret
      exact ⟨_, rfl, HO4.out, HB2.out⟩
end Go.Proofs.YtddcjekkimajpaaGreat.ExtW

/- Contracts of overdubref14's Rise and Sectors. -/
namespace Go.Proofs.YtddcjekkimajpaaGreat.ExtW
open Go.RowKit Go.Ov Go.Proofs.YtddcjekkimajpaaGreat.Need

set_option maxRecDepth 100000 in
set_option maxHeartbeats 2000000 in
theorem rise_any (v : Value) (l : List Int) (n : Int) (w : World) (h : intE.Is w v l) (hn : l.length ≤ 1000000) :
    Calls Tryz.prog 61 #[v, .int .i64 n] w fun e w' => ∃ u, e = .returned u ∧ intE.Is w' u (riseM l n) ∧ Bl w w' := by
  obtain ⟨A, c, rfl, h1, h2, h3, h4⟩ := h
  have HI := Lib.hid (show intE.Is w (.slice A l.length c) l from ⟨A, c, rfl, h1, h2, h3, h4⟩)
  have HA := Lib.hid h4
  have HC := Lib.hid h1
  clear h1 h2 h3 h4
  go_enter Tryz.func61, Tryz.ntmps61
  go_wp2
  go_loopg [5] l.length (fun g i wr => ∃ (k : Nat), k ≤ l.length ∧ g = k ∧ i = .int .i64 k ∧ Hid (riseM l n = riseK l n k) ∧ wr = w)
  case atStart => exact ⟨l.length, Nat.le_refl _, rfl, rfl, Lib.hid rfl, rfl⟩
  case round =>
    obtain ⟨k, hk, hg, rfl, hv, rfl⟩ := hrel
    obtain rfl : k = gk := hg.symm
    clear hg
    have hsplit : (∃ k', k = k' + 1 ∧ ∃ h : k' < l.length, n ≤ l[k'] ∧ (l[k'] = n ∨ l[k'] ≠ n)) ∨ ((k = 0 ∨ ∃ k', k = k' + 1 ∧ ∃ h : k' < l.length, l[k'] < n)) := by
      cases k with
      | zero => exact .inr (.inl rfl)
      | succ k' =>
        have hk' : k' < l.length := by omega
        by_cases hle : n ≤ l[k']
        · exact .inl ⟨k', rfl, hk', hle, by omega⟩
        · exact .inr (.inr ⟨k', rfl, hk', by omega⟩)
    rcases hsplit with ⟨k', rfl, hk', hle, heq⟩ | hex
    · obtain ⟨ad, rfl, c0⟩ := int_at HA.out k' hk'
      have hd := Lib.hid (show riseK l n (k' + 1) = if l[k'] = n then l else riseK l n k' by simp [riseK, hk', hle])
      generalize l[k'] = x at *
      have hw : wrap64 (((k' + 1 : Nat) : Int) - 1) = k' := by rw [wrap_id (by omega) (by omega)]; omega
      have hw1 : (((k' + 1 : Nat) : Int) - 1).toNat = k' := by omega
      rcases heq with rfl | hne
      · go_wp2
        go_ret
        exact ⟨_, rfl, by rw [hv.out, hd.out, if_pos trivial]; exact HI.out, Bl.refl _⟩
      · go_wp2
        go_roundg k'
        case measure => omega
        case rel => exact ⟨k', by omega, rfl, by go_num, Lib.hid (by rw [hv.out, hd.out, if_neg hne]), rfl⟩
    · have HR := Lib.hid (show riseM l n = l.take k ++ n :: l.drop k by
        rw [hv.out]
        rcases hex with rfl | ⟨k', rfl, hk', hlt⟩
        · rfl
        · have e : l[k']?.getD 0 = l[k'] := by simp [hk']
          unfold riseK; rw [e, if_neg (by omega)])
      clear hv
      have hF := slice_full (E := intE) (P := Tryz.prog) (t := 23) (by kernel_rfl) (fun w => by kernel_rfl) A c l k hk HC.out
      obtain ⟨V2, hV2, hI2⟩ := slice_l (E := intE) (P := Tryz.prog) (t := 23) (by kernel_rfl) (fun w => by kernel_rfl) A c l (k : Int) (by omega) (by omega)
      have hFK : ∀ K : Int, K = k → ∀ w, (Instr.slice 23 (.slice A l.length c) none (some (.int .i64 K)) (some (.int .i64 K))).run Tryz.prog w = .ok (.slice A k k) w := fun K hK w => by rw [hK]; exact hF.1 w
      have hVK : ∀ K : Int, K = k → ∀ w, (Instr.slice 23 (.slice A l.length c) (some (.int .i64 K)) none none).run Tryz.prog w = .ok V2 w := fun K hK w => by rw [hK]; exact hV2 w
      have HF2 := Lib.hid hF.2
      have HI2 := Lib.hid hI2
      have HVK := Lib.hid hVK
      clear hI2 hV2 hVK
      have hkl : (l.take k).length = k := by rw [List.length_take]; omega
      have hdl : (l.drop k).length ≤ 1000000 := by rw [List.length_drop]; omega
      obtain ⟨X, hX⟩ : ∃ X, X = l.take k := ⟨_, rfl⟩
      obtain ⟨Y, hY⟩ : ∃ Y, Y = l.drop k := ⟨_, rfl⟩
      rw [← hX] at hkl
      rw [← hY] at hdl
      have HX := Lib.hid hX
      have HY := Lib.hid hY
      have hFK' : ∀ K : Int, K = k → ∀ w, (Instr.slice 23 (.slice A l.length c) none (some (.int .i64 K)) (some (.int .i64 K))).run Tryz.prog w = .ok (.slice A X.length k) w := fun K hK w => by rw [hkl]; exact hFK K hK w
      have HFK := Lib.hid hFK'
      have HKL := Lib.hid hkl
      clear hX hY hFK hFK' hF hkl
      rcases hex with rfl | ⟨k', rfl, hk', hlt⟩
      · have hV2 := HVK.out 0 rfl
        have hF1 := HFK.out 0 rfl
        go_wp2_with fail
        have HOwn := Lib.hid (show intE.Own 3 (wr.alloc (.cells #[.int .i64 n] 3)).drew wr.heap.size (.slice (some ⟨wr.heap.size, 0, none⟩) 1 1) [n] from (Enc.Own.lit (E := intE) wr wr.heap.size [n] #[.int .i64 n] rfl 1 rfl (Nat.le_refl _) (by decide) rfl).bl (Bl.refl _).drew)
        refine wp_region_ways (S := (fun _ => True)) [0, 1, 2, 3, 4, 6, 7, 8, 11] (y := .take 0 (.take 1 (.take 2 (.take 3 (.take 4 (.take 6 (.take 7 (.take 8 (.ev 5 (.ev 9 (.ev 10 (.take 11 (.done)) (.stop)) (.stop)) (.stop)))))))))) (by kernel_rfl) (by kernel_rfl) (by kernel_rfl) ?_ (fun hHeld => ?_)
        · trivial
        repeat (first | (refine wpWay_take rfl (by rfl) (by intro w hSw; (try dsimp only at hSw); first | (go_simp; done) | (go_simp; with_reducible rfl)) ?_; try simp only [Act.put, List.setIfInBounds_toArray, List.set_cons_zero, List.set_cons_succ]) | (refine wpWay_skip rfl (by rfl) ?_; try simp only [Act.put, List.setIfInBounds_toArray, List.set_cons_zero, List.set_cons_succ]))
        refine wpWay_ev rfl (fun K hK => ?_) wpWay_stop
        go_wp2_with fail
        (try refine ⟨trivial, ?_⟩)
        repeat (first | (refine wpWay_take rfl (by rfl) (by intro w hSw; (try dsimp only at hSw); first | (go_simp; done) | (go_simp; with_reducible rfl)) ?_; try simp only [Act.put, List.setIfInBounds_toArray, List.set_cons_zero, List.set_cons_succ]) | (refine wpWay_skip rfl (by rfl) ?_; try simp only [Act.put, List.setIfInBounds_toArray, List.set_cons_zero, List.set_cons_succ]))
        refine wpWay_ev rfl (fun K hK => ?_) wpWay_stop
        go_wp2_with (at_builtin; refine Enc.Own.append (E := intE) rfl (.tmp 34) (.tmp 37) 23 rfl wr.heap.size 3 (.int .i64 0) 1 8 Tryz.underlying23 infoInt rfl rfl (by decide) (by decide) _ [n] rfl HOwn.out V2 Y rfl (by rw [HY.out]; exact HI2.out _ (HI.out.bl ((Bl.refl _).alloc _).drew)) ?hlen ?hbase ?_; (case hlen => simp only [List.length_cons, List.length_nil]; omega); (case hbase => exact ((Bl.refl _).alloc _).drew.size); intro u1 w6 ho6 hg6)
        (try refine ⟨trivial, ?_⟩)
        repeat (first | (refine wpWay_take rfl (by rfl) (by intro w hSw; (try dsimp only at hSw); first | (go_simp; done) | (go_simp; with_reducible rfl)) ?_; try simp only [Act.put, List.setIfInBounds_toArray, List.set_cons_zero, List.set_cons_succ]) | (refine wpWay_skip rfl (by rfl) ?_; try simp only [Act.put, List.setIfInBounds_toArray, List.set_cons_zero, List.set_cons_succ]))
        have hb6 := (((Bl.refl wr).alloc (.cells #[.int .i64 n] 3)).drew).grown hg6 (fun k hk => (Enc.Own.lt HOwn.out k hk).1)
        refine wpWay_ev rfl (fun K hK => ?_) wpWay_stop
        go_wp2_with (at_builtin; refine Enc.appendFull (E := intE) rfl (.tmp 32) (.tmp 38) 23 rfl 3 (.int .i64 0) 1 8 Tryz.underlying23 infoInt rfl rfl (by decide) (by decide) _ X _ rfl HKL.out.symm (by have := HF2.out _ (HI.out.bl hb6); rw [← HX.out] at this; rw [HKL.out]; exact this) u1 ([n] ++ Y) rfl ho6.is (by simp) ?hlen ?_; (case hlen => have := HKL.out; simp only [List.length_append, List.length_cons, List.length_nil]; omega); intro u2 w7 ho7 hg7)
        (try refine ⟨trivial, ?_⟩)
        repeat (first | (refine wpWay_take rfl (by rfl) (by intro w hSw; (try dsimp only at hSw); first | (go_simp; done) | (go_simp; with_reducible rfl)) ?_; try simp only [Act.put, List.setIfInBounds_toArray, List.set_cons_zero, List.set_cons_succ]) | (refine wpWay_skip rfl (by rfl) ?_; try simp only [Act.put, List.setIfInBounds_toArray, List.set_cons_zero, List.set_cons_succ]))
        refine wpWay_done ?_
        go_wp2
        go_ret
        refine ⟨_, rfl, ?_, hb6.grown hg7 (fun k hk => by cases hk)⟩
        rw [HR.out, ← HX.out, ← HY.out]
        exact ho7.is
      · obtain ⟨ad, rfl, c0⟩ := int_at HA.out k' hk'
        have hV2 := HVK.out (k' + 1) (by omega)
        have hF1 := HFK.out (k' + 1) (by omega)
        go_wp2_with fail
        have HOwn := Lib.hid (show intE.Own 3 (wr.alloc (.cells #[.int .i64 n] 3)).drew wr.heap.size (.slice (some ⟨wr.heap.size, 0, none⟩) 1 1) [n] from (Enc.Own.lit (E := intE) wr wr.heap.size [n] #[.int .i64 n] rfl 1 rfl (Nat.le_refl _) (by decide) rfl).bl (Bl.refl _).drew)
        refine wp_region_ways (S := (fun _ => True)) [0, 1, 2, 3, 4, 6, 7, 8, 11] (y := .take 0 (.take 1 (.take 2 (.take 3 (.take 4 (.take 6 (.take 7 (.take 8 (.ev 5 (.ev 9 (.ev 10 (.take 11 (.done)) (.stop)) (.stop)) (.stop)))))))))) (by kernel_rfl) (by kernel_rfl) (by kernel_rfl) ?_ (fun hHeld => ?_)
        · trivial
        repeat (first | (refine wpWay_take rfl (by rfl) (by intro w hSw; (try dsimp only at hSw); first | (go_simp; done) | (go_simp; with_reducible rfl)) ?_; try simp only [Act.put, List.setIfInBounds_toArray, List.set_cons_zero, List.set_cons_succ]) | (refine wpWay_skip rfl (by rfl) ?_; try simp only [Act.put, List.setIfInBounds_toArray, List.set_cons_zero, List.set_cons_succ]))
        refine wpWay_ev rfl (fun K hK => ?_) wpWay_stop
        go_wp2_with fail
        (try refine ⟨trivial, ?_⟩)
        repeat (first | (refine wpWay_take rfl (by rfl) (by intro w hSw; (try dsimp only at hSw); first | (go_simp; done) | (go_simp; with_reducible rfl)) ?_; try simp only [Act.put, List.setIfInBounds_toArray, List.set_cons_zero, List.set_cons_succ]) | (refine wpWay_skip rfl (by rfl) ?_; try simp only [Act.put, List.setIfInBounds_toArray, List.set_cons_zero, List.set_cons_succ]))
        refine wpWay_ev rfl (fun K hK => ?_) wpWay_stop
        go_wp2_with (at_builtin; refine Enc.Own.append (E := intE) rfl (.tmp 34) (.tmp 37) 23 rfl wr.heap.size 3 (.int .i64 0) 1 8 Tryz.underlying23 infoInt rfl rfl (by decide) (by decide) _ [n] rfl HOwn.out V2 Y rfl (by rw [HY.out]; exact HI2.out _ (HI.out.bl ((Bl.refl _).alloc _).drew)) ?hlen ?hbase ?_; (case hlen => simp only [List.length_cons, List.length_nil]; omega); (case hbase => exact ((Bl.refl _).alloc _).drew.size); intro u1 w6 ho6 hg6)
        (try refine ⟨trivial, ?_⟩)
        repeat (first | (refine wpWay_take rfl (by rfl) (by intro w hSw; (try dsimp only at hSw); first | (go_simp; done) | (go_simp; with_reducible rfl)) ?_; try simp only [Act.put, List.setIfInBounds_toArray, List.set_cons_zero, List.set_cons_succ]) | (refine wpWay_skip rfl (by rfl) ?_; try simp only [Act.put, List.setIfInBounds_toArray, List.set_cons_zero, List.set_cons_succ]))
        have hb6 := (((Bl.refl wr).alloc (.cells #[.int .i64 n] 3)).drew).grown hg6 (fun k hk => (Enc.Own.lt HOwn.out k hk).1)
        refine wpWay_ev rfl (fun K hK => ?_) wpWay_stop
        go_wp2_with (at_builtin; refine Enc.appendFull (E := intE) rfl (.tmp 32) (.tmp 38) 23 rfl 3 (.int .i64 0) 1 8 Tryz.underlying23 infoInt rfl rfl (by decide) (by decide) _ X _ rfl HKL.out.symm (by have := HF2.out _ (HI.out.bl hb6); rw [← HX.out] at this; rw [HKL.out]; exact this) u1 ([n] ++ Y) rfl ho6.is (by simp) ?hlen ?_; (case hlen => have := HKL.out; simp only [List.length_append, List.length_cons, List.length_nil]; omega); intro u2 w7 ho7 hg7)
        (try refine ⟨trivial, ?_⟩)
        repeat (first | (refine wpWay_take rfl (by rfl) (by intro w hSw; (try dsimp only at hSw); first | (go_simp; done) | (go_simp; with_reducible rfl)) ?_; try simp only [Act.put, List.setIfInBounds_toArray, List.set_cons_zero, List.set_cons_succ]) | (refine wpWay_skip rfl (by rfl) ?_; try simp only [Act.put, List.setIfInBounds_toArray, List.set_cons_zero, List.set_cons_succ]))
        refine wpWay_done ?_
        go_wp2
        go_ret
        refine ⟨_, rfl, ?_, hb6.grown hg7 (fun k hk => by cases hk)⟩
        rw [HR.out, ← HX.out, ← HY.out]
        exact ho7.is

set_option maxRecDepth 100000 in
set_option maxHeartbeats 1000000 in
theorem rsectors_any (v : Value) (l : List Ext) (w : World) (h : extE.Is w v l) (hn : l.length ≤ 100000) :
    Calls Tryz.prog 60 #[v] w fun e w' => ∃ u, e = .returned u ∧ intE.Is w' u (sortedM (l.map Ext.sector)) ∧ Bl w w' := by
  obtain ⟨A, c, rfl, h1, h2, h3, h4⟩ := h
  have HA := Lib.hid h4
  have hu := Tryz.underlying81
  clear h1 h2 h3 h4
  go_enter Tryz.func60, Tryz.ntmps60
  go_wp2
  go_loopg [3, 7] l.length (fun g s i wr => ∃ (k : Nat), k ≤ l.length ∧ g = l.length - k ∧ i = .int .i64 k ∧ Hid (intE.Is wr s (((l.take k).map Ext.sector).foldl riseM [])) ∧ Bl w wr)
  case atStart => exact ⟨0, by omega, rfl, rfl, Lib.hid (Enc.Is.nil _), Bl.refl _⟩
  case round =>
    obtain ⟨k, hk, rfl, rfl, HO, hbl⟩ := hrel
    have HB := Lib.hid hbl
    clear hbl
    by_cases hlt : k < l.length
    · obtain ⟨ad, rfl, c0, c1, c2, c3, c4⟩ := ext_at (HA.out.bl HB.out) k hlt
      have hst := Lib.hid (show ((l.take (k + 1)).map Ext.sector).foldl riseM [] = riseM (((l.take k).map Ext.sector).foldl riseM []) l[k].sector by
        rw [List.take_succ_eq_append_getElem hlt, List.map_append, List.foldl_append]; rfl)
      have hlen := (rises_spec ((l.take k).map Ext.sector) [] (by simp)).2.2
      rw [List.length_map, List.length_take] at hlen
      generalize ((l.take k).map Ext.sector).foldl riseM [] = xs at *
      generalize l[k] = x at *
      obtain ⟨x0, x1, x2, x3, x4⟩ := x
      dsimp only at c0 c1 c2 c3 c4
      have HLEN := Lib.hid hlen
      clear hlen
      go_wp2_with fail
      refine (rise_any _ _ _ _ HO.out (by have := HLEN.out; simp only [List.length_nil] at this; omega)).mono ?_
      rintro e w1 ⟨u, rfl, ho, hb⟩
      have HO2 := Lib.hid ho
      have HB2 := Lib.hid (HB.out.bl hb)
      clear ho hb
      go_wp2
      go_roundg (l.length - (k + 1))
      case measure => omega
      case rel => exact ⟨k + 1, by omega, rfl, by go_num, Lib.hid (by rw [hst.out]; exact HO2.out), HB2.out⟩
    · go_wp2
      go_ret
      refine ⟨_, rfl, ?_, HB.out⟩
      have := HO.out
      rw [List.take_of_length_le (by omega)] at this
      rw [← rises_sorted]; exact this
end Go.Proofs.YtddcjekkimajpaaGreat.ExtW

/- Contracts of state.Sectors and of ref20's Lines.Sectors. -/
namespace Go.Ov
open Go.RowKit
def secO (s : LnM) : List Int := s.flatMap fun t => t.2.map Ext.sector
theorem sortedM_nil : sortedM [] = [] := List.eq_nil_of_length_eq_zero (by have := sortedM_len []; simpa using this)
theorem sorted_fold (a l : List Int) : (sortedM l).foldl riseM (sortedM a) = sortedM (a ++ l) := by
  obtain ⟨h1, h2⟩ := sortedM_spec a
  obtain ⟨g1, g2⟩ := sortedM_spec l
  obtain ⟨k1, k2⟩ := sortedM_spec (a ++ l)
  obtain ⟨r1, r2, _⟩ := rises_spec (sortedM l) (sortedM a) h1
  exact strict_ext _ _ r1 k1 fun x => by rw [r2, k2, h2, g2]; simp
theorem fold_len (l a : List Int) (ha : a.Pairwise (· < ·)) (k : Nat) : ((l.take k).foldl riseM a).length ≤ a.length + l.length := by
  have := (rises_spec (l.take k) a ha).2.2
  rw [List.length_take] at this
  omega
theorem secO_take (s : LnM) (k : Nat) (h : k < s.length) : secO (s.take (k + 1)) = secO (s.take k) ++ s[k].2.map Ext.sector := by
  unfold secO
  rw [List.take_succ_eq_append_getElem h, List.flatMap_append]; simp
theorem secO_len_take (s : LnM) (k : Nat) : (secO (s.take k)).length ≤ (secO s).length := by
  have : secO s = secO (s.take k) ++ secO (s.drop k) := by unfold secO; rw [← List.flatMap_append, List.take_append_drop]
  rw [this, List.length_append]; omega
theorem secO_row (s : LnM) (k : Nat) (h : k < s.length) : s[k].2.length ≤ (secO s).length := by
  have h1 := secO_take s k h
  have h2 := secO_len_take s (k + 1)
  rw [h1, List.length_append, List.length_map] at h2; omega
end Go.Ov
namespace Go.Proofs.YtddcjekkimajpaaGreat.ExtW
open Go.RowKit Go.Ov Go.Proofs.YtddcjekkimajpaaGreat.Need

set_option maxRecDepth 100000 in
set_option maxHeartbeats 1000000 in
theorem lsectors_any (v : Value) (s : LnM) (w : World) (h : LnIs w v s) (hn : s.length ≤ 1000) (hm : (secO s).length ≤ 100000) :
    Calls Tryz.prog 36 #[v] w fun e w' => ∃ u, e = .returned u ∧ intE.Is w' u (sortedM (secO s)) ∧ Bl w w' := by
  obtain ⟨hs, ⟨A, c, rfl, _, q1, _, hA⟩, hrows⟩ := h
  have HA := Lib.hid hA
  have HR := Lib.hid hrows
  have HL := Lib.hid hrows.1
  have hl : hs.length ≤ 1000 := by rw [hrows.1]; exact hn
  clear hA q1 hrows
  go_enter Tryz.func36, Tryz.ntmps36
  go_wp2_with fail
  go_loopg [9, 3, 4, 5, 6, 18, 19, 20, 21, 22, 23, 24, 25, 26, 27, 28, 29] hs.length (fun g i v3 v4 v5 v6 v18 v19 v20 v21 v22 v23 v24 v25 v26 v27 v28 v29 wr => ∃ k : Nat, k ≤ hs.length ∧ g = hs.length - k ∧ i = .int .i64 k ∧ Hid (intE.Is wr v3 (sortedM (secO (s.take k)))) ∧ Hid (Bl w wr))
  case atStart => exact ⟨0, by omega, rfl, rfl, Lib.hid (by rw [show sortedM (secO (s.take 0)) = [] from sortedM_nil]; exact Enc.Is.nil _), Lib.hid (Bl.refl _)⟩
  case round =>
    obtain ⟨k, hk, rfl, rfl, HO, HB⟩ := hrel
    by_cases hlt : k < hs.length
    · have hlt2 : k < s.length := by have := HL.out; omega
      obtain ⟨ad, rfl, _, c1⟩ := row_at (HA.out.bl HB.out) k hlt
      obtain ⟨_, hR⟩ := HR.out.at k hlt2
      have HX := Lib.hid (hR.2.bl HB.out)
      have hrl := secO_row s k hlt2
      have HT := Lib.hid (secO_take s k hlt2)
      have hal := secO_len_take s k
      clear hR
      generalize s[k].2 = row at *
      generalize hs[k].h = hh at *
      go_wp2_with fail
      refine (rsectors_any _ row _ HX.out (by omega)).mono ?_
      rintro e w1 ⟨u, rfl, ho, hb⟩
      obtain ⟨A5, c5, rfl, _⟩ := id ho
      have HU := Lib.hid ho
      have HB1 := Lib.hid (HB.out.bl hb)
      have HO1 := Lib.hid (HO.out.bl hb)
      have hsl := sortedM_len (row.map Ext.sector)
      rw [List.length_map] at hsl
      have HS := Lib.hid (sortedM_spec (secO (s.take k))).1
      have hsl2 := sortedM_len (secO (s.take k))
      obtain ⟨R, hRe⟩ : ∃ R, R = sortedM (row.map Ext.sector) := ⟨_, rfl⟩
      obtain ⟨a, hae⟩ : ∃ a, a = sortedM (secO (s.take k)) := ⟨_, rfl⟩
      rw [← hRe] at HU hsl
      rw [← hRe]
      rw [← hae] at HO1 HS hsl2
      have HRe := Lib.hid hRe
      have Hae := Lib.hid hae
      clear ho hb hRe hae HO
      go_wp2_with fail
      go_loopg [20, 3, 6] R.length (fun g i v3 v6 wr => ∃ j : Nat, j ≤ R.length ∧ g = R.length - j ∧ i = .int .i64 j ∧ Hid (intE.Is wr v3 ((R.take j).foldl riseM a)) ∧ Hid (Bl w1 wr))
      case atStart => exact ⟨0, by omega, rfl, rfl, HO1, Lib.hid (Bl.refl _)⟩
      case round =>
        obtain ⟨j, hj, rfl, rfl, HO2, HB2⟩ := hrel
        by_cases hltj : j < R.length
        · obtain ⟨_, _, e5, _, _, _, hat⟩ := HU.out
          simp at e5
          obtain ⟨rfl, e6⟩ := e5
          clear e6
          obtain ⟨ad5, rfl, d5⟩ := int_at (hat.bl HB2.out) j hltj
          have HF := Lib.hid (List.take_succ_eq_append_getElem hltj)
          have hfl := fold_len R a HS.out j
          generalize R[j] = x at *
          obtain ⟨A3, c3, rfl, _⟩ := id HO2.out
          clear hat
          go_wp2_with fail
          refine (rise_any _ _ x _ HO2.out (by omega)).mono ?_
          rintro e w3 ⟨u3, rfl, h3, hb⟩
          have HB3 := Lib.hid (HB2.out.bl hb)
          have H3 := Lib.hid (show intE.Is w3 u3 ((R.take (j + 1)).foldl riseM a) by rw [HF.out, List.foldl_append]; exact h3)
          clear h3 hb
          go_wp2_with fail
          go_roundg (R.length - (j + 1))
          case measure => omega
          case rel => exact ⟨j + 1, by omega, rfl, by go_num, H3, HB3⟩
        · have HE := Lib.hid (show intE.Is wr _ (sortedM (secO (s.take (k + 1)))) by
            have := HO2.out
            rw [List.take_of_length_le (by omega), HRe.out, Hae.out, sorted_fold, ← HT.out] at this
            exact this)
          go_wp2_with fail
          go_roundg (hs.length - (k + 1))
          case measure => omega
          case rel => exact ⟨k + 1, by omega, rfl, by go_num, HE, Lib.hid (HB1.out.bl HB2.out)⟩
    · have HE := Lib.hid (show intE.Is wr _ (sortedM (secO s)) by
        have := HO.out
        rw [List.take_of_length_le (by have := HL.out; omega)] at this
        exact this)
      go_wp2_with fail
      go_ret
      exact ⟨_, rfl, HE.out, HB.out⟩

def allOf (s : StM) : List Ext := s.flatMap fun t => t.2.row
theorem allOf_take (s : StM) (k : Nat) (h : k < s.length) : allOf (s.take (k + 1)) = allOf (s.take k) ++ s[k].2.row := by
  unfold allOf; rw [List.take_succ_eq_append_getElem h, List.flatMap_append]; simp
theorem allOf_len_take (s : StM) (k : Nat) : (allOf (s.take k)).length ≤ (allOf s).length := by
  have : allOf s = allOf (s.take k) ++ allOf (s.drop k) := by unfold allOf; rw [← List.flatMap_append, List.take_append_drop]
  rw [this, List.length_append]; omega
theorem allOf_row (s : StM) (k : Nat) (h : k < s.length) : (allOf (s.take k)).length + s[k].2.row.length ≤ (allOf s).length := by
  have h1 := allOf_take s k h
  have h2 := allOf_len_take s (k + 1)
  rw [h1, List.length_append] at h2; exact h2
theorem allOf_sec (s : StM) : (allOf s).map Ext.sector = secO (rowsOf s) := by
  unfold allOf secO rowsOf
  rw [List.map_flatMap, List.flatMap_map]

set_option maxRecDepth 100000 in
set_option maxHeartbeats 1000000 in
theorem ssectors_any (v : Value) (s : StM) (w : World) (h : StateIs w v s) (hn : s.length ≤ 1000) (hm : (allOf s).length ≤ 100000) :
    Calls Tryz.prog 10 #[v] w fun e w' => ∃ u, e = .returned u ∧ intE.Is w' u (sortedM (secO (rowsOf s))) ∧ Bl w w' := by
  obtain ⟨b, u, hs, rfl, c0, h1, h2⟩ := h
  obtain ⟨A, c, e0, q1, q2, _, hat⟩ := h1
  rw [e0] at c0
  have HA := Lib.hid hat
  have HR := Lib.hid h2
  have HL := Lib.hid h2.1
  have hl : hs.length ≤ 1000 := by rw [h2.1]; exact hn
  have hu := Tryz.underlying63
  have hu2 := Tryz.underlying66
  clear hat h2 e0 q1 q2
  go_enter Tryz.func10, Tryz.ntmps10
  go_wp2_with fail
  go_loopg [11, 3, 5, 13, 14, 15, 16, 17, 18, 19] hs.length (fun g i v3 v5 v13 v14 v15 v16 v17 v18 v19 wr => ∃ k : Nat, k ≤ hs.length ∧ g = hs.length - k ∧ i = .int .i64 k ∧ Hid (extE.Own 81 wr w.heap.size v3 (allOf (s.take k))) ∧ Hid (Bl w wr))
  case atStart => exact ⟨0, by omega, rfl, rfl, Lib.hid (Enc.Own.nil _ _ _), Lib.hid (Bl.refl _)⟩
  case round =>
    obtain ⟨k, hk, rfl, rfl, HO, HB⟩ := hrel
    by_cases hlt : k < hs.length
    · have hlt2 : k < s.length := by have := HL.out; omega
      obtain ⟨ad, rfl, k0, k1⟩ := track_at (HA.out.bl HB.out) k hlt
      obtain ⟨_, hR⟩ := HR.out.at k hlt2
      have HT := Lib.hid (hR.2.bl HB.out)
      have hrl := allOf_row s k hlt2
      have HS := Lib.hid (allOf_take s k hlt2)
      clear hR
      generalize s[k].2 = t at *
      generalize hs[k] = th at *
      obtain ⟨tid, tb⟩ := th
      dsimp only at k0 k1 HT
      obtain ⟨A3, c3, rfl⟩ := HO.out.slice
      go_wp2_with fail
      refine (tall_any _ t _ (HT.out.bl ((Bl.refl _).alloc _)) (by omega)).mono ?_
      rintro e w1 ⟨u, rfl, ho, hb⟩
      have HU := Lib.hid ho.is
      have HB1 := Lib.hid ((HB.out.alloc _).bl hb)
      have HO1 := Lib.hid (HO.out.bl (((Bl.refl wr).alloc _).bl hb))
      obtain ⟨A5, c5, rfl⟩ := ho.slice
      clear ho hb HO
      go_wp2_with (at_builtin; refine Enc.Own.append (E := extE) rfl (.tmp 15) (.tmp 18) 44 rfl w.heap.size 81 (.agg #[.int .i64 0, .int .i64 0, .int .i64 0, .int .i64 0, .int .i64 0]) 5 40 Tryz.underlying44 infoExt rfl rfl (by decide) (by decide) _ _ rfl HO1.out _ _ rfl HU.out ?hlen ?hbase ?_; (case hlen => omega); (case hbase => exact HB1.out.size); intro v1 w4 ho hg)
      have HB4 := Lib.hid (HB1.out.grown hg (fun k hk => (Enc.Own.lt HO1.out k hk).1))
      have HO4 := Lib.hid (show extE.Own 81 w4 w.heap.size v1 (allOf (s.take (k + 1))) by rw [HS.out]; exact ho)
      clear ho hg
      go_wp2_with fail
      go_roundg (hs.length - (k + 1))
      case measure => omega
      case rel => exact ⟨k + 1, by omega, rfl, by go_num, HO4, HB4⟩
    · go_wp2_with fail
      refine (sectors_any _ (allOf s) _ (by have := HO.out.is; rw [List.take_of_length_le (by have := HL.out; omega)] at this; exact this) (by omega)).mono ?_
      rintro e w1 ⟨u, rfl, ho, hb⟩
      have HU := Lib.hid ho.is
      obtain ⟨A5, c5, rfl⟩ := ho.slice
      clear ho
      go_wp2_with fail
      go_ret
      exact ⟨_, rfl, by rw [← allOf_sec]; exact HU.out, HB.out.bl hb⟩
end Go.Proofs.YtddcjekkimajpaaGreat.ExtW

/- Contract of ref20.Same. -/
namespace Go.Proofs.YtddcjekkimajpaaGreat.ExtW
open Go.RowKit Go.Ov Go.Proofs.YtddcjekkimajpaaGreat.Need

set_option maxRecDepth 100000 in
set_option maxHeartbeats 4000000 in
theorem lsame_any (v v' : Value) (s s' : LnM) (w : World) (h : LnIs w v s) (h' : LnIs w v' s') (hn : s.length ≤ 1000) (hn' : s'.length ≤ 1000) :
    Calls Tryz.prog 51 #[v, v'] w fun e w' => e = .returned (.bool (decide (s = s'))) ∧ Bl w w' := by
  obtain ⟨hs, ⟨A, c, rfl, _, q1, _, hA⟩, hr⟩ := h
  obtain ⟨hs', ⟨A', c', rfl, _, q1', _, hA'⟩, hr'⟩ := h'
  have HA := Lib.hid hA
  have HA' := Lib.hid hA'
  have HR := Lib.hid hr
  have HR' := Lib.hid hr'
  have HL := Lib.hid hr.1
  have HL' := Lib.hid hr'.1
  have hl : hs.length ≤ 1000 := by rw [hr.1]; exact hn
  have hl' : hs'.length ≤ 1000 := by rw [hr'.1]; exact hn'
  have hu := Tryz.underlying81
  clear hA hA' hr hr' q1 q1'
  by_cases hlen : hs.length = hs'.length
  · have HE := Lib.hid hlen
    have hb1 : ((hs.length : Int) == (hs'.length : Int)) = true := by rw [hlen]; simp
    have hb2 : ((hs.length : Int) != (hs'.length : Int)) = false := by rw [hlen]; simp
    clear hlen
    go_enter Tryz.func51, Tryz.ntmps51
    go_wp2_with fail
    go_loopg [14, 5, 6, 43, 44, 45, 46, 47, 48, 49, 50, 51] hs.length (fun g i v5 v6 v43 v44 v45 v46 v47 v48 v49 v50 v51 wr => ∃ k : Nat, k ≤ hs.length ∧ g = hs.length - k ∧ i = .int .i64 k ∧ Hid (s.take k = s'.take k) ∧ Hid (Bl w wr))
    case atStart => exact ⟨0, by omega, rfl, rfl, Lib.hid rfl, Lib.hid (Bl.refl _)⟩
    case round =>
      obtain ⟨k, hk, rfl, rfl, HQ, HB⟩ := hrel
      by_cases hlt : k < hs.length
      · have hltR : k < s.length := by have := HL.out; omega
        have hlt' : k < hs'.length := by have := HE.out; omega
        have hltR' : k < s'.length := by have := HL'.out; omega
        have hki : (k : Int) < hs'.length := by omega
        have hki1 : (k : Int) < hs.length := by omega
        obtain ⟨ad, rfl, c0, c1⟩ := row_at (HA.out.bl HB.out) k hlt
        obtain ⟨ad', rfl, c0', c1'⟩ := row_at (HA'.out.bl HB.out) k hlt'
        obtain ⟨_, hR⟩ := HR.out.at k hltR
        obtain ⟨_, hR'⟩ := HR'.out.at k hltR'
        rw [hR.1] at c0
        rw [hR'.1] at c0'
        have HX := Lib.hid (hR.2.bl HB.out)
        have HX' := Lib.hid (hR'.2.bl HB.out)
        have ta := Lib.hid (List.take_succ_eq_append_getElem hltR)
        have tb := Lib.hid (List.take_succ_eq_append_getElem hltR')
        have hne := Lib.hid (fun h : s = s' => show s[k] = s'[k] by simp [h])
        clear hR hR'
        generalize s[k] = t at *
        generalize s'[k] = t' at *
        generalize hs[k].h = hh at *
        generalize hs'[k].h = hh' at *
        obtain ⟨ti, row⟩ := t
        obtain ⟨ti', row'⟩ := t'
        obtain ⟨b1, bn, bc⟩ := hh
        obtain ⟨b1', bn', bc'⟩ := hh'
        dsimp only at HX HX'
        obtain ⟨_, _, e, _, z2, _, at1⟩ := id HX.out
        obtain ⟨_, _, e', _, z2', _, at1'⟩ := id HX'.out
        simp only [Head.v, Value.slice.injEq] at e e'
        obtain ⟨rfl, rfl, rfl⟩ := e
        obtain ⟨rfl, rfl, rfl⟩ := e'
        unfold maxLen at z2 z2'
        have hz : row.length ≤ 9223372036854775807 := by omega
        have hz' : row'.length ≤ 9223372036854775807 := by omega
        have HX1 := Lib.hid at1
        have HX2 := Lib.hid at1'
        dsimp only at c0 c1 c0' c1'
        clear at1 at1' z2 z2'
        by_cases hid : ti = ti'
        · subst hid
          by_cases hrl : row.length = row'.length
          · have b1e : ((row.length : Int) == (row'.length : Int)) = true := by rw [hrl]; simp
            have b2e : ((row.length : Int) != (row'.length : Int)) = false := by rw [hrl]; simp
            have HRL := Lib.hid hrl
            clear hrl
            go_wp2_with fail
            go_quiet (fail)
            have HB2 := Lib.hid (HB.out.drewN nq)
            clear b1e b2e
            go_wp2_with fail
            have C1 := Lib.hid ((Bl.refl wr).drewN nq |>.cell c1)
            have C1' := Lib.hid ((Bl.refl wr).drewN nq |>.cell c1')
            have X1 := Lib.hid (HX1.out.bl ((Bl.refl wr).drewN nq))
            have X2 := Lib.hid (HX2.out.bl ((Bl.refl wr).drewN nq))
            clear c0 c1 c0' c1' HX HX' HX1 HX2 HB
            obtain ⟨wo, hwo⟩ : ∃ wo : World, wo = wr.drewN nq := ⟨_, rfl⟩
            rw [← hwo] at C1 C1' X1 X2 HB2
            rw [← hwo]
            clear hwo
            go_loopg [49, 6] row.length (fun g i v6 wr => ∃ j : Nat, j ≤ row.length ∧ g = row.length - j ∧ i = .int .i64 j ∧ Hid (row.take j = row'.take j) ∧ Hid (Bl wo wr))
            case atStart => exact ⟨0, by omega, rfl, rfl, Lib.hid rfl, Lib.hid (Bl.refl _)⟩
            case round =>
              obtain ⟨j, hj, rfl, rfl, HJ, HC⟩ := hrel
              by_cases hltj : j < row.length
              · have hltj' : j < row'.length := by have := HRL.out; omega
                have hji : (j : Int) < row.length := by omega
                have hji' : (j : Int) < row'.length := by omega
                obtain ⟨ae, rfl, e0, e1, e2, e3, e4⟩ := ext_at (X1.out.bl HC.out) j hltj
                obtain ⟨ae', rfl, f0, f1, f2, f3, f4⟩ := ext_at (X2.out.bl HC.out) j hltj'
                have g1 := HC.out.cell C1.out
                have g2 := HC.out.cell C1'.out
                have ta2 := Lib.hid (List.take_succ_eq_append_getElem hltj)
                have tb2 := Lib.hid (List.take_succ_eq_append_getElem hltj')
                have hne2 := Lib.hid (fun h : row = row' => show row[j]'hltj = row'[j]'hltj' by simp [h])
                generalize row[j] = x at *
                generalize row'[j] = y at *
                obtain ⟨x0, x1, x2, x3, x4⟩ := x
                obtain ⟨y0, y1, y2, y3, y4⟩ := y
                dsimp only at e0 e1 e2 e3 e4 f0 f1 f2 f3 f4
                have hqq := eq_ext x0 x1 x2 x3 x4 y0 y1 y2 y3 y4
                go_wp2_with fail
                go_quiet (fail)
                clear hqq
                cases hq : eqE ⟨x0, x1, x2, x3, x4⟩ ⟨y0, y1, y2, y3, y4⟩
                · have hd := Lib.hid (show decide (s = s') = false by
                    rw [decide_eq_false_iff_not]; intro h; have := hne.out h; injection this with _ h2; have := hne2.out h2; unfold eqE at hq; simp [this] at hq)
                  clear hq
                  go_wp2
                  go_ret
                  exact ⟨ret_bool hd.out.symm, (HB2.out.bl HC.out).drewN _⟩
                · have HQ2 := Lib.hid hq
                  clear hq
                  go_wp2
                  go_roundg (row.length - (j + 1))
                  case measure => omega
                  case rel =>
                    refine ⟨j + 1, by omega, rfl, by go_num, Lib.hid ?_, Lib.hid (HC.out.drewN _)⟩
                    have := HQ2.out
                    unfold eqE at this
                    rw [ta2.out, tb2.out, HJ.out, of_decide_eq_true this]
              · have hrr := Lib.hid (show row = row' by
                  have := HJ.out
                  rw [List.take_of_length_le (by omega), List.take_of_length_le (by have := HRL.out; omega)] at this
                  exact this)
                go_wp2_with fail
                go_roundg (hs.length - (k + 1))
                case measure => omega
                case rel => exact ⟨k + 1, by omega, rfl, by go_num, Lib.hid (by rw [ta.out, tb.out, HQ.out, hrr.out]), Lib.hid (HB2.out.bl HC.out)⟩
          · have b1e : ((row.length : Int) == (row'.length : Int)) = false := by rw [beq_eq_false_iff_ne]; omega
            have b2e : ((row.length : Int) != (row'.length : Int)) = true := by rw [bne_iff_ne]; omega
            have hd := Lib.hid (show decide (s = s') = false by rw [decide_eq_false_iff_not]; intro h; have := hne.out h; injection this with _ h2; exact hrl (by rw [h2]))
            clear hrl
            go_wp2_with fail
            go_quiet (fail)
            clear b1e b2e
            go_wp2_with fail
            go_ret
            exact ⟨ret_bool hd.out.symm, HB.out.drewN _⟩
        · have i1 : (ti == ti') = false := by simpa using hid
          have i2 : (ti != ti') = true := by simpa using hid
          have hd := Lib.hid (show decide (s = s') = false by rw [decide_eq_false_iff_not]; intro h; have := hne.out h; injection this with h1 _; exact hid h1)
          clear hid
          go_wp2_with fail
          go_quiet (fail)
          clear i1 i2
          go_wp2_with fail
          go_ret
          exact ⟨ret_bool hd.out.symm, HB.out.drewN _⟩
      · have hd := Lib.hid (show decide (s = s') = true by
          rw [decide_eq_true_eq]
          have := HQ.out
          rw [List.take_of_length_le (by have := HL.out; omega), List.take_of_length_le (by have := HL'.out; have := HE.out; omega)] at this
          exact this)
        go_wp2_with fail
        go_ret
        exact ⟨ret_bool hd.out.symm, HB.out⟩
  · have hd := Lib.hid (show decide (s = s') = false by rw [decide_eq_false_iff_not]; intro h; exact hlen (by rw [HL.out, HL'.out, h]))
    have hb1 : ((hs.length : Int) == (hs'.length : Int)) = false := by rw [beq_eq_false_iff_ne]; omega
    have hb2 : ((hs.length : Int) != (hs'.length : Int)) = true := by rw [bne_iff_ne]; omega
    clear hlen
    go_enter Tryz.func51, Tryz.ntmps51
    go_wp2_with fail
    go_ret
    exact ⟨ret_bool hd.out.symm, Bl.refl _⟩
end Go.Proofs.YtddcjekkimajpaaGreat.ExtW
