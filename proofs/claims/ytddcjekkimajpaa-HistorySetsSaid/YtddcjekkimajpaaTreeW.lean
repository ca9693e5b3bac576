/- Contracts of package tree: fresh, cut, first, empty, count. -/
import Derived.Test.YtddcjekkimajpaaTreeP
import Derived.Test.YtddcjekkimajpaaExtW
import Derived.Test.YtddcjekkimajpaaRecP
import Derived.Test.YtddcjekkimajpaaLib3
import Derived.Test.YtddcjekkimajpaaCanon
import Derived.IntWalk
namespace Go.Proofs.Ytddcjekkimajpaa.ExtW
open Go.RowKit Go.Ov Go.Proofs.Ytddcjekkimajpaa.Need

set_option maxHeartbeats 1000000 in
theorem tfresh_any (v : Value) (l : List Ext) (w : World) (h : extE.Is w v l) (hn : l.length * 40 ≤ 140737488355328) :
    Calls Try.prog 44 #[v] w fun e w' => ∃ u, e = .returned u ∧ extE.Own 38 w' w.heap.size u l ∧ Bl w w' := by
  have HH := Lib.hid h
  clear h
  go_enter Try.func44, Try.ntmps44
  go_wp2_with (at_builtin; refine Enc.Own.append (E := extE) rfl (.const (.slice none 0 0)) (.tmp 3) 31 rfl w.heap.size 38 (.agg #[.int .i64 0, .int .i64 0, .int .i64 0, .int .i64 0, .int .i64 0]) 5 40 Try.underlying31 infoExt rfl rfl (by decide) (by decide) (.slice none 0 0) [] rfl (Enc.Own.nil _ _ _) v l rfl HH.out ?hlen (Nat.le_refl _) ?_; (case hlen => simpa using hn); intro v1 w1 ho hg)
  go_ret
  exact ⟨_, rfl, ho, (Bl.refl _).grown hg (fun k hk => by simp [Value.ownBlock] at hk)⟩

theorem Enc.Own.store1 {T : TypeId} {w : World} {base g n cap : Nat} {xs : List Int} (h : intE.Own T w base (.slice (some ⟨g, 0, none⟩) n cap) xs) (j : Nat) (y : Int) :
    intE.Own T (w.setCell ⟨g, j, none⟩ (.int .i64 y)) base (.slice (some ⟨g, 0, none⟩) n cap) (xs.set j y) := by
  have hn : n = xs.length := by
    obtain ⟨A, c, e, _⟩ := h.is
    simp at e; exact e.2.1
  subst hn
  have h1 := (World.ownsRow.stored (n := xs.length) h j (.int .i64 y)).1
  have e : (xs.flatMap intE.c).set j (.int .i64 y) = (xs.set j y).flatMap intE.c := by
    have : ∀ (l : List Int) (j : Nat), (l.flatMap intE.c).set j (.int .i64 y) = (l.set j y).flatMap intE.c := by
      intro l
      induction l with
      | nil => intro j; rfl
      | cons x l ih =>
        intro j
        cases j with
        | zero => rfl
        | succ j => rw [List.set_cons_succ, List.flatMap_cons, List.flatMap_cons, ← ih j]; rfl
    exact this xs j
  rw [e] at h1
  unfold Enc.Own
  rw [List.length_set]; exact h1
theorem Enc.Own.cells1 {T : TypeId} {w : World} {base g n cap : Nat} {xs : List Int} (h : intE.Own T w base (.slice (some ⟨g, 0, none⟩) n cap) xs) (j : Nat) (y : Int) (hj : xs[j]? = some y) :
    w.cell? ⟨g, j, none⟩ = some (.int .i64 y) ∧ w.frozen? ⟨g, j, none⟩ = false := by
  have hn : n = xs.length := by
    obtain ⟨A, c, e, _⟩ := h.is
    simp at e; exact e.2.1
  subst hn
  have hl : j < xs.length := (List.getElem?_eq_some_iff.1 hj).1
  refine ⟨?_, World.ownsRow.frozenAt h j⟩
  rw [World.ownsRow.cellAt h j (by show j < xs.length * 1; omega)]
  have := flat_get intE xs j y hj 0 _ rfl
  rw [show intE.sz = 1 from rfl, Nat.mul_one, Nat.add_zero] at this
  exact this

theorem infoIntT : (Try.prog.info? 3).map (fun i => (i.zero, i.size, i.bytes)) = some (some (.int .i64 0), 1, 8) := by kernel_rfl

def szI (n i : Nat) : Int := sizeM n (grp n) i
def szs (n k : Nat) : List Int := (List.range k).map (szI n)
theorem szs_succ (n k : Nat) : szs n (k + 1) = szs n k ++ [szI n k] := by simp [szs, List.range_succ]
theorem szs_len (n k : Nat) : (szs n k).length = k := by simp [szs]

set_option maxRecDepth 100000 in
set_option maxHeartbeats 1000000 in
theorem tcut_any (n : Nat) (w : World) (hn : n ≤ 1000000) :
    Calls Try.prog 74 #[.int .i64 n, .int .i64 8] w fun e w' => ∃ u, e = .returned u ∧ intE.Own 3 w' w.heap.size u (szs n (grp n)) ∧ Bl w w' := by
  have eg : ((n : Int) + 8 - 1) / 8 = grp n := by unfold grp; omega
  have hg : grp n ≤ 1000000 := by unfold grp; omega
  go_enter Try.func74, Try.ntmps74
  go_wp2
  rw [eg]
  have hgn : grp n = 0 → n = 0 := by unfold grp; omega
  go_loopg [6, 15] (grp n) (fun gk v i wr => ∃ k : Nat, k ≤ grp n ∧ gk = grp n - k ∧ i = .int .i64 k ∧ Hid (intE.Own 3 wr w.heap.size v (szs n k)) ∧ Hid (Bl w wr))
  case atStart => exact ⟨0, by omega, rfl, rfl, Lib.hid (Enc.Own.nil _ _ _), Lib.hid (Bl.refl _)⟩
  case round =>
    obtain ⟨k, hk, rfl, rfl, HO, HB⟩ := hrel
    by_cases hlt : k < grp n
    · have hss := Lib.hid (szs_succ n k)
      have hsl := Lib.hid (szs_len n k)
      have hsz := Lib.hid (show szI n k = ((n / grp n : Nat) : Int) + (if k < n % grp n then 1 else 0 : Nat) by unfold szI sizeM; push_cast; rfl)
      generalize hG : grp n = G at *
      have hG0 : (0 : Int) < G := by omega
      generalize szs n k = xs at *
      have hdiv : (n : Int) / (G : Int) = ((n / G : Nat) : Int) := by push_cast; rfl
      have hmod : (n : Int) % (G : Int) = ((n % G : Nat) : Int) := by push_cast; rfl
      have hdl : n / G ≤ n := Nat.div_le_self _ _
      generalize n / G = D at *
      generalize n % G = M at *
      have hGne : ¬ (G : Int) = 0 := by omega
      go_upto_if 28 with (at_builtin; refine Enc.Own.append1 (E := intE) rfl (.tmp 18) (.tmp 22) 22 rfl w.heap.size 3 (.int .i64 0) 1 8 Try.underlying22 infoIntT rfl rfl (by decide) (by decide) u6 xs rfl HO.out (D : Int) _ rfl rfl rfl ?hlen ?hbase ?_; (case hlen => have := hsl.out; omega); (case hbase => exact HB.out.size); intro v1 w1 ho hg)
      have HB1 := Lib.hid ((HB.out.alloc _).grown hg (fun k hk => (Enc.Own.lt HO.out k hk).1))
      rcases ho.parts with ⟨_, hz⟩ | ⟨g, c, rfl, hob⟩
      · simp at hz
      have hl2 : (xs ++ [(D : Int)]).length = k + 1 := by simp [hsl.out]
      rw [hl2] at hob ⊢
      have hgb := hob.1
      have HO1 := Lib.hid (show intE.Own 3 w1 w.heap.size (.slice (some ⟨g, 0, none⟩) (k + 1) c) (xs ++ [(D : Int)]) by rw [← hl2]; exact ho)
      have hgt : g < w1.heap.size := (Enc.Own.lt ho g rfl).2
      obtain ⟨d0, d1⟩ := Enc.Own.cells1 HO1.out k (D : Int) (by rw [List.getElem?_append_right (by rw [hsl.out]; exact Nat.le_refl _), hsl.out]; simp)
      clear ho hg HO hob hl2
      have hkM : (k : Int) < G := by omega
      by_cases hM : k < M
      · have hM2 : (k : Int) < M := by omega
        go_wp2_with fail
        go_roundg (G - (k + 1))
        case measure => omega
        case rel =>
          refine ⟨k + 1, by omega, rfl, by go_num, Lib.hid ?_, Lib.hid (Bl.set HB1.out _ _ _ hgb)⟩
          have := Enc.Own.store1 HO1.out k ((D : Int) + 1)
          rw [hss.out, hsz.out, if_pos hM]
          rw [List.set_append_right _ _ (by rw [hsl.out]; exact Nat.le_refl _), hsl.out] at this
          simpa using this
      · have hM2 : ¬ (k : Int) < M := by omega
        go_wp2_with fail
        go_roundg (G - (k + 1))
        case measure => omega
        case rel =>
          refine ⟨k + 1, by omega, rfl, by go_num, Lib.hid ?_, HB1⟩
          have := HO1.out
          rw [hss.out, hsz.out, if_neg hM]
          unfold Enc.Own at this ⊢
          rw [List.length_append, hsl.out] at this ⊢
          simpa using this
    · have hke : k = grp n := by omega
      go_wp2_with fail
      go_ret
      exact ⟨_, rfl, by rw [← hke]; exact HO.out, HB.out⟩

def isE (n1 n2 n3 : Nat) : Bool := decide (n1 = 0) && decide (n2 = 0) && decide (n3 = 0)
set_option maxRecDepth 100000 in
set_option maxHeartbeats 1000000 in
theorem tempty_raw (A1 A2 A3 : Option Addr) (n1 c1 n2 c2 n3 c3 : Nat) (w : World) :
    Calls Try.prog 88 #[.agg #[.slice A1 n1 c1, .slice A2 n2 c2, .slice A3 n3 c3]] w fun e w' => e = .returned (.bool (isE n1 n2 n3)) ∧ Bl w w' := by
  have hu := Try.underlying89
  rcases Nat.eq_zero_or_pos n1 with rfl | h1
  · rcases Nat.eq_zero_or_pos n2 with rfl | h2
    · rcases Nat.eq_zero_or_pos n3 with rfl | h3
      · go_enter Try.func88, Try.ntmps88
        go_wp2_with fail
        go_ret
        exact ⟨rfl, (Bl.refl _).alloc _⟩
      · have h3' : ((n3 : Int) == 0) = false := by simp; omega
        have hb : isE 0 0 n3 = false := by simp [isE]; omega
        go_enter Try.func88, Try.ntmps88
        go_wp2_with fail
        go_ret
        exact ⟨ret_bool hb.symm, (Bl.refl _).alloc _⟩
    · have h3' : ((n2 : Int) == 0) = false := by simp; omega
      have hb : isE 0 n2 n3 = false := by simp [isE]; omega
      go_enter Try.func88, Try.ntmps88
      go_wp2_with fail
      go_ret
      exact ⟨ret_bool hb.symm, (Bl.refl _).alloc _⟩
  · have h3' : ((n1 : Int) == 0) = false := by simp; omega
    have hb : isE n1 n2 n3 = false := by simp [isE]; omega
    go_enter Try.func88, Try.ntmps88
    go_wp2_with fail
    go_ret
    exact ⟨ret_bool hb.symm, (Bl.refl _).alloc _⟩
theorem tempty_any (l : List Ext) (f : List Int) (p : List NodeM) (h : NH) (w : World) (hr : NodeR w (.mk l f p) h) :
    Calls Try.prog 88 #[h.v] w fun e w' => e = .returned (.bool (isE l.length f.length p.length)) ∧ Bl w w' := by
  obtain ⟨h1, h2, hs, h3, h4, _⟩ := hr.inv
  obtain ⟨A1, c1, e1, _⟩ := h1
  obtain ⟨A2, c2, e2, _⟩ := h2
  obtain ⟨A3, c3, e3, _⟩ := h3
  rw [h4] at e3
  unfold NH.v
  rw [e1, e2, e3]
  exact tempty_raw _ _ _ _ _ _ _ _ _ _

set_option maxRecDepth 100000 in
set_option maxHeartbeats 1000000 in
theorem tfirst_any (n : NodeM) (h : NH) (w : World) (hr : NodeR w n h) (hf : n.hasFirst = true) :
    Calls Try.prog 75 #[h.v] w fun e w' => e = .returned (.int .i64 n.first1) ∧ Bl w w' := by
  have HR := Lib.hid hr
  have HF := Lib.hid hf
  clear hr hf
  have hu := Try.underlying89
  have hue := Try.underlying38
  go_enter Try.func75, Try.ntmps75
  unfold NH.v
  go_wp2_with fail
  go_loopg [] n.count (fun g wr => ∃ m h', g = m.count ∧ Hid (m.first1 = n.first1) ∧ Hid (m.hasFirst = true) ∧ Hid (NodeR w m h') ∧ Hid (Blk wr w.heap.size #[h'.a.v, h'.b.v, h'.c.v] 89) ∧ Hid (Bl w wr))
  case atStart => exact ⟨n, h, rfl, Lib.hid rfl, HF, HR, Lib.hid (Blk.new w _ _), Lib.hid ((Bl.refl _).alloc _)⟩
  case round =>
    obtain ⟨m, h', rfl, HE, HF', HN, HK, HB⟩ := hrel
    obtain ⟨l, f, p⟩ := m
    obtain ⟨i1, i2, hs, i3, i4⟩ := HN.out.inv
    obtain ⟨A1, c1, e1, _, _, _, at1⟩ := i1
    obtain ⟨A3, c3, e3, q3, q4, q5, at3⟩ := i3
    have d0 := HK.out.cell 0
    have d2 := HK.out.cell 2
    have f0 := HK.out.frozen 0
    have f1 := HK.out.frozen 1
    have f2 := HK.out.frozen 2
    have hlt := HK.out.lt
    rw [e1] at d0
    rw [e3] at d2
    simp at d0 d2
    have d1 := HK.out.cell 1
    obtain ⟨A2, c2, e2, _⟩ := i2
    rw [e2] at d1
    simp at d1
    have hu2 := Try.underlying87
    have hle : hs.length = p.length := i4.1
    have HL := Lib.hid hle
    have HI4 := Lib.hid i4
    unfold maxLen at q4
    clear i4 hle e2
    cases p with
    | nil =>
      have hl0 : hs.length = 0 := HL.out
      rw [hl0] at d2
      have hll : 0 < l.length := by
        have := HF'.out
        unfold NodeM.hasFirst at this
        cases l with
        | nil => simp at this
        | cons e l => simp
      obtain ⟨e, l', hl'⟩ : ∃ e l', l = e :: l' := by
        cases l with
        | nil => simp at hll
        | cons e l => exact ⟨e, l, rfl⟩
      obtain ⟨ad, rfl, k0⟩ := ext_at0 (at1.bl HB.out) hll
      have hx : l[0].at_ = n.first1 := by
        rw [← HE.out]; subst hl'; rfl
      rw [hx] at k0
      have hli : (0 : Int) < l.length := by omega
      clear hl' hx q5 q3 q4 e1 e3 at1 at3
      go_wp2_with fail
      go_ret
      exact ⟨rfl, HB.out⟩
    | cons x p =>
      have hl0 : 0 < hs.length := by have := HL.out; simp at this; omega
      obtain ⟨ad, rfl, k0, k1, k2⟩ := node_at0 (at3.bl HB.out) hl0
      have hn := HI4.out.2 0 x hs[0] rfl (List.getElem?_eq_getElem hl0)
      have HN2 := Lib.hid hn
      clear hn e1 e3 at1 at3
      generalize hs[0] = h2 at *
      simp only [Head.v] at k0 k1 k2
      have hli : (0 : Int) < hs.length := by omega
      go_wp2_with fail
      go_roundg x.count
      case measure => rw [count_mk, countL_cons]; omega
      case rel =>
        refine ⟨x, h2, rfl, Lib.hid ?_, Lib.hid ?_, HN2, Lib.hid ?_, Lib.hid ?_⟩
        · rw [← HE.out, first1_cons]
        · have := HF'.out; unfold NodeM.hasFirst at this; exact this
        · exact ((HK.out.set 0 h2.a.v).set 1 h2.b.v).set 2 h2.c.v
        · iterate 3 refine Bl.set ?_ _ _ _ (Nat.le_refl _)
          exact HB.out
end Go.Proofs.Ytddcjekkimajpaa.ExtW
