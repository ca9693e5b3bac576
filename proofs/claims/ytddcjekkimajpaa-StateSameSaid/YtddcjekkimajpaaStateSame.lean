/- The walk of overdublaw21.StateSame. -/
import Derived.Test.YtddcjekkimajpaaSameW
import Derived.Test.YtddcjekkimajpaaFlagB
namespace Go.Proofs.Ytddcjekkimajpaa.ExtW
open Go.RowKit Go.Ov Go.Proofs.Ytddcjekkimajpaa.Need

theorem rising_ext : ∀ {s s' : StM}, Rising s → Rising s' → (∀ j, getS s j = getS s' j) → s = s'
  | [], [], _, _, _ => rfl
  | [], y :: t, _, _, h => by have := h y.1; unfold getS at this; rw [if_pos rfl] at this; cases this
  | x :: s, [], _, _, h => by have := h x.1; unfold getS at this; rw [if_pos rfl] at this; cases this
  | x :: s, y :: t, hs, ht, h => by
    obtain ⟨s1, s2⟩ := List.pairwise_cons.1 hs
    obtain ⟨t1, t2⟩ := List.pairwise_cons.1 ht
    have hxy : x.1 = y.1 := by
      have hx := h x.1
      have hy := h y.1
      unfold getS at hx hy
      rw [if_pos rfl] at hx hy
      by_cases e : x.1 = y.1
      · exact e
      · rw [if_neg (fun q => e q.symm)] at hx
        rw [if_neg e] at hy
        obtain ⟨_, a, ha, _⟩ := get_some hx.symm
        obtain ⟨_, b, hb, _⟩ := get_some hy
        have c1 : y.1 < x.1 := by
          rcases Decidable.em (∃ z ∈ t, z.1 = x.1) with ⟨z, hz, hz2⟩ | hz
          · rw [← hz2]; exact t1 z hz
          · have := getS_none.2 (fun z hz1 hz2 => hz ⟨z, hz1, hz2⟩)
            rw [this] at hx; cases hx
        have c2 : x.1 < y.1 := by
          rcases Decidable.em (∃ z ∈ s, z.1 = y.1) with ⟨z, hz, hz2⟩ | hz
          · rw [← hz2]; exact s1 z hz
          · have := getS_none.2 (fun z hz1 hz2 => hz ⟨z, hz1, hz2⟩)
            rw [this] at hy; cases hy
        omega
    have h2 : x.2 = y.2 := by
      have hx := h x.1
      unfold getS at hx
      rw [if_pos rfl, if_pos hxy.symm] at hx
      exact Option.some.inj hx
    have ih : s = t := rising_ext s2 t2 (fun j => by
      by_cases e : j = x.1
      · subst e
        rw [getS_none.2 (fun z hz => by have := s1 z hz; omega), getS_none.2 (fun z hz => by have := t1 z hz; omega)]
      · have hj := h j
        unfold getS at hj
        rwa [if_neg (fun q => e q.symm), if_neg (fun q => e (by rw [hxy, q]))] at hj)
    rw [ih, show x = y from Prod.ext hxy h2]
theorem rising_len : ∀ {s : StM} (lo hi : Int), Rising s → (∀ x ∈ s, lo ≤ x.1 ∧ x.1 ≤ hi) → lo ≤ hi + 1 → (s.length : Int) ≤ hi - lo + 1
  | [], lo, hi, _, _, h => by simp; omega
  | x :: s, lo, hi, hs, hx, h => by
    obtain ⟨s1, s2⟩ := List.pairwise_cons.1 hs
    have h0 := hx x (List.mem_cons_self ..)
    have := rising_len (x.1 + 1) hi s2 (fun y hy => ⟨by have := s1 y hy; omega, (hx y (List.mem_cons_of_mem _ hy)).2⟩) (by omega)
    simp only [List.length_cons]; omega
/-- a state whose tracks are empty and have names from 0 to 5 -/
def EmptyOf (S : StM) : Prop := ∀ j, getS S j = none ∨ (getS S j = some (treeM []) ∧ 0 ≤ j ∧ j ≤ 5)
theorem EmptyOf.len {S : StM} (h : EmptyOf S) (hr : Rising S) : S.length ≤ 6 := by
  have := rising_len 0 5 hr (fun x hx => by
    rcases h x.1 with e | ⟨_, e⟩
    · exact absurd rfl (getS_none.1 e x hx)
    · exact e) (by decide)
  omega
theorem EmptyOf.put {S : StM} (h : EmptyOf S) {k : Int} (h0 : 0 ≤ k) (h1 : k ≤ 5) : EmptyOf (putL S k (treeM [])) := by
  intro j
  rw [put_get]
  split
  · rename_i e; subst e; exact .inr ⟨rfl, h0, h1⟩
  · exact h j
theorem EmptyOf.lt {S : StM} (h : EmptyOf S) (hr : Rising S) {k : Int} (h0 : 0 ≤ k) (h1 : k ≤ 5) (hg : getS S k = none) : S.length < 6 := by
  have := (h.put h0 h1).len (put_rising hr k _)
  rw [put_len, without_len_none hg] at this
  omega
theorem EmptyOf.nil : EmptyOf [] := fun _ => .inl rfl
def has (S : StM) (j : Int) : Bool := (getS S j).isSome
def seenA (S : StM) : Array Value := #[.bool (has S 0), .bool (has S 1), .bool (has S 2), .bool (has S 3), .bool (has S 4), .bool (has S 5)]
theorem seen_at (S : StM) (k : Nat) (hk : k < 6) : (seenA S)[k]? = some (.bool (has S k)) := by
  rcases (show k = 0 ∨ k = 1 ∨ k = 2 ∨ k = 3 ∨ k = 4 ∨ k = 5 by omega) with rfl | rfl | rfl | rfl | rfl | rfl <;> rfl
theorem has_put (S : StM) (k j : Int) : has (putL S k (treeM [])) j = (decide (j = k) || has S j) := by
  unfold has
  rw [put_get]
  by_cases e : j = k <;> simp [e]
theorem seen_set (S : StM) (k : Nat) (hk : k < 6) : (seenA S).setIfInBounds k (.bool true) = seenA (putL S k (treeM [])) := by
  unfold seenA
  simp only [has_put]
  rcases (show k = 0 ∨ k = 1 ∨ k = 2 ∨ k = 3 ∨ k = 4 ∨ k = 5 by omega) with rfl | rfl | rfl | rfl | rfl | rfl <;> simp
theorem seen_nb (S : StM) : ∀ x ∈ seenA S, notB x = false := by
  intro x hx
  simp [seenA] at hx
  rcases hx with rfl | rfl | rfl | rfl | rfl | rfl <;> rfl
theorem put_row (S : StM) (id : Int) (row : List Ext) (h0 : 0 ≤ id) (h9 : id ≤ 99) (h1 : getS S id = some (treeM [])) (hv : validFrom 0 row = true) : applyR S (recS id 0 0 row) = (putL S id (treeM row), 0) := by
  have b1 := valid_bd row 0 (by decide) hv
  have e : spliceOf (treeM []) (recS id 0 0 row) = (row, 0) := by
    show spliceM [] 0 0 row = _
    have h1 : spliceBad [] 0 0 row = false := by simp [spliceBad, hv, endM]
    have h2 : spliceLong [] 0 0 row = false := by unfold spliceLong; simp [endM]; simp [endM] at b1; omega
    unfold spliceM
    rw [h1, h2]
    simp [spliceL, cutM, shift0 row 0 (by decide) (by decide) hv]
    simp [shiftM]
  have hf := (get_some h1).1
  rw [apply_S _ _ _ _ _ h0 h9 (by decide) (by decide) (by decide) hv, h1]
  simp only [applyT]
  rw [if_neg (by simp [recS]), if_neg (show ¬ endM (treeM []).row < (recS id 0 0 row).fr by simp [treeM, endM, recS]), e, if_pos rfl]
  unfold putR
  rw [if_neg (show ¬ ((recS id 0 0 row).track < 0 ∨ 99 < (recS id 0 0 row).track) by simp [recS]; omega), if_neg (fun h => by have := h.1; simp only [recS] at this; omega)]
  rfl
def getRow : List (Int × List Ext) → Int → Option (List Ext)
  | [], _ => none
  | t :: s, id => if t.1 = id then some t.2 else getRow s id
theorem getRow_eq (s : StM) (j : Int) : getRow (rowsOf s) j = (getS s j).map (·.row) := by
  induction s with
  | nil => rfl
  | cons x s ih =>
    show getRow ((x.1, x.2.row) :: rowsOf s) j = _
    unfold getRow getS
    by_cases e : x.1 = j
    · rw [if_pos e, if_pos e]; rfl
    · rw [if_neg e, if_neg e]; exact ih
theorem same_not {s s' : StM} (j : Int) (h : (getS s j).map (·.row) ≠ (getS s' j).map (·.row)) : sameS s s' = false :=
  decide_eq_false (fun e => h (by rw [← getRow_eq, ← getRow_eq, e]))
theorem same_self (s : StM) : sameS s s = true := decide_eq_true rfl

set_option maxRecDepth 100000 in
set_option maxHeartbeats 4000000 in
theorem statesame_walk (v : Value) (l : List Int) (nm : Int) (w : World) (h : ArgInts w v l) (_ : -9223372036854775808 ≤ nm ∧ nm ≤ 9223372036854775807) :
    Calls Try.prog 6 #[v, .int .i64 nm] w fun e w' => e = .returned (.bool true) ∧ Bl w w' := by
  obtain ⟨⟨A, c, rfl, _, q1, _, hA⟩, _, _⟩ := h
  have HA := Lib.hid hA
  unfold maxLen at q1
  have hl : l.length ≤ 9223372036854775807 := by omega
  obtain ⟨nk, hid⟩ : ∃ nk : Nat, within nm 6 = (nk : Int) := ⟨(within nm 6).toNat, by have := (within_bd nm 6 (by decide)).1; omega⟩
  have hid6 : nk < 6 := by have := (within_bd nm 6 (by decide)).2; omega
  have HID := Lib.hid hid
  clear hA q1 hid
  have hu := Try.underlying33
  go_enter Try.func6, Try.ntmps6
  go_wp2_with fail
  refine (snew_any _).mono ?_
  rintro e w1 ⟨s0, rfl, hs0, hb1⟩
  have HS0 := Lib.hid hs0
  obtain ⟨b0, _, _, rfl, _⟩ := hs0
  go_wp2_with fail
  refine (snew_any _).mono ?_
  rintro e w2 ⟨s1, rfl, hs1, hb2⟩
  have HS := Lib.hid (HS0.out.bl hb2)
  have HN := Lib.hid hs1
  obtain ⟨b1, _, _, rfl, _⟩ := hs1
  have hb02 := hb1.bl hb2
  replace HA := Lib.hid (HA.out.bl hb02)
  clear hb1 hb2 HS0
  go_wp2_with fail
  have HF0 := Lib.hid (show Blk (w2.alloc (.cells #[.bool false, .bool false, .bool false, .bool false, .bool false, .bool false] 48)) w2.heap.size (seenA []) 48 from Blk.new _ _ _)
  replace HS := Lib.hid (HS.out.bl ((Bl.refl _).alloc (.cells #[.bool false, .bool false, .bool false, .bool false, .bool false, .bool false] 48)))
  replace HN := Lib.hid (HN.out.bl ((Bl.refl _).alloc (.cells #[.bool false, .bool false, .bool false, .bool false, .bool false, .bool false] 48)))
  go_loopg [5, 8, 9] l.length (fun g vs n i wr => ∃ (k : Nat) (S : StM), k ≤ l.length ∧ k ≤ 8 ∧ g = l.length - k ∧ i = .int .i64 k ∧ n = .int .i64 S.length ∧ Hid (StateIs wr vs S) ∧ Hid (SOK S) ∧ Hid (EmptyOf S) ∧ Hid (Blk wr w2.heap.size (seenA S) 48) ∧ Hid (StateIs wr (.pointer (some ⟨b1, 0, none⟩)) []) ∧ Hid (Bl w2 wr))
  case atStart => exact ⟨0, [], by omega, by omega, rfl, rfl, rfl, HS, Lib.hid SOK.nil, Lib.hid EmptyOf.nil, HF0, HN, Lib.hid ((Bl.refl _).alloc _)⟩
  case round =>
    clear HS HN HF0
    obtain ⟨k, S, hk, hk8, rfl, rfl, rfl, HS, HK, HE, HF, HN, HB⟩ := hrel
    have hS6 := HK.out.1.1
    obtain ⟨bS, _, _, e0, _⟩ := id HS.out
    subst e0
    by_cases hlt : k < l.length ∧ k < 8
    · obtain ⟨hlt, hlt8⟩ := hlt
      obtain ⟨ad, rfl, d0⟩ := int_at (HA.out.bl HB.out) k hlt
      generalize l[k] = x at d0
      have hkl : (k : Int) < l.length := by omega
      obtain ⟨kn, hkn⟩ : ∃ kn : Nat, within x 6 = (kn : Int) := ⟨(within x 6).toNat, by have := (within_bd x 6 (by decide)).1; omega⟩
      have hk6 : kn < 6 := by have := (within_bd x 6 (by decide)).2; omega
      have hk6i : (kn : Int) < 6 := by omega
      have HKN := Lib.hid hkn
      have d1 := HF.out.cell kn
      rw [seen_at S kn hk6] at d1
      have f1 := HF.out.frozen kn
      have hBl := HF.out.lt
      clear hkn
      go_wp2_with fail
      refine (within_any _ _ _ (by decide)).mono ?_
      rintro e w3 ⟨rfl, rfl⟩
      rw [HKN.out]
      cases hh : has S kn with
      | true =>
        rw [hh] at d1
        go_wp2_with fail
        go_roundg (l.length - (k + 1))
        case measure => omega
        case rel => exact ⟨k + 1, S, by omega, by omega, rfl, by go_num, rfl, HS, HK, HE, HF, HN, HB⟩
      | false =>
        rw [hh] at d1
        have hg : getS S kn = none := by unfold has at hh; cases hq : getS S kn with
          | none => rfl
          | some y => rw [hq] at hh; cases hh
        have hs6 := HE.out.lt HK.out.2 (by omega) (by omega) hg
        have hwl := without_len_none hg
        have hpl := put_len S kn (treeM [])
        have E1 := Lib.hid ((apply_C S kn (by omega) (by omega)).2.2 hg hs6)
        have HK2 := Lib.hid (HK.out.apply (r := recC kn) (by rw [E1.out]))
        rw [E1.out] at HK2
        have HE2 := Lib.hid (HE.out.put (k := kn) (by omega) (by omega))
        have kb := HF.out.keepB (seen_nb S) kn (.bool true)
        replace HS := Lib.hid (HS.out.kb kb)
        replace HN := Lib.hid (HN.out.kb kb)
        replace HB := Lib.hid (Bl.set HB.out _ kn (.bool true) (Nat.le_refl _))
        have HF2 := HF.out.set kn (.bool true)
        rw [seen_set S kn hk6] at HF2
        replace HF := Lib.hid HF2
        rw [hwl] at hpl
        have hpi : ((putL S kn (treeM [])).length : Int) = S.length + 1 := by omega
        generalize putL S kn (treeM []) = S' at *
        clear hg hs6 kb HF2 hh hwl hpl
        go_wp2_with fail
        refine (sapply_any _ _ S (recC kn) _ HS.out (rec_is _ 1 kn 0 0) HK.out.1).mono ?_
        rintro e w4 ⟨⟨hx, _⟩, hb⟩
        obtain ⟨T, rfl, hst⟩ := hx (by rw [E1.out])
        rw [E1.out] at hst
        obtain ⟨bT, _, _, rfl, _⟩ := id hst
        clear hx
        try replace HA := Lib.hid (HA.out.bl hb)
        try replace HID := Lib.hid (HID.out.bl hb)
        try replace HS0 := Lib.hid (HS0.out.bl hb)
        try replace HS := Lib.hid (HS.out.bl hb)
        try replace HN := Lib.hid (HN.out.bl hb)
        try replace HF0 := Lib.hid (HF0.out.bl hb)
        try replace HKN := Lib.hid (HKN.out.bl hb)
        try replace E1 := Lib.hid (E1.out.bl hb)
        try replace HK2 := Lib.hid (HK2.out.bl hb)
        try replace HE2 := Lib.hid (HE2.out.bl hb)
        try replace HB := Lib.hid (HB.out.bl hb)
        try replace HF := Lib.hid (HF.out.bl hb)
        clear hb
        have HT := Lib.hid hst
        clear hst
        go_wp2_with fail
        go_roundg (l.length - (k + 1))
        case measure => omega
        case rel => exact ⟨k + 1, S', by omega, by omega, rfl, by go_num, by rw [hpi], HT, HK2, HE2, HF, HN, HB⟩
    · rcases (show (k < l.length ∧ ¬ k < 8) ∨ ¬ k < l.length from by by_cases q : k < l.length; exact .inl ⟨q, fun p => hlt ⟨q, p⟩⟩; exact .inr q) with ⟨hkl2, hk7⟩ | hkl2
      all_goals
        clear hlt
        go_wp2_with fail
        go_loopg [6, 13] 7 (fun g vs i wr => ∃ (j : Int) (Sb : StM), -1 ≤ j ∧ j ≤ 5 ∧ g = (j + 2).toNat ∧ i = .int .i64 j ∧ Hid (StateIs wr (.pointer (some ⟨bS, 0, none⟩)) S) ∧ Hid (Blk wr w2.heap.size (seenA S) 48) ∧ Hid (StateIs wr vs Sb) ∧ Hid (SOK Sb) ∧ Hid (∀ i, getS Sb i = if j < i then getS S i else none) ∧ Hid (Bl w2 wr))
        case atStart => exact ⟨5, [], by decide, by decide, rfl, rfl, HS, HF, HN, Lib.hid SOK.nil, Lib.hid (fun i => by
          split
          · rcases HE.out i with e | ⟨_, _, e⟩
            · rw [e]; rfl
            · omega
          · rfl), HB⟩
        case round =>
          clear HS HF HN HB
          obtain ⟨j, Sb, hj0, hj5, rfl, rfl, HS, HF, HN, HKb, HGb, HB⟩ := hrel
          obtain ⟨bN, _, _, e0, _⟩ := id HN.out
          subst e0
          have HEb := Lib.hid (show EmptyOf Sb from fun i => by
            rw [HGb.out i]; split
            · exact HE.out i
            · exact .inl rfl)
          by_cases hj : 0 ≤ j
          · obtain ⟨jn, rfl⟩ : ∃ jn : Nat, j = jn := ⟨j.toNat, by omega⟩
            have hjn : jn < 6 := by omega
            have d1 := HF.out.cell jn
            rw [seen_at S jn hjn] at d1
            have hBl := HF.out.lt
            cases hh : has S jn with
            | true =>
              rw [hh] at d1
              have hgS : getS S jn = some (treeM []) := by
                rcases HE.out jn with e | ⟨e, _⟩
                · unfold has at hh; rw [e] at hh; cases hh
                · exact e
              have hg : getS Sb jn = none := by rw [HGb.out, if_neg (by omega)]
              have E1 := Lib.hid ((apply_C Sb jn (by omega) (by omega)).2.2 hg (HEb.out.lt HKb.out.2 (by omega) (by omega) hg))
              have HK2 := Lib.hid (HKb.out.apply (r := recC jn) (by rw [E1.out]))
              rw [E1.out] at HK2
              have HG2 := Lib.hid (show ∀ i, getS (putL Sb jn (treeM [])) i = if (jn : Int) - 1 < i then getS S i else none from fun i => by
                rw [put_get, HGb.out i]
                by_cases e : i = jn
                · subst e; rw [if_pos rfl, if_pos (by omega), hgS]
                · rw [if_neg e]
                  by_cases e2 : (jn : Int) < i
                  · rw [if_pos e2, if_pos (by omega)]
                  · rw [if_neg e2, if_neg (by omega)])
              have HS := Lib.hid HS.out
              have HF := Lib.hid HF.out
              have HB := Lib.hid HB.out
              generalize putL Sb jn (treeM []) = Sb' at *
              clear hg hgS hh
              go_wp2_with fail
              refine (sapply_any _ _ Sb (recC jn) _ HN.out (rec_is _ 1 jn 0 0) HKb.out.1).mono ?_
              rintro e w4 ⟨⟨hx, _⟩, hb⟩
              obtain ⟨T, rfl, hst⟩ := hx (by rw [E1.out])
              rw [E1.out] at hst
              obtain ⟨bT, _, _, rfl, _⟩ := id hst
              clear hx
              try replace HA := Lib.hid (HA.out.bl hb)
              try replace HID := Lib.hid (HID.out.bl hb)
              try replace HS0 := Lib.hid (HS0.out.bl hb)
              try replace HS := Lib.hid (HS.out.bl hb)
              try replace HN := Lib.hid (HN.out.bl hb)
              try replace HF0 := Lib.hid (HF0.out.bl hb)
              try replace HKN := Lib.hid (HKN.out.bl hb)
              try replace E1 := Lib.hid (E1.out.bl hb)
              try replace HK2 := Lib.hid (HK2.out.bl hb)
              try replace HE2 := Lib.hid (HE2.out.bl hb)
              try replace HB := Lib.hid (HB.out.bl hb)
              try replace HF := Lib.hid (HF.out.bl hb)
              try replace HT := Lib.hid (HT.out.bl hb)
              try replace HEb := Lib.hid (HEb.out.bl hb)
              try replace HG2 := Lib.hid (HG2.out.bl hb)
              clear hb
              have HT := Lib.hid hst
              clear hst
              go_wp2_with fail
              go_roundg ((jn : Int) - 1 + 2).toNat
              case measure => omega
              case rel => exact ⟨(jn : Int) - 1, Sb', by omega, by omega, rfl, by go_num, HS, HF, HT, HK2, HG2, HB⟩
            | false =>
              rw [hh] at d1
              have hgS : getS S jn = none := by unfold has at hh; cases hq : getS S jn with
                | none => rfl
                | some y => rw [hq] at hh; cases hh
              have HG2 := Lib.hid (show ∀ i, getS Sb i = if (jn : Int) - 1 < i then getS S i else none from fun i => by
                rw [HGb.out i]
                by_cases e : i = jn
                · subst e; rw [if_neg (by omega), if_pos (by omega), hgS]
                · by_cases e2 : (jn : Int) < i
                  · rw [if_pos e2, if_pos (by omega)]
                  · rw [if_neg e2, if_neg (by omega)])
              clear hgS hh
              go_wp2_with fail
              go_roundg ((jn : Int) - 1 + 2).toNat
              case measure => omega
              case rel => exact ⟨(jn : Int) - 1, Sb, by omega, by omega, rfl, by go_num, HS, HF, HN, HKb, HG2, HB⟩
          · obtain rfl : j = -1 := by omega
            obtain rfl : Sb = S := rising_ext HKb.out.2 HK.out.2 (fun i => by
              rw [HGb.out i]; split
              · rfl
              · rcases HE.out i with e | ⟨_, e, _⟩
                · rw [e]
                · omega)
            have HQ := Lib.hid (same_self Sb)
            have HS := Lib.hid HS.out
            have HF := Lib.hid HF.out
            have HB := Lib.hid HB.out
            have HN := Lib.hid HN.out
            clear HGb HEb HKb
            go_wp2_with fail
            refine (ssame_any _ _ Sb Sb _ HS.out HN.out HK.out.1.2 HK.out.1.2).mono ?_
            rintro e w5 ⟨rfl, hb⟩
            rw [HQ.out]
            try replace HA := Lib.hid (HA.out.bl hb)
            try replace HID := Lib.hid (HID.out.bl hb)
            try replace HS0 := Lib.hid (HS0.out.bl hb)
            try replace HS := Lib.hid (HS.out.bl hb)
            try replace HN := Lib.hid (HN.out.bl hb)
            try replace HF0 := Lib.hid (HF0.out.bl hb)
            try replace HKN := Lib.hid (HKN.out.bl hb)
            try replace E1 := Lib.hid (E1.out.bl hb)
            try replace HK2 := Lib.hid (HK2.out.bl hb)
            try replace HE2 := Lib.hid (HE2.out.bl hb)
            try replace HB := Lib.hid (HB.out.bl hb)
            try replace HF := Lib.hid (HF.out.bl hb)
            try replace HT := Lib.hid (HT.out.bl hb)
            try replace HEb := Lib.hid (HEb.out.bl hb)
            try replace HG2 := Lib.hid (HG2.out.bl hb)
            try replace HQ := Lib.hid (HQ.out.bl hb)
            clear hb
            go_wp2_with fail
            refine (ssame_any _ _ Sb Sb _ HN.out HS.out HK.out.1.2 HK.out.1.2).mono ?_
            rintro e w6 ⟨rfl, hb⟩
            rw [HQ.out]
            try replace HA := Lib.hid (HA.out.bl hb)
            try replace HID := Lib.hid (HID.out.bl hb)
            try replace HS0 := Lib.hid (HS0.out.bl hb)
            try replace HS := Lib.hid (HS.out.bl hb)
            try replace HN := Lib.hid (HN.out.bl hb)
            try replace HF0 := Lib.hid (HF0.out.bl hb)
            try replace HKN := Lib.hid (HKN.out.bl hb)
            try replace E1 := Lib.hid (E1.out.bl hb)
            try replace HK2 := Lib.hid (HK2.out.bl hb)
            try replace HE2 := Lib.hid (HE2.out.bl hb)
            try replace HB := Lib.hid (HB.out.bl hb)
            try replace HF := Lib.hid (HF.out.bl hb)
            try replace HT := Lib.hid (HT.out.bl hb)
            try replace HEb := Lib.hid (HEb.out.bl hb)
            try replace HG2 := Lib.hid (HG2.out.bl hb)
            try replace HQ := Lib.hid (HQ.out.bl hb)
            clear hb
            have d1 := HF.out.cell nk
            rw [seen_at Sb nk hid6] at d1
            have hBl := HF.out.lt
            go_wp2_with fail
            refine (within_any _ _ _ (by decide)).mono ?_
            rintro e w7 ⟨rfl, rfl⟩
            rw [HID.out]
            cases hh : has Sb nk with
            | false =>
              rw [hh] at d1
              go_wp2_with fail
              refine (sids_any _ Sb _ HS.out (by omega)).mono ?_
              rintro e w8 ⟨u, rfl, ho, hb⟩
              obtain ⟨A8, c8, rfl⟩ := ho.slice
              rw [List.length_map]
              clear ho d1
              try replace HA := Lib.hid (HA.out.bl hb)
              try replace HID := Lib.hid (HID.out.bl hb)
              try replace HS0 := Lib.hid (HS0.out.bl hb)
              try replace HS := Lib.hid (HS.out.bl hb)
              try replace HN := Lib.hid (HN.out.bl hb)
              try replace HF0 := Lib.hid (HF0.out.bl hb)
              try replace HKN := Lib.hid (HKN.out.bl hb)
              try replace E1 := Lib.hid (E1.out.bl hb)
              try replace HK2 := Lib.hid (HK2.out.bl hb)
              try replace HE2 := Lib.hid (HE2.out.bl hb)
              try replace HB := Lib.hid (HB.out.bl hb)
              try replace HF := Lib.hid (HF.out.bl hb)
              try replace HT := Lib.hid (HT.out.bl hb)
              try replace HEb := Lib.hid (HEb.out.bl hb)
              try replace HG2 := Lib.hid (HG2.out.bl hb)
              try replace HQ := Lib.hid (HQ.out.bl hb)
              clear hb
              go_wp2_with fail
              refine (wakes21_any _).mono ?_
              rintro e w9 ⟨rfl, hb⟩
              go_wp2_with fail
              go_ret
              exact ⟨rfl, hb02.bl (HB.out.bl hb)⟩
            | true =>
              rw [hh] at d1
              have hgS : getS Sb nk = some (treeM []) := by
                rcases HE.out nk with e | ⟨e, _⟩
                · unfold has at hh; rw [e] at hh; cases hh
                · exact e
              have EC := Lib.hid ((apply_D Sb nk (by omega) (by omega)).2 (by rw [hgS]; simp))
              have ED := Lib.hid (put_row Sb nk [⟨0, 3, 1, 0, 1⟩] (by omega) (by omega) hgS rfl)
              have HKC := Lib.hid (HK.out.apply (r := recD nk) (by rw [EC.out]))
              have HKD := Lib.hid (HK.out.apply (r := recS nk 0 0 [⟨0, 3, 1, 0, 1⟩]) (by rw [ED.out]))
              rw [EC.out] at HKC
              rw [ED.out] at HKD
              have gC := without_none Sb nk
              have gD : getS (putL Sb nk (treeM [⟨0, 3, 1, 0, 1⟩])) nk = some (treeM [⟨0, 3, 1, 0, 1⟩]) := by rw [put_get, if_pos rfl]
              have Q1 := Lib.hid (same_not (s := withoutS Sb nk) (s' := Sb) nk (by rw [gC, hgS]; simp))
              have Q2 := Lib.hid (same_not (s := putL Sb nk (treeM [⟨0, 3, 1, 0, 1⟩])) (s' := Sb) nk (by rw [gD, hgS]; simp [treeM]))
              have Q3 := Lib.hid (same_not (s := withoutS Sb nk) (s' := putL Sb nk (treeM [⟨0, 3, 1, 0, 1⟩])) nk (by rw [gC, gD]; simp))
              generalize withoutS Sb nk = SC at *
              generalize putL Sb nk (treeM [⟨0, 3, 1, 0, 1⟩]) = SD at *
              clear gC gD hgS hh
              go_wp2_with fail
              refine (sapply_any _ _ Sb (recD nk) _ HN.out (rec_is _ 2 nk 0 0) HK.out.1).mono ?_
              rintro e w8 ⟨⟨hx, _⟩, hb⟩
              obtain ⟨C, rfl, hst⟩ := hx (by rw [EC.out])
              rw [EC.out] at hst
              obtain ⟨bC, _, _, rfl, _⟩ := id hst
              clear hx
              try replace HA := Lib.hid (HA.out.bl hb)
              try replace HID := Lib.hid (HID.out.bl hb)
              try replace HS0 := Lib.hid (HS0.out.bl hb)
              try replace HS := Lib.hid (HS.out.bl hb)
              try replace HN := Lib.hid (HN.out.bl hb)
              try replace HF0 := Lib.hid (HF0.out.bl hb)
              try replace HKN := Lib.hid (HKN.out.bl hb)
              try replace E1 := Lib.hid (E1.out.bl hb)
              try replace HK2 := Lib.hid (HK2.out.bl hb)
              try replace HE2 := Lib.hid (HE2.out.bl hb)
              try replace HB := Lib.hid (HB.out.bl hb)
              try replace HF := Lib.hid (HF.out.bl hb)
              try replace HT := Lib.hid (HT.out.bl hb)
              try replace HEb := Lib.hid (HEb.out.bl hb)
              try replace HG2 := Lib.hid (HG2.out.bl hb)
              try replace HQ := Lib.hid (HQ.out.bl hb)
              try replace EC := Lib.hid (EC.out.bl hb)
              try replace ED := Lib.hid (ED.out.bl hb)
              try replace HKC := Lib.hid (HKC.out.bl hb)
              try replace HKD := Lib.hid (HKD.out.bl hb)
              try replace Q1 := Lib.hid (Q1.out.bl hb)
              try replace Q2 := Lib.hid (Q2.out.bl hb)
              try replace Q3 := Lib.hid (Q3.out.bl hb)
              clear hb
              have HC := Lib.hid hst
              clear hst
              go_wp2_with fail
              refine (sapply_any _ _ Sb (recS nk 0 0 [⟨0, 3, 1, 0, 1⟩]) _ (HN.out.bl ((Bl.refl _).alloc _)) ⟨_, rfl, piece_is w8 _ _ _ _⟩ HK.out.1).mono ?_
              rintro e w9 ⟨⟨hx, _⟩, hb0⟩
              obtain ⟨D, rfl, hst⟩ := hx (by rw [ED.out])
              rw [ED.out] at hst
              obtain ⟨bD, _, _, rfl, _⟩ := id hst
              have hb := Bl.bl ((Bl.refl w8).alloc (.cells #[.int .i64 0, .int .i64 3, .int .i64 1, .int .i64 0, .int .i64 1] 38)) hb0
              clear hx hb0
              try replace HA := Lib.hid (HA.out.bl hb)
              try replace HID := Lib.hid (HID.out.bl hb)
              try replace HS0 := Lib.hid (HS0.out.bl hb)
              try replace HS := Lib.hid (HS.out.bl hb)
              try replace HN := Lib.hid (HN.out.bl hb)
              try replace HF0 := Lib.hid (HF0.out.bl hb)
              try replace HKN := Lib.hid (HKN.out.bl hb)
              try replace E1 := Lib.hid (E1.out.bl hb)
              try replace HK2 := Lib.hid (HK2.out.bl hb)
              try replace HE2 := Lib.hid (HE2.out.bl hb)
              try replace HB := Lib.hid (HB.out.bl hb)
              try replace HF := Lib.hid (HF.out.bl hb)
              try replace HT := Lib.hid (HT.out.bl hb)
              try replace HEb := Lib.hid (HEb.out.bl hb)
              try replace HG2 := Lib.hid (HG2.out.bl hb)
              try replace HQ := Lib.hid (HQ.out.bl hb)
              try replace EC := Lib.hid (EC.out.bl hb)
              try replace ED := Lib.hid (ED.out.bl hb)
              try replace HKC := Lib.hid (HKC.out.bl hb)
              try replace HKD := Lib.hid (HKD.out.bl hb)
              try replace Q1 := Lib.hid (Q1.out.bl hb)
              try replace Q2 := Lib.hid (Q2.out.bl hb)
              try replace Q3 := Lib.hid (Q3.out.bl hb)
              try replace HC := Lib.hid (HC.out.bl hb)
              clear hb
              have HD := Lib.hid hst
              clear hst
              go_wp2_with fail
              refine (ssame_any _ _ SC Sb _ HC.out HS.out HKC.out.1.2 HK.out.1.2).mono ?_
              rintro e x1 ⟨rfl, hb⟩
              rw [Q1.out]
              try replace HA := Lib.hid (HA.out.bl hb)
              try replace HID := Lib.hid (HID.out.bl hb)
              try replace HS0 := Lib.hid (HS0.out.bl hb)
              try replace HS := Lib.hid (HS.out.bl hb)
              try replace HN := Lib.hid (HN.out.bl hb)
              try replace HF0 := Lib.hid (HF0.out.bl hb)
              try replace HKN := Lib.hid (HKN.out.bl hb)
              try replace E1 := Lib.hid (E1.out.bl hb)
              try replace HK2 := Lib.hid (HK2.out.bl hb)
              try replace HE2 := Lib.hid (HE2.out.bl hb)
              try replace HB := Lib.hid (HB.out.bl hb)
              try replace HF := Lib.hid (HF.out.bl hb)
              try replace HT := Lib.hid (HT.out.bl hb)
              try replace HEb := Lib.hid (HEb.out.bl hb)
              try replace HG2 := Lib.hid (HG2.out.bl hb)
              try replace HQ := Lib.hid (HQ.out.bl hb)
              try replace EC := Lib.hid (EC.out.bl hb)
              try replace ED := Lib.hid (ED.out.bl hb)
              try replace HKC := Lib.hid (HKC.out.bl hb)
              try replace HKD := Lib.hid (HKD.out.bl hb)
              try replace Q1 := Lib.hid (Q1.out.bl hb)
              try replace Q2 := Lib.hid (Q2.out.bl hb)
              try replace Q3 := Lib.hid (Q3.out.bl hb)
              try replace HC := Lib.hid (HC.out.bl hb)
              try replace HD := Lib.hid (HD.out.bl hb)
              clear hb
              go_wp2_with fail
              refine (ssame_any _ _ SD Sb _ HD.out HS.out HKD.out.1.2 HK.out.1.2).mono ?_
              rintro e x2 ⟨rfl, hb⟩
              rw [Q2.out]
              try replace HA := Lib.hid (HA.out.bl hb)
              try replace HID := Lib.hid (HID.out.bl hb)
              try replace HS0 := Lib.hid (HS0.out.bl hb)
              try replace HS := Lib.hid (HS.out.bl hb)
              try replace HN := Lib.hid (HN.out.bl hb)
              try replace HF0 := Lib.hid (HF0.out.bl hb)
              try replace HKN := Lib.hid (HKN.out.bl hb)
              try replace E1 := Lib.hid (E1.out.bl hb)
              try replace HK2 := Lib.hid (HK2.out.bl hb)
              try replace HE2 := Lib.hid (HE2.out.bl hb)
              try replace HB := Lib.hid (HB.out.bl hb)
              try replace HF := Lib.hid (HF.out.bl hb)
              try replace HT := Lib.hid (HT.out.bl hb)
              try replace HEb := Lib.hid (HEb.out.bl hb)
              try replace HG2 := Lib.hid (HG2.out.bl hb)
              try replace HQ := Lib.hid (HQ.out.bl hb)
              try replace EC := Lib.hid (EC.out.bl hb)
              try replace ED := Lib.hid (ED.out.bl hb)
              try replace HKC := Lib.hid (HKC.out.bl hb)
              try replace HKD := Lib.hid (HKD.out.bl hb)
              try replace Q1 := Lib.hid (Q1.out.bl hb)
              try replace Q2 := Lib.hid (Q2.out.bl hb)
              try replace Q3 := Lib.hid (Q3.out.bl hb)
              try replace HC := Lib.hid (HC.out.bl hb)
              try replace HD := Lib.hid (HD.out.bl hb)
              clear hb
              go_wp2_with fail
              refine (ssame_any _ _ SC SD _ HC.out HD.out HKC.out.1.2 HKD.out.1.2).mono ?_
              rintro e x3 ⟨rfl, hb⟩
              rw [Q3.out]
              try replace HA := Lib.hid (HA.out.bl hb)
              try replace HID := Lib.hid (HID.out.bl hb)
              try replace HS0 := Lib.hid (HS0.out.bl hb)
              try replace HS := Lib.hid (HS.out.bl hb)
              try replace HN := Lib.hid (HN.out.bl hb)
              try replace HF0 := Lib.hid (HF0.out.bl hb)
              try replace HKN := Lib.hid (HKN.out.bl hb)
              try replace E1 := Lib.hid (E1.out.bl hb)
              try replace HK2 := Lib.hid (HK2.out.bl hb)
              try replace HE2 := Lib.hid (HE2.out.bl hb)
              try replace HB := Lib.hid (HB.out.bl hb)
              try replace HF := Lib.hid (HF.out.bl hb)
              try replace HT := Lib.hid (HT.out.bl hb)
              try replace HEb := Lib.hid (HEb.out.bl hb)
              try replace HG2 := Lib.hid (HG2.out.bl hb)
              try replace HQ := Lib.hid (HQ.out.bl hb)
              try replace EC := Lib.hid (EC.out.bl hb)
              try replace ED := Lib.hid (ED.out.bl hb)
              try replace HKC := Lib.hid (HKC.out.bl hb)
              try replace HKD := Lib.hid (HKD.out.bl hb)
              try replace Q1 := Lib.hid (Q1.out.bl hb)
              try replace Q2 := Lib.hid (Q2.out.bl hb)
              try replace Q3 := Lib.hid (Q3.out.bl hb)
              try replace HC := Lib.hid (HC.out.bl hb)
              try replace HD := Lib.hid (HD.out.bl hb)
              clear hb
              go_wp2_with fail
              refine (ssame_any _ _ Sb Sb _ HS.out HN.out HK.out.1.2 HK.out.1.2).mono ?_
              rintro e x4 ⟨rfl, hb⟩
              rw [HQ.out]
              try replace HA := Lib.hid (HA.out.bl hb)
              try replace HID := Lib.hid (HID.out.bl hb)
              try replace HS0 := Lib.hid (HS0.out.bl hb)
              try replace HS := Lib.hid (HS.out.bl hb)
              try replace HN := Lib.hid (HN.out.bl hb)
              try replace HF0 := Lib.hid (HF0.out.bl hb)
              try replace HKN := Lib.hid (HKN.out.bl hb)
              try replace E1 := Lib.hid (E1.out.bl hb)
              try replace HK2 := Lib.hid (HK2.out.bl hb)
              try replace HE2 := Lib.hid (HE2.out.bl hb)
              try replace HB := Lib.hid (HB.out.bl hb)
              try replace HF := Lib.hid (HF.out.bl hb)
              try replace HT := Lib.hid (HT.out.bl hb)
              try replace HEb := Lib.hid (HEb.out.bl hb)
              try replace HG2 := Lib.hid (HG2.out.bl hb)
              try replace HQ := Lib.hid (HQ.out.bl hb)
              try replace EC := Lib.hid (EC.out.bl hb)
              try replace ED := Lib.hid (ED.out.bl hb)
              try replace HKC := Lib.hid (HKC.out.bl hb)
              try replace HKD := Lib.hid (HKD.out.bl hb)
              try replace Q1 := Lib.hid (Q1.out.bl hb)
              try replace Q2 := Lib.hid (Q2.out.bl hb)
              try replace Q3 := Lib.hid (Q3.out.bl hb)
              try replace HC := Lib.hid (HC.out.bl hb)
              try replace HD := Lib.hid (HD.out.bl hb)
              clear hb
              go_wp2_with fail
              refine (wakes21_any _).mono ?_
              rintro e x5 ⟨rfl, hb⟩
              go_wp2_with fail
              go_ret
              exact ⟨rfl, hb02.bl (HB.out.bl hb)⟩
end Go.Proofs.Ytddcjekkimajpaa.ExtW
