/- Rows of flags that begin anywhere in their block; append onto them. No program in sight. -/
import Derived.Test.YtddcjekkimajpaaFlagB
import Derived.Test.YtddcjekkimajpaaLibRow
namespace Go.Ov
open Go.RowKit
variable {P : Program}
theorem run_append_room_off (w : World) (t ty e : TypeId) (i : TypeInfo) (ht : P.underlying t = some (.slice e)) (hi : P.info? e = some i)
    (g off sLen sCap : Nat) (cur : Array Value) (hg : w.heap[g]? = some (.cells cur e (0, 0)))
    (a : Addr) (m c : Nat) (news : List Value) (hl : news.length = m * i.size) (hnews : ∀ j u, news[j]? = some u → w.cell? (a.add j) = some u) (h1 : ∀ u ∈ news, u.oneCell' = true)
    (hroom : sLen + m ≤ sCap) (hfit : off + sLen * i.size + news.length ≤ cur.size) :
    (Builtin.append_ #[t, t] ty #[.slice (some ⟨g, off, none⟩) sLen sCap, .slice (some a) m c]).run P w =
      .ok (.slice (some ⟨g, off, none⟩) (sLen + m) sCap) (w.setRow g (cur.toList.take (off + sLen * i.size) ++ news ++ cur.toList.drop (off + sLen * i.size + news.length)).toArray) := by
  have hf := run_firstCells_some (P := P) w i.size m a m c news hl hnews
  have hst := run_storeCells_at P g (off + sLen * i.size) e news 0 cur w hg (by simpa using hfit) h1
  simp only [Nat.add_zero] at hst
  have ha : (⟨g, off, none⟩ : Addr).add (sLen * i.size) = ⟨g, off + sLen * i.size, none⟩ := by unfold Addr.add; split <;> simp_all
  simp [Builtin.append_, run_underlying ht, sizeOf, typeInfo, hi, Builtin.lenOf, hroom, hf, ha, hst]
/-- a row of flags: nil, or a window into a block of flags that is known whole -/
def BWin (T : TypeId) (w : World) (row : Option Nat) (v : Value) (bs : List Bool) : Prop :=
  (row = none ∧ v = .slice none 0 0 ∧ bs = []) ∨ ∃ (g off c : Nat) (cs : Array Value), row = some g ∧ v = .slice (some ⟨g, off, none⟩) bs.length c ∧ Blk w g cs T ∧ off + c ≤ cs.size ∧ bs.length ≤ c ∧ c ≤ maxLen ∧ (∀ x ∈ cs, notB x = false) ∧
    (∀ (i : Nat) (b : Bool), bs[i]? = some b → cs[off + i]? = some (.bool b))
theorem BWin.nil (T : TypeId) (w : World) : BWin T w none (.slice none 0 0) [] := .inl ⟨rfl, rfl, rfl⟩
theorem BWin.grown {T : TypeId} {w w' : World} {row row' : Option Nat} {v : Value} {bs : List Bool} (h : BWin T w row v bs) (hg : w.grownBy w' row') (hne : row = none ∨ row ≠ row') : BWin T w' row v bs := by
  rcases h with h | ⟨g, off, c, cs, h0, h1, h2, h3⟩
  · exact .inl h
  · refine .inr ⟨g, off, c, cs, h0, h1, h2.grown hg ?_, h3⟩
    rcases hne with e | e
    · rw [h0] at e; cases e
    · rw [h0] at e; exact fun q => e q.symm
theorem BWin.bl {T : TypeId} {w w' : World} {row : Option Nat} {v : Value} {bs : List Bool} (h : BWin T w row v bs) (hb : Bl w w') : BWin T w' row v bs := by
  rcases h with h | ⟨g, off, c, cs, h0, h1, h2, h3⟩
  · exact .inl h
  · exact .inr ⟨g, off, c, cs, h0, h1, h2.bl hb, h3⟩
theorem BWin.slice {T : TypeId} {w : World} {row : Option Nat} {v : Value} {bs : List Bool} (h : BWin T w row v bs) : ∃ A c, v = .slice A bs.length c ∧ bs.length ≤ c := by
  rcases h with ⟨_, rfl, rfl⟩ | ⟨g, off, c, cs, _, h1, _, _, h2, _⟩
  · exact ⟨none, 0, rfl, Nat.le_refl _⟩
  · exact ⟨_, c, h1, h2⟩
theorem BWin.lt {T : TypeId} {w : World} {row : Option Nat} {v : Value} {bs : List Bool} (h : BWin T w row v bs) (g : Nat) (hg : row = some g) : g < w.heap.size := by
  rcases h with ⟨e, _⟩ | ⟨g', off, c, cs, h0, h1, h2, _⟩
  · rw [e] at hg; cases hg
  · rw [h0] at hg; cases hg; exact h2.lt
theorem BWin.at {T : TypeId} {w : World} {row : Option Nat} {v : Value} {bs : List Bool} (h : BWin T w row v bs) (k : Nat) (hk : k < bs.length) : ∃ ad c, v = .slice (some ad) bs.length c ∧ w.cell? (ad.add k) = some (.bool bs[k]) := by
  rcases h with ⟨_, _, rfl⟩ | ⟨g, off, c, cs, _, h1, h2, _, _, _, _, h3⟩
  · exact absurd hk (by simp)
  · exact ⟨_, c, h1, by rw [Addr.add_lit, h2.cell]; exact h3 k _ (List.getElem?_eq_getElem hk)⟩
theorem BWin.sub {T : TypeId} {w : World} {row : Option Nat} {A : Option Addr} {c : Nat} {bs : List Bool} (h : BWin T w row (.slice A bs.length c) bs) (lo hi : Nat) (h1 : lo ≤ hi) (h2 : hi ≤ bs.length) : BWin T w row (sliced A lo hi c 1) ((bs.take hi).drop lo) := by
  rcases h with ⟨e0, e1, rfl⟩ | ⟨g, off, c', cs, e0, e1, h3, h4, h5, h6, h7, h8⟩
  · simp at e1
    obtain ⟨rfl, rfl⟩ := e1
    have : hi = 0 := by simpa using h2
    subst this
    have : lo = 0 := by omega
    subst this
    exact .inl ⟨e0, by simp [sliced], by simp⟩
  · simp at e1
    obtain ⟨rfl, rfl⟩ := e1
    have hl : ((bs.take hi).drop lo).length = hi - lo := by rw [List.length_drop, List.length_take]; omega
    by_cases hc : c = lo
    · have e : bs.take hi = bs.take hi := rfl
      have hn : (bs.take hi).drop lo = [] := List.eq_nil_of_length_eq_zero (by omega)
      rw [hn]
      refine .inr ⟨g, off, c - lo, cs, e0, ?_, h3, by omega, by simp, by omega, h7, fun i b hi => by simp at hi⟩
      simp [sliced, hc]; omega
    · refine .inr ⟨g, off + lo, c - lo, cs, e0, ?_, h3, by omega, by omega, by omega, h7, fun i b hib => ?_⟩
      · rw [hl]; simp [sliced, hc, Addr.add_lit]
      · rw [List.getElem?_drop, List.getElem?_take] at hib
        split at hib
        · rw [Nat.add_assoc]; exact h8 _ _ hib
        · cases hib
theorem run_append_flag {T t : TypeId} {i : TypeInfo} (ht : P.underlying t = some (.slice T)) (hi : P.info? T = some i) (hz : i.zero = some (.bool false)) (h1 : i.size = 1) (h2 : i.bytes = 1)
    {w : World} {row : Option Nat} {v : Value} {bs : List Bool} (h : BWin T w row v bs) (hn : bs.length ≤ 1000) (x : Addr) (b : Bool) (hx : w.cell? x = some (.bool b)) (ty : TypeId) :
    ∃ v' w' row', (Builtin.append_ #[t, t] ty #[v, .slice (some x) 1 1]).run P w = .ok v' w' ∧ BWin T w' row' v' (bs ++ [b]) ∧ w.grownBy w' row ∧ Lies w row row' ∧ KeepB w w' := by
  have hnews : ∀ j u, [Value.bool b][j]? = some u → w.cell? (x.add j) = some u := by
    intro j u hu
    cases j with
    | zero => simp at hu; subst hu; rw [show x.add 0 = x from by unfold Addr.add; cases x; split <;> simp_all]; exact hx
    | succ j => simp at hu
  have hz1 : ∀ n, ∀ y ∈ Builtin.zeroCells (Value.bool false).cells n, notB y = false := by
    intro n y hy
    have hs : (Value.bool false).cells = #[.bool false] := rfl
    simp [Builtin.zeroCells, hs] at hy
    obtain ⟨k, _, rfl⟩ := hy
    rw [Nat.mod_one]; rfl
  have hzs : ∀ n, (Builtin.zeroCells (Value.bool false).cells n).size = n := fun n => by simp [Builtin.zeroCells, show (Value.bool false).cells = #[.bool false] from rfl]
  have fresh : ∀ (cap : Nat) (cs : Array Value), bs.length + 1 ≤ cap → cap ≤ maxLen → cs = (bs.map Value.bool).toArray ++ #[.bool b] ++ Builtin.zeroCells (Value.bool false).cells (cap - (bs.length + 1)) →
      BWin T (w.drew.alloc (.cells cs T)) (some w.heap.size) (.slice (some ⟨w.heap.size, 0, none⟩) (bs.length + 1) cap) (bs ++ [b]) ∧ w.grownBy (w.drew.alloc (.cells cs T)) row ∧ Lies w row (some w.heap.size) ∧ KeepB w (w.drew.alloc (.cells cs T)) := by
    intro cap cs g1 g2 g3
    have hbl : Bl w (w.drew.alloc (.cells cs T)) := ((Bl.refl w).drew).alloc _
    refine ⟨.inr ⟨w.heap.size, 0, cap, cs, rfl, by simp, Blk.new w.drew cs T, ?_, by simpa using g1, g2, ?_, ?_⟩, ⟨hbl.os, hbl.tape, hbl.output, hbl.size, fun k hk _ => hbl.block k hk⟩, .inr ⟨_, rfl, Nat.le_refl _⟩, fun a v _ ha => hbl.cell ha⟩
    · rw [g3]; simp [hzs]; omega
    · intro y hy
      rw [g3] at hy
      simp only [Array.mem_append, List.mem_toArray, List.mem_map] at hy
      rcases hy with (⟨z, _, rfl⟩ | hy) | hy
      · rfl
      · simp at hy; subst hy; rfl
      · exact hz1 _ y hy
    · intro k q hk
      rw [g3, Nat.zero_add]
      have hlt : k < bs.length + 1 := by have := (List.getElem?_eq_some_iff.1 hk).1; simpa using this
      rw [Array.getElem?_append_left (by simp; omega)]
      by_cases e : k < bs.length
      · rw [Array.getElem?_append_left (by simpa using e)]
        rw [List.getElem?_append_left e] at hk
        simp [hk]
      · have : k = bs.length := by omega
        subst this
        simp at hk
        subst hk
        rw [Array.getElem?_append_right (by simp)]
        simp
  rcases h with ⟨rfl, rfl, rfl⟩ | ⟨g, off, c, cs, rfl, rfl, h3, h4, h5, h6, h7, h8⟩
  · have hr := run_append_nil (P := P) w t ty T i (.bool false) ht hi hz x 1 1 [.bool b] (by rw [h1]; rfl) hnews (by decide) (by decide) (by rw [h2]; decide)
    obtain ⟨f1, f2⟩ := fresh (grownCap w 1 0 T) _ (grownCap_ge _ _ _ _) (grownCap_le_maxLen _ _ _ _ (by decide)) rfl
    exact ⟨_, _, _, hr, by simpa using f1, by simpa using f2⟩
  · by_cases hroom : bs.length + 1 ≤ c
    · have hr := run_append_room_off (P := P) w t ty T i ht hi g off bs.length c cs h3 x 1 1 [.bool b] (by rw [h1]; rfl) hnews (fun u hu => by simp at hu; subst hu; rfl) hroom (by rw [h1]; simp; omega)
      rw [h1, Nat.mul_one] at hr
      refine ⟨_, _, some g, hr, .inr ⟨g, off, c, _, rfl, by simp, setRow_at w g _ cs T h3, ?_, by simpa using hroom, h6, ?_, ?_⟩, setRow_grown _ _ _, .inl rfl, ?_⟩
      · simp; omega
      · intro y hy
        simp only [List.mem_toArray, List.mem_append] at hy
        rcases hy with (hy | hy) | hy
        · exact h7 y (by simpa using List.mem_of_mem_take hy)
        · simp at hy; subst hy; rfl
        · exact h7 y (by simpa using List.mem_of_mem_drop hy)
      · intro k q hk
        have hlt : k < bs.length + 1 := by have := (List.getElem?_eq_some_iff.1 hk).1; simpa using this
        rw [List.getElem?_toArray, List.append_assoc]
        by_cases e : k < bs.length
        · rw [List.getElem?_append_left (by simp; omega), List.getElem?_take, if_pos (by omega)]
          rw [List.getElem?_append_left e] at hk
          simpa using h8 k q hk
        · have : k = bs.length := by omega
          subst this
          simp at hk
          subst hk
          rw [List.getElem?_append_right (by simp; exact Nat.min_le_left _ _)]
          rw [show off + bs.length - (List.take (off + bs.length) cs.toList).length = 0 by simp; omega]
          rfl
      · intro a v hv ha
        by_cases e : a.block = g
        · unfold World.cell? at ha
          rw [e] at ha
          unfold Blk at h3
          rw [h3] at ha
          dsimp only at ha
          split at ha
          · cases ha
          · have := h7 v (Array.mem_of_getElem? ha)
            rw [hv] at this; cases this
        · have hg := (setRow_grown w g ((List.take (off + bs.length) cs.toList ++ [Value.bool b] ++ List.drop (off + bs.length + [Value.bool b].length) cs.toList).toArray))
          have hlt := World.block_lt_of_cell? w a ha
          unfold World.cell? at ha ⊢
          rw [hg.block a.block hlt (fun q => e (by injection q with q))]; exact ha
    · have hr := run_append_grow (P := P) w t ty T i (.bool false) ht hi hz ⟨g, off, none⟩ bs.length c (bs.map Value.bool) (by rw [h1]; simp) (fun j u hu => by
          rw [List.getElem?_map] at hu
          cases hq : bs[j]? with
          | none => rw [hq] at hu; cases hu
          | some q => rw [hq] at hu; cases hu; rw [Addr.add_lit, h3.cell]; exact h8 _ _ hq) x 1 1 [.bool b] (by rw [h1]; rfl) hnews (by omega) (by omega) (growslice_fits (by omega) (by rw [h2]; omega))
      obtain ⟨f1, f2⟩ := fresh (grownCap w (bs.length + 1) c T) _ (grownCap_ge _ _ _ _) (grownCap_le_maxLen _ _ _ _ (by unfold maxLen; omega)) rfl
      exact ⟨_, _, _, hr, f1, f2⟩
theorem BWin.append {T t : TypeId} (ht : P.underlying t = some (.slice T)) (hinfo : (P.info? T).map (fun i => (i.zero, i.size, i.bytes)) = some (some (.bool false), 1, 1))
    {w : World} {row : Option Nat} {v : Value} {bs : List Bool} {ops : Array Oper} {rest : List Oper} {o : Oper} {a : Act} {Q : Exit → Act → World → Prop} (hgd : o.guard = none) (s x : Operand)
    (ho : o.op = .call { callee := .builtin .append, args := #[s, x], argTypes := #[t, t] })
    (h : BWin T w row v bs) (hs : a.eval s = v) (hn : bs.length ≤ 1000) (b : Bool) {N : Nat} (hN : N = w.heap.size) (hx : a.eval x = .slice (some ⟨N, 0, none⟩) 1 1)
    (hK : ∀ v' w' row', BWin T w' row' v' (bs ++ [b]) → (w.alloc (.cells #[.bool b] T)).grownBy w' row → Lies (w.alloc (.cells #[.bool b] T)) row row' → KeepB (w.alloc (.cells #[.bool b] T)) w' → wpList P ops Q rest (a.put o.dst v') w') :
    wpList P ops Q (o :: rest) a (w.alloc (.cells #[.bool b] T)) := by
  obtain ⟨i, hi, hz, hs1, hb1⟩ := info_parts hinfo
  have hb := (Bl.refl w).alloc (.cells #[.bool b] T)
  have hc := (Blk.new w #[.bool b] T).cell 0
  subst hN
  obtain ⟨v', w', row', hr, r1, r2, r3, r4⟩ := run_append_flag (P := P) ht hi hz hs1 hb1 (h.bl hb) hn ⟨w.heap.size, 0, none⟩ b hc o.type
  refine wpList_plain hgd fun K hK' => ?_
  unfold Oper.wp
  simp [execOp, ho, resolve, invoke, builtin, hs, hx, hr, Result.andThen]
  exact hK' _ _ (hK _ _ _ r1 r2 r3 r4)
end Go.Ov
