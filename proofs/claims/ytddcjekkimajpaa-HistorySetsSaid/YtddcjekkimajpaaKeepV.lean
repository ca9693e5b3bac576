/- A store that leaves every cell of certain values as it is keeps states, trees, histories; rows of pointers whose spare cells are nil. No program in sight. -/
import Derived.Test.YtddcjekkimajpaaHistW
import Derived.Test.YtddcjekkimajpaaFlagRow
namespace Go.Ov
open Go.RowKit

/-- which values stay: all numbers, slices, pointers that lead on -/
structure GoodP (p : Value → Bool) : Prop where
  i : ∀ k x, p (.int k x) = true
  s : ∀ (A : Option Addr) n c, p (.slice A n c) = true
  q : ∀ a : Addr, p (.pointer (some a)) = true
def KeepV (p : Value → Bool) (w w' : World) : Prop := ∀ a v, p v = true → w.cell? a = some v → w'.cell? a = some v
def notZ : Value → Bool
  | .pointer none => false
  | _ => true
theorem goodZ : GoodP notZ := ⟨fun _ _ => rfl, fun _ _ _ => rfl, fun _ => rfl⟩
theorem KeepV.trans {p : Value → Bool} {a b c : World} (h : KeepV p a b) (k : KeepV p b c) : KeepV p a c := fun x v hv hx => k x v hv (h x v hv hx)
theorem KeepV.bl {p : Value → Bool} {a b : World} (h : Bl a b) : KeepV p a b := fun _ _ _ hx => h.cell hx
section
variable {α : Type} {E : Enc α} {p : Value → Bool} {w w' : World}
theorem Enc.At.kv {A : Option Addr} {xs : List α} (hE : ∀ x u, u ∈ E.c x → p u = true) (h : E.At w A xs) (hb : KeepV p w w') : E.At w' A xs := fun i x hx => by
  obtain ⟨ad, e, hc⟩ := h i x hx
  exact ⟨ad, e, fun j u hu => hb _ _ (hE x u (List.mem_of_getElem? hu)) (hc j u hu)⟩
theorem Enc.Is.kv {v : Value} {xs : List α} (hE : ∀ x u, u ∈ E.c x → p u = true) (h : E.Is w v xs) (hb : KeepV p w w') : E.Is w' v xs := by
  obtain ⟨A, c, e, hl, hm, hn, hA⟩ := h
  exact ⟨A, c, e, hl, hm, hn, hA.kv hE hb⟩
theorem int_kv (hp : GoodP p) (x : Int) (u : Value) (h : u ∈ intE.c x) : p u = true := by simp [intE] at h; subst h; exact hp.i _ _
theorem ext_kv (hp : GoodP p) (x : Ext) (u : Value) (h : u ∈ extE.c x) : p u = true := by change u ∈ Ext.vals x at h; simp only [Ext.vals, List.mem_cons, List.not_mem_nil, or_false] at h; rcases h with rfl | rfl | rfl | rfl | rfl <;> exact hp.i _ _
theorem node_kv (hp : GoodP p) (x : NH) (u : Value) (h : u ∈ nodeE.c x) : p u = true := by simp [nodeE, Head.v] at h; rcases h with rfl | rfl | rfl <;> exact hp.s _ _ _
theorem track_kv (hp : GoodP p) (x : TH) (u : Value) (h : u ∈ trackE.c x) : p u = true := by simp [trackE] at h; rcases h with rfl | rfl; exact hp.i _ _; exact hp.q _
theorem ptr_kv (hp : GoodP p) (x : Nat) (u : Value) (h : u ∈ ptrE.c x) : p u = true := by simp [ptrE] at h; subst h; exact hp.q _
theorem NodeR.kv (hp : GoodP p) {n : NodeM} {h : NH} (hr : NodeR w n h) (hb : KeepV p w w') : NodeR w' n h := by
  induction hr with
  | mk l f q a b c hs h1 h2 h3 h4 _ ih => exact .mk l f q a b c hs (h1.kv (ext_kv hp) hb) (h2.kv (int_kv hp) hb) (h3.kv (node_kv hp) hb) h4 ih
theorem TreeIs.kv (hp : GoodP p) {v : Value} {t : TreeM} (h : TreeIs w v t) (hb : KeepV p w w') : TreeIs w' v t := by
  obtain ⟨b, u, n, e, h0, h1, h2, h3, h4, h5⟩ := h
  exact ⟨b, u, n, e, hb _ _ (hp.s _ _ _) h0, hb _ _ (hp.s _ _ _) h1, hb _ _ (hp.s _ _ _) h2, hb _ _ (hp.s _ _ _) h3, h4.kv (ext_kv hp) hb, h5.kv hp hb⟩
theorem StateIs.kv (hp : GoodP p) {v : Value} {s : StM} (h : StateIs w v s) (hb : KeepV p w w') : StateIs w' v s := by
  obtain ⟨b, u, hs, e, h0, h1, h2⟩ := h
  exact ⟨b, u, hs, e, hb _ _ (hp.s _ _ _) h0, h1.kv (track_kv hp) hb, h2.1, fun i x y hx hy => ⟨(h2.2 i x y hx hy).1, (h2.2 i x y hx hy).2.kv hp hb⟩⟩
theorem SRows.kv (hp : GoodP p) {bs : List Nat} {ss : List StM} (h : SRows w bs ss) (hb : KeepV p w w') : SRows w' bs ss := ⟨h.1, fun i s b hs hb' => (h.2 i s b hs hb').kv hp hb⟩
theorem HistIs.kv (hp : GoodP p) {T : TypeId} {B : Nat} {m : HistM} {row : Option Nat} (h : HistIs T w B m) (hb : KeepV p w w') (hg : w.grownBy w' row) (hr : ∀ g, row = some g → B < g) : HistIs T w' B m := by
  obtain ⟨n, u, r, us, rs, h0, h1, h2, h3, h4, h5⟩ := h
  exact ⟨n, u, r, us, rs, h0.grown hg (fun e => by have := hr B e; omega), h1.kv hp hb, ⟨h2.1.kv (ptr_kv hp) hb, h2.2⟩, ⟨h3.1.kv (ptr_kv hp) hb, h3.2⟩, h4.kv hp hb, h5.kv hp hb⟩
end
/-- a row of pointers in a block known whole, from its start on; behind them nil -/
def ZOwn (T : TypeId) (w : World) (g : Nat) (v : Value) (us : List Nat) : Prop := ∃ (cap : Nat) (cs : Array Value), v = .slice (some ⟨g, 0, none⟩) us.length cap ∧ Blk w g cs T ∧ cs.size = cap ∧ us.length ≤ cap ∧ cap ≤ maxLen ∧
  (∀ (i u : Nat), us[i]? = some u → cs[i]? = some (.pointer (some ⟨u, 0, none⟩))) ∧ (∀ i, us.length ≤ i → i < cap → cs[i]? = some (.pointer none))
theorem ZOwn.bl {T : TypeId} {w w' : World} {g : Nat} {v : Value} {us : List Nat} (h : ZOwn T w g v us) (hb : Bl w w') : ZOwn T w' g v us := by
  obtain ⟨cap, cs, h1, h2, h3⟩ := h
  exact ⟨cap, cs, h1, h2.bl hb, h3⟩
theorem ZOwn.grown {T : TypeId} {w w' : World} {g : Nat} {v : Value} {us : List Nat} {row : Option Nat} (h : ZOwn T w g v us) (hg : w.grownBy w' row) (hr : row ≠ some g) : ZOwn T w' g v us := by
  obtain ⟨cap, cs, h1, h2, h3⟩ := h
  exact ⟨cap, cs, h1, h2.grown hg hr, h3⟩
theorem ZOwn.lt {T : TypeId} {w : World} {g : Nat} {v : Value} {us : List Nat} (h : ZOwn T w g v us) : g < w.heap.size := by
  obtain ⟨cap, cs, h1, h2, h3⟩ := h
  exact h2.lt
theorem ZOwn.slice {T : TypeId} {w : World} {g : Nat} {v : Value} {us : List Nat} (h : ZOwn T w g v us) : ∃ c, v = .slice (some ⟨g, 0, none⟩) us.length c ∧ us.length ≤ c := by
  obtain ⟨cap, cs, h1, h2, h3, h4, _⟩ := h
  exact ⟨cap, h1, h4⟩
theorem ZOwn.at {T : TypeId} {w : World} {g : Nat} {v : Value} {us : List Nat} (h : ZOwn T w g v us) (k : Nat) (hk : k < us.length) : w.cell? ⟨g, k, none⟩ = some (.pointer (some ⟨us[k], 0, none⟩)) := by
  obtain ⟨cap, cs, h1, h2, h3, h4, _, h5, _⟩ := h
  rw [h2.cell]; exact h5 k _ (List.getElem?_eq_getElem hk)
theorem ZOwn.lit {T : TypeId} (w : World) (b : Nat) {N : Nat} (hN : N = w.heap.size) : ZOwn T (w.alloc (.cells #[.pointer (some ⟨b, 0, none⟩)] T)) N (.slice (some ⟨N, 0, none⟩) 1 1) [b] := by
  subst hN
  refine ⟨1, _, rfl, Blk.new w _ T, rfl, Nat.le_refl _, by decide, fun i u hu => ?_, fun i h1 h2 => ?_⟩
  · cases i with
    | zero => simp at hu; subst hu; rfl
    | succ i => simp at hu
  · simp at h1; omega
section
variable {P : Program}
theorem run_append_z {T t : TypeId} {i : TypeInfo} (ht : P.underlying t = some (.slice T)) (hi : P.info? T = some i) (hz : i.zero = some (.pointer none)) (h1 : i.size = 1) (h2 : i.bytes = 8)
    {w : World} {g : Nat} {v : Value} {us : List Nat} (h : ZOwn T w g v us) (hn : us.length ≤ 1000000) (x : Addr) (b : Nat) (hx : w.cell? x = some (.pointer (some ⟨b, 0, none⟩))) (ty : TypeId) :
    ∃ v' w' g', (Builtin.append_ #[t, t] ty #[v, .slice (some x) 1 1]).run P w = .ok v' w' ∧ ZOwn T w' g' v' (us ++ [b]) ∧ w.grownBy w' (some g) ∧ (g' = g ∨ w.heap.size ≤ g') ∧ KeepV notZ w w' := by
  have hnews : ∀ j u, [Value.pointer (some (⟨b, 0, none⟩ : Addr))][j]? = some u → w.cell? (x.add j) = some u := by
    intro j u hu
    cases j with
    | zero => simp at hu; subst hu; rw [show x.add 0 = x from by unfold Addr.add; cases x; split <;> simp_all]; exact hx
    | succ j => simp at hu
  obtain ⟨c, cs, rfl, h3, h4, h5, h6, h7, h8⟩ := h
  have hat : ∀ (k : Nat) (q : Value), (us.map fun u => Value.pointer (some (⟨u, 0, none⟩ : Addr)))[k]? = some q → cs[k]? = some q := by
    intro k q hq
    rw [List.getElem?_map] at hq
    cases hk : us[k]? with
    | none => rw [hk] at hq; cases hq
    | some z => rw [hk] at hq; cases hq; exact h7 k z hk
  by_cases hroom : us.length + 1 ≤ c
  · have hr := run_append_room_off (P := P) w t ty T i ht hi g 0 us.length c cs h3 x 1 1 [.pointer (some ⟨b, 0, none⟩)] (by rw [h1]; rfl) hnews (fun u hu => by simp at hu; subst hu; rfl) hroom (by rw [h1]; simp; omega)
    rw [h1, Nat.mul_one, Nat.zero_add] at hr
    have hcell : ∀ k : Nat, ((List.take us.length cs.toList ++ [Value.pointer (some (⟨b, 0, none⟩ : Addr))] ++ List.drop (us.length + [Value.pointer (some (⟨b, 0, none⟩ : Addr))].length) cs.toList).toArray)[k]? = if k = us.length then some (.pointer (some ⟨b, 0, none⟩)) else cs[k]? := by
      intro k
      rw [List.getElem?_toArray, List.append_assoc]
      rcases Nat.lt_trichotomy k us.length with e | e | e
      · rw [List.getElem?_append_left (by simp; omega), List.getElem?_take, if_pos e, if_neg (by omega)]; simp
      · subst e
        rw [List.getElem?_append_right (by simp; exact Nat.min_le_left _ _), if_pos rfl, show us.length - (List.take us.length cs.toList).length = 0 by simp; omega]; rfl
      · rw [List.getElem?_append_right (by simp; omega), if_neg (by omega), List.getElem?_append_right (by simp; omega), List.getElem?_drop]
        have : us.length + [Value.pointer (some (⟨b, 0, none⟩ : Addr))].length + (k - (List.take us.length cs.toList).length - [Value.pointer (some (⟨b, 0, none⟩ : Addr))].length) = k := by simp; omega
        rw [this]; simp
    refine ⟨_, _, g, hr, ⟨c, _, by simp, setRow_at w g _ cs T h3, by simp; omega, by simpa using hroom, h6, ?_, ?_⟩, setRow_grown _ _ _, .inl rfl, ?_⟩
    · intro k q hk
      rw [hcell]
      by_cases e : k = us.length
      · subst e; simp at hk; subst hk; rw [if_pos rfl]
      · have hlt : k < us.length + 1 := by have := (List.getElem?_eq_some_iff.1 hk).1; simpa using this
        rw [if_neg e]
        rw [List.getElem?_append_left (by omega)] at hk
        exact h7 k q hk
    · intro k hk1 hk2
      simp at hk1
      rw [hcell, if_neg (by omega)]; exact h8 k (by omega) hk2
    · intro a v hv ha
      have hg := setRow_grown w g ((List.take us.length cs.toList ++ [Value.pointer (some (⟨b, 0, none⟩ : Addr))] ++ List.drop (us.length + [Value.pointer (some (⟨b, 0, none⟩ : Addr))].length) cs.toList).toArray)
      have hat' := setRow_at w g ((List.take us.length cs.toList ++ [Value.pointer (some (⟨b, 0, none⟩ : Addr))] ++ List.drop (us.length + [Value.pointer (some (⟨b, 0, none⟩ : Addr))].length) cs.toList).toArray) cs T h3
      have hlt := World.block_lt_of_cell? w a ha
      by_cases e : a.block = g
      · unfold World.cell? at ha ⊢
        rw [e] at ha ⊢
        unfold Blk at h3
        rw [h3] at ha
        rw [hat']
        dsimp only at ha ⊢
        split at ha
        · cases ha
        · rename_i hnn
          rw [hcell]
          by_cases eo : a.off = us.length
          · have := h8 a.off (by omega) (by omega)
            rw [this] at ha
            cases ha; cases hv
          · simp only [hnn]
            rw [if_neg eo]; exact ha
      · unfold World.cell? at ha ⊢
        rw [hg.block a.block hlt (fun q => e (by injection q with q))]; exact ha
  · have hr := run_append_grow (P := P) w t ty T i (.pointer none) ht hi hz ⟨g, 0, none⟩ us.length c (us.map fun u => .pointer (some ⟨u, 0, none⟩)) (by rw [h1]; simp) (fun j u hu => by rw [Addr.add_lit, h3.cell, Nat.zero_add]; exact hat j u hu) x 1 1 [.pointer (some ⟨b, 0, none⟩)] (by rw [h1]; rfl) hnews (by omega) (by omega) (growslice_fits (by omega) (by rw [h2]; omega))
    have g1 := grownCap_ge w (us.length + 1) c T
    have g2 := grownCap_le_maxLen w (us.length + 1) c T (by unfold maxLen; omega)
    generalize grownCap w (us.length + 1) c T = cap at *
    have hbl : ∀ cs, Bl w (w.drew.alloc (.cells cs T)) := fun cs => ((Bl.refl w).drew).alloc _
    have hzs : (Builtin.zeroCells (Value.pointer none).cells (cap - (us.length + 1))).size = cap - (us.length + 1) := by simp [Builtin.zeroCells, show (Value.pointer none).cells = #[.pointer none] from rfl]
    have hzc : ∀ k, k < cap - (us.length + 1) → (Builtin.zeroCells (Value.pointer none).cells (cap - (us.length + 1)))[k]? = some (.pointer none) := by
      intro k hk
      rw [Array.getElem?_eq_getElem (by rw [hzs]; exact hk)]
      simp [Builtin.zeroCells, show (Value.pointer none).cells = #[.pointer none] from rfl, Nat.mod_one]
    refine ⟨_, _, w.heap.size, hr, ⟨cap, _, by simp, Blk.new w.drew _ T, by simp [hzs]; omega, by simpa using g1, g2, ?_, ?_⟩, ⟨(hbl _).os, (hbl _).tape, (hbl _).output, (hbl _).size, fun k hk _ => (hbl _).block k hk⟩, .inr (Nat.le_refl _), KeepV.bl (hbl _)⟩
    · intro k q hk
      have hlt : k < us.length + 1 := by have := (List.getElem?_eq_some_iff.1 hk).1; simpa using this
      rw [Array.getElem?_append_left (by simp; omega)]
      by_cases e : k < us.length
      · rw [Array.getElem?_append_left (by simpa using e)]
        rw [List.getElem?_append_left e] at hk
        simp [hk]
      · have : k = us.length := by omega
        subst this
        simp at hk
        subst hk
        rw [Array.getElem?_append_right (by simp)]
        simp
    · intro k hk1 hk2
      simp at hk1
      rw [Array.getElem?_append_right (by simp; omega)]
      simp only [Array.size_append, List.size_toArray, List.length_map, List.length_singleton]
      exact hzc _ (by omega)
theorem ZOwn.append {T t : TypeId} (ht : P.underlying t = some (.slice T)) (hinfo : (P.info? T).map (fun i => (i.zero, i.size, i.bytes)) = some (some (.pointer none), 1, 8))
    {w : World} {g : Nat} {v : Value} {us : List Nat} {ops : Array Oper} {rest : List Oper} {o : Oper} {a : Act} {Q : Exit → Act → World → Prop} (hgd : o.guard = none) (s x : Operand)
    (ho : o.op = .call { callee := .builtin .append, args := #[s, x], argTypes := #[t, t] })
    (h : ZOwn T w g v us) (hs : a.eval s = v) (hn : us.length ≤ 1000000) (b : Nat) {N : Nat} (hN : N = w.heap.size) (hx : a.eval x = .slice (some ⟨N, 0, none⟩) 1 1)
    (hK : ∀ v' w' g', ZOwn T w' g' v' (us ++ [b]) → (w.alloc (.cells #[.pointer (some ⟨b, 0, none⟩)] T)).grownBy w' (some g) → (g' = g ∨ w.heap.size ≤ g') → KeepV notZ (w.alloc (.cells #[.pointer (some ⟨b, 0, none⟩)] T)) w' → wpList P ops Q rest (a.put o.dst v') w') :
    wpList P ops Q (o :: rest) a (w.alloc (.cells #[.pointer (some ⟨b, 0, none⟩)] T)) := by
  obtain ⟨i, hi, hz, hs1, hb1⟩ := info_parts hinfo
  have hb := (Bl.refl w).alloc (.cells #[.pointer (some ⟨b, 0, none⟩)] T)
  have hc := (Blk.new w #[.pointer (some ⟨b, 0, none⟩)] T).cell 0
  subst hN
  obtain ⟨v', w', g', hr, r1, r2, r3, r4⟩ := run_append_z (P := P) ht hi hz hs1 hb1 (h.bl hb) hn ⟨w.heap.size, 0, none⟩ b hc o.type
  refine wpList_plain hgd fun K hK' => ?_
  unfold Oper.wp
  simp [execOp, ho, resolve, invoke, builtin, hs, hx, hr, Result.andThen]
  exact hK' _ _ (hK _ _ _ r1 r2 (by have := hb.size; omega) r4)
/-- the same, or nil -/
def ZRow (T : TypeId) (w : World) (row : Option Nat) (v : Value) (us : List Nat) : Prop := (row = none ∧ v = .slice none 0 0 ∧ us = []) ∨ ∃ g, row = some g ∧ ZOwn T w g v us
theorem ZRow.bl {T : TypeId} {w w' : World} {row : Option Nat} {v : Value} {us : List Nat} (h : ZRow T w row v us) (hb : Bl w w') : ZRow T w' row v us := by
  rcases h with h | ⟨g, h1, h2⟩
  · exact .inl h
  · exact .inr ⟨g, h1, h2.bl hb⟩
theorem ZRow.grown {T : TypeId} {w w' : World} {row row' : Option Nat} {v : Value} {us : List Nat} (h : ZRow T w row v us) (hg : w.grownBy w' row') (hne : row = none ∨ row ≠ row') : ZRow T w' row v us := by
  rcases h with h | ⟨g, h1, h2⟩
  · exact .inl h
  · refine .inr ⟨g, h1, h2.grown hg ?_⟩
    rcases hne with e | e
    · rw [h1] at e; cases e
    · rw [h1] at e; exact fun q => e q.symm
theorem ZRow.slice {T : TypeId} {w : World} {row : Option Nat} {v : Value} {us : List Nat} (h : ZRow T w row v us) : ∃ A c, v = .slice A us.length c ∧ us.length ≤ c := by
  rcases h with ⟨_, rfl, rfl⟩ | ⟨g, _, h2⟩
  · exact ⟨none, 0, rfl, Nat.le_refl _⟩
  · obtain ⟨c, e, hc⟩ := h2.slice
    exact ⟨_, c, e, hc⟩
theorem ZRow.is {T : TypeId} {w : World} {row : Option Nat} {v : Value} {us : List Nat} (h : ZRow T w row v us) : ptrE.Is w v us := by
  rcases h with ⟨_, rfl, rfl⟩ | ⟨g, _, h2⟩
  · exact Enc.Is.nil w
  · obtain ⟨cap, cs, h1, h2', h3, h4, h5, h6, _⟩ := id h2
    refine ⟨_, cap, h1, h4, h5, (fun h => by cases h), fun i x hx => ⟨_, rfl, fun j u hu => ?_⟩⟩
    cases j with
    | zero => simp [ptrE] at hu; subst hu; rw [Addr.add_lit, h2'.cell]; simpa [ptrE] using h6 i x hx
    | succ j => simp [ptrE] at hu
theorem run_append_z_nil {T t : TypeId} {i : TypeInfo} (ht : P.underlying t = some (.slice T)) (hi : P.info? T = some i) (hz : i.zero = some (.pointer none)) (h1 : i.size = 1) (h2 : i.bytes = 8)
    {w : World} (x : Addr) (b : Nat) (hx : w.cell? x = some (.pointer (some ⟨b, 0, none⟩))) (ty : TypeId) :
    ∃ v' w', (Builtin.append_ #[t, t] ty #[.slice none 0 0, .slice (some x) 1 1]).run P w = .ok v' w' ∧ ZOwn T w' w.heap.size v' [b] ∧ Bl w w' := by
  have hnews : ∀ j u, [Value.pointer (some (⟨b, 0, none⟩ : Addr))][j]? = some u → w.cell? (x.add j) = some u := by
    intro j u hu
    cases j with
    | zero => simp at hu; subst hu; rw [show x.add 0 = x from by unfold Addr.add; cases x; split <;> simp_all]; exact hx
    | succ j => simp at hu
  have hr := run_append_nil (P := P) w t ty T i (.pointer none) ht hi hz x 1 1 [.pointer (some ⟨b, 0, none⟩)] (by rw [h1]; rfl) hnews (by decide) (by decide) (by rw [h2]; decide)
  have g1 := grownCap_ge w 1 0 T
  have g2 := grownCap_le_maxLen w 1 0 T (by unfold maxLen; omega)
  generalize grownCap w 1 0 T = cap at *
  have hzs : (Builtin.zeroCells (Value.pointer none).cells (cap - 1)).size = cap - 1 := by simp [Builtin.zeroCells, show (Value.pointer none).cells = #[.pointer none] from rfl]
  have hzc : ∀ k, k < cap - 1 → (Builtin.zeroCells (Value.pointer none).cells (cap - 1))[k]? = some (.pointer none) := by
    intro k hk
    rw [Array.getElem?_eq_getElem (by rw [hzs]; exact hk)]
    simp [Builtin.zeroCells, show (Value.pointer none).cells = #[.pointer none] from rfl, Nat.mod_one]
  refine ⟨_, _, hr, ⟨cap, _, by simp, Blk.new w.drew _ T, by simp [hzs]; omega, by simpa using g1, g2, ?_, ?_⟩, ((Bl.refl w).drew).alloc _⟩
  · intro k q hk
    cases k with
    | zero => simp at hk; subst hk; rw [Array.getElem?_append_left (by simp)]; rfl
    | succ k => simp at hk
  · intro k hk1 hk2
    simp at hk1
    rw [Array.getElem?_append_right (by simp; omega)]
    simp only [List.size_toArray, List.length_singleton]
    exact hzc _ (by omega)
theorem ZRow.append {T t : TypeId} (ht : P.underlying t = some (.slice T)) (hinfo : (P.info? T).map (fun i => (i.zero, i.size, i.bytes)) = some (some (.pointer none), 1, 8))
    {w : World} {row : Option Nat} {v : Value} {us : List Nat} {ops : Array Oper} {rest : List Oper} {o : Oper} {a : Act} {Q : Exit → Act → World → Prop} (hgd : o.guard = none) (s x : Operand)
    (ho : o.op = .call { callee := .builtin .append, args := #[s, x], argTypes := #[t, t] })
    (h : ZRow T w row v us) (hs : a.eval s = v) (hn : us.length ≤ 1000000) (b : Nat) {N : Nat} (hN : N = w.heap.size) (hx : a.eval x = .slice (some ⟨N, 0, none⟩) 1 1)
    (hK : ∀ v' w' g', ZOwn T w' g' v' (us ++ [b]) → (w.alloc (.cells #[.pointer (some ⟨b, 0, none⟩)] T)).grownBy w' row → (row = some g' ∨ w.heap.size ≤ g') → KeepV notZ (w.alloc (.cells #[.pointer (some ⟨b, 0, none⟩)] T)) w' → wpList P ops Q rest (a.put o.dst v') w') :
    wpList P ops Q (o :: rest) a (w.alloc (.cells #[.pointer (some ⟨b, 0, none⟩)] T)) := by
  rcases h with ⟨rfl, rfl, rfl⟩ | ⟨g, rfl, h⟩
  · obtain ⟨i, hi, hz, hs1, hb1⟩ := info_parts hinfo
    have hb := (Bl.refl w).alloc (.cells #[.pointer (some ⟨b, 0, none⟩)] T)
    have hc := (Blk.new w #[.pointer (some ⟨b, 0, none⟩)] T).cell 0
    subst hN
    obtain ⟨v', w', hr, r1, r2⟩ := run_append_z_nil (P := P) (t := t) ht hi hz hs1 hb1 ⟨w.heap.size, 0, none⟩ b hc o.type
    refine wpList_plain hgd fun K hK' => ?_
    unfold Oper.wp
    simp [execOp, ho, resolve, invoke, builtin, hs, hx, hr, Result.andThen]
    exact hK' _ _ (hK _ _ _ r1 ⟨r2.os, r2.tape, r2.output, r2.size, fun k hk _ => r2.block k hk⟩ (.inr hb.size) (KeepV.bl r2))
  · exact ZOwn.append ht hinfo hgd s x ho h hs hn b hN hx fun v' w' g' g1 g2 g3 g4 => hK v' w' g' g1 g2 (by rcases g3 with rfl | g3; exact .inl rfl; exact .inr g3) g4
end
end Go.Ov
