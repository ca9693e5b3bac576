/- What is kept but for some blocks; rows of bytes in a block of their own; copy. No program in sight. -/
import Derived.Test.YtoocebghlchcoaaGreatWrP
import Derived.Test.YtoocebghlchcoaaGreatInsP
namespace Go.Ov
open Go.RowKit

/-- these blocks are as they were; nothing else is said -/
structure Kp (G : Nat → Bool) (w w' : World) : Prop where
  os : w'.os = w.os
  tape : w'.tape = w.tape
  output : w'.output = w.output
  size : w.heap.size ≤ w'.heap.size
  block : ∀ k, k < w.heap.size → G k = true → w'.heap[k]? = w.heap[k]?
theorem Kp.refl (G : Nat → Bool) (w : World) : Kp G w w := ⟨rfl, rfl, rfl, Nat.le_refl _, fun _ _ _ => rfl⟩
theorem Kp.trans {G : Nat → Bool} {a b c : World} (h : Kp G a b) (k : Kp G b c) : Kp G a c :=
  ⟨k.os.trans h.os, k.tape.trans h.tape, k.output.trans h.output, Nat.le_trans h.size k.size, fun i hi hg => (k.block i (Nat.lt_of_lt_of_le hi h.size) hg).trans (h.block i hi hg)⟩
theorem Kp.of_bl {G : Nat → Bool} {a b : World} (h : Bl a b) : Kp G a b := ⟨h.os, h.tape, h.output, h.size, fun k hk _ => h.block k hk⟩
theorem Kp.of_gb {G : Nat → Bool} {a b : World} {row : Option Nat} (h : a.grownBy b row) (hr : ∀ k, row = some k → G k = false) : Kp G a b :=
  ⟨h.os, h.tape, h.output, h.size, fun k hk hg => h.block k hk (fun e => by rw [hr _ e.symm] at hg; cases hg)⟩
theorem Kp.bl {G : Nat → Bool} {a b c : World} (h : Bl a b) (k : Kp G b c) (hg : ∀ i, i < a.heap.size → G i = true) : Bl a c :=
  ⟨k.os.trans h.os, k.tape.trans h.tape, k.output.trans h.output, Nat.le_trans h.size k.size, fun i hi => (k.block i (Nat.lt_of_lt_of_le hi h.size) (hg i hi)).trans (h.block i hi)⟩
theorem Kp.mono {G G' : Nat → Bool} {a b : World} (h : Kp G a b) (hg : ∀ i, G' i = true → G i = true) : Kp G' a b := ⟨h.os, h.tape, h.output, h.size, fun k hk q => h.block k hk (hg k q)⟩
theorem Kp.drew {G : Nat → Bool} {a b : World} (h : Kp G a b) : Kp G a b.drew := ⟨h.os, h.tape, h.output, h.size, h.block⟩
theorem Kp.grown {G : Nat → Bool} {a b c : World} {row : Option Nat} (h : Kp G a b) (hg : b.grownBy c row) (hr : ∀ k, row = some k → a.heap.size ≤ k) : Kp G a c :=
  ⟨hg.os.trans h.os, hg.tape.trans h.tape, hg.output.trans h.output, Nat.le_trans h.size hg.size, fun i hi q => (hg.block i (Nat.lt_of_lt_of_le hi h.size) (fun e => by have := hr i e.symm; omega)).trans (h.block i hi q)⟩
theorem Kp.sub {G : Nat → Bool} {a b : World} (h : Kp G a b) : Sub (only a G) (only b G) := fun ad v q => by
  obtain ⟨h1, h2⟩ := only_cell q
  refine cell_only h1 ?_
  have hlt := World.block_lt_of_cell? a ad h2
  unfold World.cell? at h2 ⊢
  rw [h.block ad.block hlt h1]; exact h2
theorem Kp.blk {G : Nat → Bool} {a b : World} (h : Kp G a b) {B : Nat} {cs : Array Value} {T : TypeId} (hb : Blk a B cs T) (hg : G B = true) : Blk b B cs T := by
  have hl := hb.lt
  unfold Blk at *
  rw [h.block B hl hg]; exact hb
theorem Kp.own {G : Nat → Bool} {a b : World} (h : Kp G a b) {α : Type} {E : Enc α} {e : TypeId} {base : Nat} {v : Value} {xs : List α} (ho : E.Own e a base v xs) (hg : ∀ k, v.ownBlock = some k → G k = true) : E.Own e b base v xs := by
  refine ⟨ho.1, ?_⟩
  rcases ho.2 with h2 | ⟨g, cap, cur, h1, h2, h3, h4⟩
  · exact .inl h2
  · exact .inr ⟨g, cap, cur, h1, h2, (by rw [h.block g (by by_cases hb : g < a.heap.size; exact hb; rw [Array.getElem?_eq_none (by omega)] at h3; cases h3) (hg g (by rw [h1]; rfl))]; exact h3), h4⟩
theorem sub_old {w w1 : World} (hb : Bl w w1) {G : Nat → Bool} (hG : ∀ k, k < w.heap.size → G k = true) : Sub w (only w1 G) := fun ad _ q => cell_only (hG _ (World.block_lt_of_cell? w ad q)) (hb.cell q)
/-- all but some blocks -/
def nbs (l : List (Option Nat)) : Nat → Bool := fun b => l.all fun o => decide (o ≠ some b)
theorem nbs_iff {l : List (Option Nat)} {b : Nat} : nbs l b = true ↔ some b ∉ l := by
  simp only [nbs, List.all_eq_true, decide_eq_true_eq]
  exact ⟨fun h q => h _ q rfl, fun h o ho e => h (e ▸ ho)⟩
theorem nbs_not {l : List (Option Nat)} {b : Nat} (h : some b ∈ l) : nbs l b = false := by
  cases hq : nbs l b
  · rfl
  · exact absurd h (nbs_iff.1 hq)
def nb2 (B C : Nat) : Nat → Bool := nbs [some B, some C]
theorem nb2_iff {B C b : Nat} : nb2 B C b = true ↔ b ≠ B ∧ b ≠ C := by
  unfold nb2; rw [nbs_iff]; simp
theorem nb2_l (B C : Nat) : nb2 B C B = false := nbs_not (by simp)
theorem nb2_r (B C : Nat) : nb2 B C C = false := nbs_not (by simp)
/-- what lies in new blocks that are none of these -/
def frn (w : World) (l : List (Option Nat)) : Nat → Bool := fun b => fr w b && nbs l b
/-- rows that were written, or are others now: what lay beside them lies there still -/
theorem Kp.step {l l' : List (Option Nat)} {w w' : World} (h : Kp (nbs l) w w') (hl : ∀ o, o ∈ l' → o ∈ l ∨ ∀ g, o = some g → w.heap.size ≤ g) : Sub (only w (nbs l)) (only w' (nbs l')) := fun ad v q => by
  obtain ⟨h1, h2⟩ := only_cell q
  have hlt := World.block_lt_of_cell? w ad h2
  refine cell_only (nbs_iff.2 fun hm => ?_) ?_
  · rcases hl _ hm with h3 | h3
    · exact nbs_iff.1 h1 h3
    · have := h3 _ rfl; omega
  · unfold World.cell? at h2 ⊢
    rw [h.block ad.block hlt h1]; exact h2
theorem Kp.stepF {l l' : List (Option Nat)} {w0 w w' : World} (h : Kp (nbs l) w w') (hl : ∀ o, o ∈ l' → o ∈ l ∨ ∀ g, o = some g → w.heap.size ≤ g) : Sub (only w (frn w0 l)) (only w' (frn w0 l')) := fun ad v q => by
  obtain ⟨h1, h2⟩ := only_cell q
  unfold frn at h1
  simp only [Bool.and_eq_true] at h1
  have h3 := h.step hl ad v (cell_only h1.2 h2)
  obtain ⟨h4, h5⟩ := only_cell h3
  exact cell_only (by unfold frn; simp only [Bool.and_eq_true]; exact ⟨h1.1, h4⟩) h5
theorem Lies.step {w : World} {row row' : Option Nat} (h : Lies w row row') : ∀ l : List (Option Nat), row ∈ l → (row' ∈ l ∨ ∀ g, row' = some g → w.heap.size ≤ g) := fun l hr => by
  rcases h with rfl | ⟨g, rfl, h⟩
  · exact .inl hr
  · exact .inr fun g' e => by injection e with e; omega

/-- bytes as cells -/
def rowB (xs : List Int) : Array Value := (xs.map (Value.int .u8)).toArray
theorem rowB_list (xs : List Int) : (rowB xs).toList = xs.map (Value.int .u8) := rfl
theorem rowB_size (xs : List Int) : (rowB xs).size = xs.length := by simp [rowB]
theorem rowB_at (xs : List Int) (i : Nat) (h : i < xs.length) : (rowB xs)[i]? = some (.int .u8 xs[i]) := by simp [rowB, h]
theorem own_row {T : TypeId} {w : World} {g base : Nat} {xs : List Int} (h : Blk w g (rowB xs) T) (hb : base ≤ g) {n : Nat} (hn : n = xs.length) (hm : n ≤ maxLen) : byteE.Own T w base (.slice (some ⟨g, 0, none⟩) n n) xs := by
  subst hn
  refine ⟨by rw [byte_flat]; simp [byteE], .inr ⟨g, xs.length, rowB xs, rfl, hb, h, Nat.le_refl _, hm, by rw [rowB_size]; exact (Nat.mul_one _).symm, ?_⟩⟩
  rw [byte_flat, rowB_list, List.take_of_length_le (by simp [byteE])]
theorem row_made (n : Nat) : madeCells #[.int .u8 0] n = rowB (List.replicate n 0) := by
  apply Array.toList_inj.1
  rw [toList_madeCells_one, rowB_list, List.map_replicate]
/-- a row of one's own, whole, when its room is just full -/
theorem byte_is_cells {w : World} {A : Option Addr} {c : Nat} {l : List Int} (h : byteE.Is w (.slice A l.length c) l) (k : Nat) (hk : k < l.length) : ∃ ad, A = some ad ∧ w.cell? (ad.add k) = some (.int .u8 l[k]) := by
  obtain ⟨A', c', e, _, _, _, hat⟩ := h
  simp only [Value.slice.injEq] at e
  obtain ⟨rfl, -, -⟩ := e
  exact byte_at hat k hk
theorem byte_copy {P : Program} (w : World) (dT sT ty T : TypeId) (g o n cap : Nat) (A : Option Addr) (c : Nat) (xs l : List Int) (t : TypeId)
    (hu : P.underlying dT = some (.slice T)) (hs : (P.info? T).map (·.size) = some 1) (hg : Blk w g (rowB xs) t) (hl : byteE.Is w (.slice A l.length c) l) (hne : l ≠ []) (hfit : o + min l.length n ≤ xs.length) :
    (Builtin.copy_ #[dT, sT] ty #[.slice (some ⟨g, o, none⟩) n cap, .slice A l.length c]).run P w = .ok (goInt (min l.length n : Nat)) (w.setRow g (rowB (lay xs o (l.take (min l.length n))))) := by
  have h0 : 0 < l.length := List.length_pos_iff.2 hne
  obtain ⟨ad, rfl, _⟩ := byte_is_cells hl 0 h0
  have hlen : (l.take (min l.length n)).length = min l.length n := by rw [List.length_take]; omega
  have h1 := run_copyK (P := P) w dT sT ty T 1 g o n cap ad l.length c (xs.map (.int .u8)) t ((l.take (min l.length n)).map (.int .u8)) hu hs hg (by rw [List.length_map, hlen, Nat.mul_one])
    (fun j v hv => by
      have hj : j < ((l.take (min l.length n)).map (Value.int .u8)).length := (List.getElem?_eq_some_iff.1 hv).1
      rw [List.length_map, hlen] at hj
      obtain ⟨ad', e, hc⟩ := byte_is_cells hl j (by omega)
      injection e with e
      subst e
      rw [hc, ← hv]
      simp only [List.getElem?_map]
      rw [List.getElem?_take, if_pos hj, List.getElem?_eq_getElem (by omega)]; rfl) (by rw [List.length_map, hlen, List.length_map]; exact hfit)
    (fun v hv => by obtain ⟨x, -, rfl⟩ := List.mem_map.1 hv; rfl)
  refine h1.trans ?_
  have e : (lay (xs.map (Value.int .u8)) o ((l.take (min l.length n)).map (Value.int .u8))).toArray = rowB (lay xs o (l.take (min l.length n))) := by
    unfold rowB lay
    simp only [List.map_append, List.map_take, List.map_drop, List.length_take, List.length_map]
  rw [e]
theorem blk_setRow {w : World} {g : Nat} {cs cs' : Array Value} {T : TypeId} (h : Blk w g cs T) : Blk (w.setRow g cs') g cs' T := setRow_at w g cs' cs T h
/-- rows of bytes -/
def BRows (w : World) (hs : List Head) (ls : List (List Int)) : Prop := hs.length = ls.length ∧ ∀ (i : Nat) h l, hs[i]? = some h → ls[i]? = some l → byteE.Is w h.v l
theorem BRows.sub {w w' : World} {hs : List Head} {ls : List (List Int)} (h : BRows w hs ls) (hb : Sub w w') : BRows w' hs ls := ⟨h.1, fun i x l hx hl => hb.is (h.2 i x l hx hl)⟩
theorem BRows.nil (w : World) : BRows w [] [] := ⟨rfl, fun i h l hh => by simp at hh⟩
theorem BRows.cons {w : World} {hs : List Head} {ls : List (List Int)} {x : Head} {l : List Int} (hx : byteE.Is w x.v l) (h : BRows w hs ls) : BRows w (x :: hs) (l :: ls) := by
  refine ⟨by simp [h.1], fun i y m hy hm => ?_⟩
  cases i with
  | zero => simp at hy hm; subst hy; subst hm; exact hx
  | succ i => simp at hy hm; exact h.2 i y m hy hm
theorem BRows.snoc {w : World} {hs : List Head} {ls : List (List Int)} {x : Head} {l : List Int} (h : BRows w hs ls) (hx : byteE.Is w x.v l) : BRows w (hs ++ [x]) (ls ++ [l]) := by
  refine ⟨by simp [h.1], fun i y m hy hm => ?_⟩
  by_cases hi : i < hs.length
  · rw [List.getElem?_append_left hi] at hy
    rw [List.getElem?_append_left (by rw [← h.1]; exact hi)] at hm
    exact h.2 i y m hy hm
  · rw [List.getElem?_append_right (by omega)] at hy
    rw [List.getElem?_append_right (by rw [← h.1]; omega), ← h.1] at hm
    cases hk : i - hs.length with
    | zero => rw [hk] at hy hm; simp at hy hm; subst hy; subst hm; exact hx
    | succ k => rw [hk] at hy; simp at hy
section
variable {α : Type} {E : Enc α}
theorem Enc.Own.appendL {P : Program} {w : World} {ops : Array Oper} {rest : List Oper} {o : Oper} {a : Act} {Q : Exit → Act → World → Prop} (hgd : o.guard = none) (s x : Operand) (t : TypeId)
    (ho : o.op = .call { callee := .builtin .append, args := #[s, x], argTypes := #[t, t] })
    (base : Nat) (e : TypeId) (z : Value) (size bytes : Nat) (ht : P.underlying t = some (.slice e)) (hinfo : (P.info? e).map (fun i => (i.zero, i.size, i.bytes)) = some (some z, size, bytes))
    (hE : E.sz = size) (hzs : z.cells.size = size) (hsz : 0 < size) (hby : 0 < bytes)
    (v : Value) (xs : List α) (hs : a.eval s = v) (hown : E.Own e w base v xs)
    (u : Value) (ys : List α) (hx : a.eval x = u) (his : E.Is w u ys) (hne : ys ≠ [])
    (hlen : (xs.length + ys.length) * bytes ≤ 140737488355328) (hbase : base ≤ w.heap.size)
    (h : ∀ v' w', E.Own e w' base v' (xs ++ ys) → w.grownBy w' v.ownBlock → Lies w v.ownBlock v'.ownBlock → wpList P ops Q rest (a.put o.dst v') w') : wpList P ops Q (o :: rest) a w :=
  wpList_plain hgd fun _ hK => Enc.Own.wpAppendL s x t ho base e z size bytes ht hinfo hE hzs hsz hby v xs hs hown u ys hx his hne hlen hbase fun v' w' h1 h2 h3 => hK _ _ (h v' w' h1 h2 h3)
theorem Enc.Is.lit1 {e : TypeId} (w : World) (y : α) (cs : Array Value) (hcs : cs.toList = E.c y) {N : Nat} (hN : N = w.heap.size) : E.Is (w.alloc (.cells cs e)) (.slice (some ⟨N, 0, none⟩) 1 1) [y] :=
  (Enc.Own.lit (E := E) w 0 [y] cs (by simpa using hcs) 1 rfl (Nat.zero_le _) (by decide) hN).is
end
end Go.Ov
