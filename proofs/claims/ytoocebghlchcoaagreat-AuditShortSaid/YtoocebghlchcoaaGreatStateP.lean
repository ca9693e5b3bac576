/- States as data; how they lie in memory. No program in sight. -/
import Derived.Test.YtoocebghlchcoaaGreatTreeP
import Derived.Test.YtoocebghlchcoaaGreatLib4
namespace Go.Ov
open Go.RowKit

/-- how a track lies: its name, its tree's block -/
structure TH where
  id : Int
  b : Nat
def TH.v (h : TH) : Value := .agg #[.int .i64 h.id, .pointer (some ⟨h.b, 0, none⟩)]
def trackE : Enc TH := ⟨2, fun h => [.int .i64 h.id, .pointer (some ⟨h.b, 0, none⟩)], fun _ => rfl, fun x u h => by simp at h; rcases h with rfl | rfl <;> rfl⟩
instance : Inhabited TH := ⟨⟨0, 0⟩⟩
abbrev TrackM := Int × TreeM
abbrev StM := List TrackM
def TrackR (w : World) (t : TrackM) (h : TH) : Prop := h.id = t.1 ∧ TreeIs w (.pointer (some ⟨h.b, 0, none⟩)) t.2
def TRows (w : World) (hs : List TH) (s : StM) : Prop := hs.length = s.length ∧ ∀ (i : Nat) (x : TrackM) (h : TH), s[i]? = some x → hs[i]? = some h → TrackR w x h
theorem TrackR.bl {w w' : World} {t : TrackM} {h : TH} (hr : TrackR w t h) (hb : Bl w w') : TrackR w' t h := ⟨hr.1, hr.2.bl hb⟩
theorem TRows.bl {w w' : World} {hs : List TH} {s : StM} (h : TRows w hs s) (hb : Bl w w') : TRows w' hs s := ⟨h.1, fun i x y hx hy => (h.2 i x y hx hy).bl hb⟩
theorem TRows.nil (w : World) : TRows w [] [] := ⟨rfl, fun i x h hx => by simp at hx⟩
theorem TRows.at {w : World} {hs : List TH} {s : StM} (hr : TRows w hs s) (k : Nat) (h : k < s.length) : ∃ h' : k < hs.length, TrackR w s[k] hs[k] :=
  ⟨by rw [hr.1]; exact h, hr.2 k _ _ (List.getElem?_eq_getElem h) (List.getElem?_eq_getElem _)⟩
theorem TRows.cons {w : World} {hs : List TH} {s : StM} {h : TH} {t : TrackM} (h0 : TrackR w t h) (hr : TRows w hs s) : TRows w (h :: hs) (t :: s) := by
  refine ⟨by simp [hr.1], fun i x y hx hy => ?_⟩
  cases i with
  | zero => simp at hx hy; subst hx; subst hy; exact h0
  | succ i => simp at hx hy; exact hr.2 i x y hx hy
theorem TRows.uncons {w : World} {hs : List TH} {s : StM} {t : TrackM} (hr : TRows w hs (t :: s)) : ∃ h hs', hs = h :: hs' ∧ TrackR w t h ∧ TRows w hs' s := by
  cases hs with
  | nil => have := hr.1; simp at this
  | cons h hs =>
    refine ⟨h, hs, rfl, hr.2 0 t h rfl rfl, by have := hr.1; simpa using this, fun i x y hx hy => hr.2 (i + 1) x y (by simpa using hx) (by simpa using hy)⟩
theorem TRows.ids {w : World} : ∀ {s : StM} {hs : List TH}, TRows w hs s → hs.map TH.id = s.map (·.1)
  | [], hs, hr => by
    have : hs = [] := List.eq_nil_of_length_eq_zero hr.1
    subst this; rfl
  | t :: s, hs, hr => by
    obtain ⟨h, hs', rfl, h0, h1⟩ := hr.uncons
    rw [List.map_cons, List.map_cons, TRows.ids h1, h0.1]
theorem TRows.filter {w : World} (p : Int → Bool) : ∀ {s : StM} {hs : List TH}, TRows w hs s → TRows w (hs.filter fun h => p h.id) (s.filter fun t => p t.1)
  | [], hs, hr => by
    have : hs = [] := List.eq_nil_of_length_eq_zero hr.1
    subst this; exact TRows.nil w
  | t :: s, hs, hr => by
    obtain ⟨h, hs', rfl, h0, h1⟩ := hr.uncons
    have ih := TRows.filter p h1
    have e : h.id = t.1 := h0.1
    cases hp : p t.1 with
    | true => rw [List.filter_cons_of_pos (by simpa [e] using hp), List.filter_cons_of_pos (by simpa using hp)]; exact TRows.cons h0 ih
    | false => rw [List.filter_cons_of_neg (by simpa [e] using hp), List.filter_cons_of_neg (by simpa using hp)]; exact ih
theorem TRows.take {w : World} {hs : List TH} {s : StM} (hr : TRows w hs s) (k : Nat) : TRows w (hs.take k) (s.take k) := by
  refine ⟨by simp [hr.1], fun i x y hx hy => ?_⟩
  rw [List.getElem?_take] at hx hy
  split at hx
  · rename_i hi
    rw [if_pos hi] at hy
    exact hr.2 i x y hx hy
  · cases hx
theorem TRows.drop {w : World} {hs : List TH} {s : StM} (hr : TRows w hs s) (k : Nat) : TRows w (hs.drop k) (s.drop k) :=
  ⟨by simp [hr.1], fun i x y hx hy => hr.2 (k + i) x y (by rw [List.getElem?_drop] at hx; exact hx) (by rw [List.getElem?_drop] at hy; exact hy)⟩
theorem TRows.append {w : World} : ∀ {s : StM} {hs : List TH} {s2 : StM} {hs2 : List TH}, TRows w hs s → TRows w hs2 s2 → TRows w (hs ++ hs2) (s ++ s2)
  | [], hs, s2, hs2, hr, h2 => by
    have : hs = [] := List.eq_nil_of_length_eq_zero hr.1
    subst this; exact h2
  | t :: s, hs, s2, hs2, hr, h2 => by
    obtain ⟨h, hs', rfl, h0, h1⟩ := hr.uncons
    exact TRows.cons h0 (TRows.append h1 h2)

theorem track_at {w : World} {A : Option Addr} {xs : List TH} (h : trackE.At w A xs) (k : Nat) (hk : k < xs.length) :
    ∃ ad, A = some ad ∧ w.cell? (ad.add (k * 2)) = some (.int .i64 xs[k].id) ∧ w.cell? ⟨(ad.add (k * 2)).block, (ad.add (k * 2)).off + 1, none⟩ = some (.pointer (some ⟨xs[k].b, 0, none⟩)) := by
  obtain ⟨ad, e, hc⟩ := h k _ (List.getElem?_eq_getElem hk)
  refine ⟨ad, e, ?_, ?_⟩
  · exact hc 0 _ rfl
  · rw [← add_at _ _ 1 (by decide)]; exact hc 1 _ rfl

/-- a state: a block with one cell, the row of tracks -/
def StateIs (w : World) (v : Value) (s : StM) : Prop := ∃ (b : Nat) (u : Head) (hs : List TH), v = .pointer (some ⟨b, 0, none⟩) ∧ w.cell? ⟨b, 0, none⟩ = some u.v ∧ trackE.Is w u.v hs ∧ TRows w hs s
theorem StateIs.bl {w w' : World} {v : Value} {s : StM} (h : StateIs w v s) (hb : Bl w w') : StateIs w' v s := by
  obtain ⟨b, u, hs, e, h0, h1, h2⟩ := h
  exact ⟨b, u, hs, e, hb.cell h0, h1.bl hb, h2.bl hb⟩

/-- the place of a track, from number k on (-1: there is none) -/
def idxFrom (id : Int) : Nat → List Int → Int
  | _, [] => -1
  | k, x :: l => if x = id then k else idxFrom id (k + 1) l
def findS (s : StM) (id : Int) : Int := idxFrom id 0 (s.map (·.1))
def withoutS (s : StM) (id : Int) : StM := s.filter fun t => t.1 != id
def below (id : Int) : StM → Nat
  | [] => 0
  | t :: s => if t.1 < id then below id s + 1 else 0
def insertS (s : StM) (id : Int) (t : TreeM) : StM := s.take (below id s) ++ (id, t) :: s.drop (below id s)
def putL (s : StM) (id : Int) (t : TreeM) : StM := insertS (withoutS s id) id t
end Go.Ov
