/- Records as data. No program in sight. -/
import Derived.Test.YtddcjekkimajpaaOpenExt
namespace Go.Ov
open Go.RowKit

/-- a record -/
structure Rec where
  kind : Int
  track : Int
  fr : Int
  tt : Int
  l : List Ext
def RecIs (w : World) (v : Value) (r : Rec) : Prop := ∃ u, v = .agg #[.int .i64 r.kind, .int .i64 r.track, .int .i64 r.fr, .int .i64 r.tt, u] ∧ extE.Is w u r.l
theorem RecIs.bl {w w' : World} {v : Value} {r : Rec} (h : RecIs w v r) (hb : Bl w w') : RecIs w' v r := by
  obtain ⟨u, e, h⟩ := h; exact ⟨u, e, h.bl hb⟩
/-- a record that may be, by any -/
def rightM (r : Rec) : Rec :=
  if 1 + within r.kind 5 ≤ 2 then ⟨1 + within r.kind 5, within r.track 100, 0, 0, []⟩
  else if 1 + within r.kind 5 = 3 then ⟨3, within r.track 100, within r.fr (within r.tt 1001 + 1), within r.tt 1001, rowM r.l 20⟩
  else ⟨1 + within r.kind 5, 0, 0, 0, []⟩
def in64 (x : Int) : Prop := -9223372036854775808 ≤ x ∧ x ≤ 9223372036854775807
def inRec (r : Rec) : Prop := in64 r.kind ∧ in64 r.track ∧ in64 r.fr ∧ in64 r.tt ∧ ∀ x ∈ r.l, inExt x
def ArgRec (w : World) (v : Value) (r : Rec) : Prop := RecIs w v r ∧ inRec r
def ArgIntss (w : World) (v : Value) (ls : List (List Int)) : Prop := ∃ A c hs, v = .slice A hs.length c ∧ hs.length ≤ c ∧ c ≤ maxLen ∧ headE.At w A hs ∧ IRows w hs ls
/-- a record in a block -/
def RecAt (w : World) (B : Nat) (r : Rec) : Prop := ∃ A n c, w.cell? ⟨B, 0, none⟩ = some (.int .i64 r.kind) ∧ w.cell? ⟨B, 1, none⟩ = some (.int .i64 r.track) ∧ w.cell? ⟨B, 2, none⟩ = some (.int .i64 r.fr) ∧
  w.cell? ⟨B, 3, none⟩ = some (.int .i64 r.tt) ∧ w.cell? ⟨B, 4, none⟩ = some (.slice A n c) ∧ extE.Is w (.slice A n c) r.l
theorem RecAt.bl {w w' : World} {B : Nat} {r : Rec} (h : RecAt w B r) (hb : Bl w w') : RecAt w' B r := by
  obtain ⟨A, n, c, h0, h1, h2, h3, h4, h5⟩ := h
  exact ⟨A, n, c, hb.cell h0, hb.cell h1, hb.cell h2, hb.cell h3, hb.cell h4, h5.bl hb⟩
theorem bcell {W w1 : World} (hb : Bl W w1) : (∀ b o, b < W.heap.size → w1.cell? ⟨b, o, none⟩ = W.cell? ⟨b, o, none⟩) ∧ (∀ b o, b < W.heap.size → w1.frozen? ⟨b, o, none⟩ = W.frozen? ⟨b, o, none⟩) :=
  ⟨fun b o h => Below.cell hb (p := ⟨b, o, none⟩) h, fun b o h => Below.frozen hb (p := ⟨b, o, none⟩) h⟩
end Go.Ov
