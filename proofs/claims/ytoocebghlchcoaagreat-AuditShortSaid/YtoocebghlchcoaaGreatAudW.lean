/- Contracts of audit: sectors, sector; copies of bytes. -/
import Derived.Test.YtoocebghlchcoaaGreatSuperC
import Derived.Test.YtoocebghlchcoaaGreatDiskP
namespace Go.Proofs.YtoocebghlchcoaaGreat.ExtW
open Go.RowKit Go.Ov Go.Proofs.YtoocebghlchcoaaGreat.Need
theorem kcutByte_any (v : Value) (l : List Int) (m : Nat) (w : World) (h : byteE.Is w v l) (hl : l.length ≤ 9223372036854775807) (hm : m ≤ 1000000) :
    Calls Tryz.prog 29 #[v, .int .i64 m] w fun e w' => ∃ u, e = .returned u ∧ byteE.Is w u (l.take m) ∧ w' = w := by
  have HI := Lib.hid h
  obtain ⟨A, c, rfl, h1, h2, h3, h4⟩ := h
  have HC := Lib.hid h1
  clear h1 h2 h3 h4
  obtain ⟨k, hk⟩ : ∃ k, k = min l.length m := ⟨_, rfl⟩
  have hmin : min (l.length : Int) (m : Int) = (k : Int) := by omega
  obtain ⟨V, hV, hI⟩ := slice_h (E := byteE) (P := Tryz.prog) (t := 25) (by kernel_rfl) (fun w => by kernel_rfl) A c l (k : Int) (by omega) (by omega) HC.out
  have HV := Lib.hid (show byteE.Is w V (l.take m) by
    have := hI _ HI.out
    rwa [Int.toNat_natCast, hk, Nat.min_comm, ← List.take_eq_take_min] at this)
  have hkl : (k : Int) ≤ l.length := by omega
  clear hI hk
  go_enter Tryz.func29, Tryz.ntmps29
  go_wp2
  go_ret
  exact ⟨V, rfl, HV.out, rfl⟩
theorem cutCopyByte_any (v : Value) (l : List Int) (m : Nat) (w : World) (h : byteE.Is w v l) (hl : l.length ≤ 9223372036854775807) (hm : m ≤ 1000000) :
    Calls Tryz.prog 15 #[v, .int .i64 m] w fun e w' => ∃ u, e = .returned u ∧ byteE.Own 5 w' w.heap.size u (l.take m) ∧ Bl w w' := by
  have HI := Lib.hid h
  clear h
  go_enter Tryz.func15, Tryz.ntmps15
  go_wp2_with fail
  refine (kcutByte_any v l m _ HI.out hl hm).mono ?_
  rintro e w1 ⟨u1, rfl, hu1, rfl⟩
  go_wp2_with fail
  refine (copyByte_any u1 (l.take m) _ hu1 (by rw [List.length_take]; omega)).mono ?_
  rintro e w2 ⟨u2, rfl, ho, hb⟩
  go_wp2
  go_ret
  exact ⟨u2, rfl, ho, hb⟩
/-- how many sectors an image has -/
def sectorsM (img : List Int) : Int := if img.length % 128 ≠ 0 ∨ 4096 < img.length / 128 then 0 else img.length / 128
theorem asectors_any (v : Value) (l : List Int) (w : World) (h : byteE.Is w v l) (hl : l.length ≤ 9223372036854775807) :
    Calls Tryz.prog 21 #[v] w fun e w' => e = .returned (.int .i64 (sectorsM l)) ∧ w' = w := by
  obtain ⟨A, c, rfl, h1, h2, h3, h4⟩ := h
  clear h1 h2 h3 h4
  obtain ⟨r, hr⟩ : ∃ r, r = sectorsM l := ⟨_, rfl⟩
  rw [← hr]
  have HR := Lib.hid hr
  clear hr
  have e1 : (l.length : Int).tdiv 128 = (l.length : Int) / 128 := Int.tdiv_eq_ediv_of_nonneg (by omega)
  have e2 : (l.length : Int).tmod 128 = (l.length : Int) % 128 := Int.tmod_eq_emod_of_nonneg (by omega)
  have e3 : IntKind.i64.wrap ((l.length : Int) / 128) = (l.length : Int) / 128 := IntWalk.i64_in _ (by omega)
  go_enter Tryz.func21, Tryz.ntmps21
  rcases (show ¬ (l.length : Int) % 128 = 0 ∨ ((l.length : Int) % 128 = 0 ∧ 4096 < (l.length : Int) / 128) ∨ ((l.length : Int) % 128 = 0 ∧ ¬ 4096 < (l.length : Int) / 128) by omega) with h | ⟨h, h2⟩ | ⟨h, h2⟩
  · go_wp2
    go_ret
    exact ⟨by rw [HR.out]; unfold sectorsM; rw [if_pos (by omega)]; rfl, rfl⟩
  · go_wp2
    go_ret
    exact ⟨by rw [HR.out]; unfold sectorsM; rw [if_pos (by omega)]; rfl, rfl⟩
  · go_wp2
    go_ret
    exact ⟨by rw [HR.out]; unfold sectorsM; rw [if_neg (by omega)]; rfl, rfl⟩
/-- a sector, read of an image; nothing where there is none -/
def rdM (img : List Int) (i : Int) : List Int := if i < 0 ∨ (img.length : Int) / 128 ≤ i then [] else secM img i.toNat
theorem rd_ok {img : List Int} (h : okB img) (i : Int) : okB (rdM img i) := by
  unfold rdM
  split
  · intro c hc; cases hc
  · exact (h.drop _).take _
theorem rd_len (img : List Int) (i : Int) : (rdM img i).length ≤ 128 := by
  unfold rdM secM
  split
  · simp
  · rw [List.length_take]; omega
theorem sec_is {w : World} {A : Option Addr} {c k : Nat} {l : List Int} (h : byteE.Is w (.slice A l.length c) l) (hk : k < l.length / 128) :
    byteE.Is w (.slice (Option.map (fun x => x.add (k * 128)) A) ((k + 1) * 128 - k * 128) ((k + 1) * 128 - k * 128)) (secM l k) := by
  have hl : (secM l k).length = 128 := by unfold secM; rw [List.length_take, List.length_drop]; omega
  have e : (k + 1) * 128 - k * 128 = 128 := by omega
  rw [e]
  refine ⟨_, 128, by rw [hl], by rw [hl]; exact Nat.le_refl _, by decide, fun hn => ?_, fun i x hx => ?_⟩
  · obtain ⟨A', c', e', _, _, h3, hat⟩ := h
    simp only [Value.slice.injEq] at e'
    obtain ⟨rfl, -, -⟩ := e'
    obtain ⟨ad, e2, _⟩ := byte_at hat 0 (by omega)
    rw [e2] at hn; cases hn
  · have hi := List.getElem?_eq_some_iff.1 hx
    obtain ⟨hi1, hi2⟩ := hi
    rw [hl] at hi1
    obtain ⟨ad, e2, hc⟩ := byte_is_cells h (k * 128 + i) (by omega)
    refine ⟨ad.add (k * 128), by rw [e2]; rfl, fun j u hu => ?_⟩
    have hj : j = 0 := by have := (List.getElem?_eq_some_iff.1 hu).1; simp [byteE] at this; exact this
    subst hj
    simp [byteE] at hu
    subst hu
    have ha : (ad.add (k * 128)).add (i * byteE.sz + 0) = ad.add (k * 128 + i) := by
      rw [show i * byteE.sz + 0 = i by simp [byteE]]
      unfold Addr.add; split <;> split <;> simp_all [Nat.add_assoc]
    rw [ha, hc]
    congr 2
    rw [← hi2]
    unfold secM
    simp [Nat.mul_comm]
def RdP (w : World) (img : List Int) (i : Int) (e : Ending) : Prop := ∃ u, e = .returned (.tuple #[u, .bool (decide (0 ≤ i) && decide (i < (img.length : Int) / 128))]) ∧ byteE.Is w u (rdM img i)
set_option maxHeartbeats 1000000 in
theorem asector_any (v : Value) (l : List Int) (i : Int) (w : World) (h : byteE.Is w v l) (hl : l.length ≤ 1000000) (hi : -9223372036854775808 ≤ i ∧ i ≤ 9223372036854775807) :
    Calls Tryz.prog 33 #[v, .int .i64 i] w fun e w' => RdP w l i e ∧ w' = w := by
  have HI := Lib.hid h
  obtain ⟨A, c, rfl, h1, h2, h3, h4⟩ := h
  have HC := Lib.hid h1
  have HM := Lib.hid h2
  clear h1 h2 h3 h4
  have e1 : (l.length : Int).tdiv 128 = (l.length : Int) / 128 := Int.tdiv_eq_ediv_of_nonneg (by omega)
  have e3 : IntKind.i64.wrap ((l.length : Int) / 128) = (l.length : Int) / 128 := IntWalk.i64_in _ (by omega)
  go_enter Tryz.func33, Tryz.ntmps33
  rcases (show i < 0 ∨ (¬ i < 0 ∧ (l.length : Int) / 128 ≤ i) ∨ (¬ i < 0 ∧ ¬ (l.length : Int) / 128 ≤ i) by omega) with h | ⟨h, h2⟩ | ⟨h, h2⟩
  · go_wp2
    go_ret2
    refine ⟨⟨_, by rw [decide_eq_false (show ¬ 0 ≤ i by omega)]; rfl, ?_⟩, rfl⟩
    unfold rdM; rw [if_pos (by omega)]; exact Enc.Is.nil _
  · go_wp2
    go_ret2
    refine ⟨⟨_, by rw [decide_eq_false (show ¬ i < (l.length : Int) / 128 by omega), Bool.and_false]; rfl, ?_⟩, rfl⟩
    unfold rdM; rw [if_pos (by omega)]; exact Enc.Is.nil _
  · have hk : ∃ k : Nat, i = k := ⟨i.toNat, by omega⟩
    obtain ⟨k, rfl⟩ := hk
    have w1 : IntKind.i64.wrap ((k : Int) * 128) = (k : Int) * 128 := IntWalk.i64_in _ (by omega)
    have w2 : IntKind.i64.wrap ((k : Int) + 1) = (k : Int) + 1 := IntWalk.i64_in _ (by omega)
    have w3 : IntKind.i64.wrap (((k : Int) + 1) * 128) = ((k : Int) + 1) * 128 := IntWalk.i64_in _ (by omega)
    have hc := HC.out
    have q : 0 ≤ ((k : Int) + 1) * 128 ∧ ((k : Int) + 1) * 128 ≤ c := by omega
    have q0 : (k : Int) * 128 ≤ ((k : Int) + 1) * 128 := by omega
    have HSec := Lib.hid (sec_is HI.out (show k < l.length / 128 by omega))
    have HMx := Lib.hid (show rdM l k = secM l k by unfold rdM; rw [if_neg (by omega), Int.toNat_natCast])
    clear hc
    go_wp2
    go_ret2
    refine ⟨⟨_, by rw [decide_eq_true (show (0 : Int) ≤ k by omega), decide_eq_true (show (k : Int) < (l.length : Int) / 128 by omega)]; rfl, ?_⟩, rfl⟩
    rw [HMx.out]
    exact HSec.out
end Go.Proofs.YtoocebghlchcoaaGreat.ExtW
