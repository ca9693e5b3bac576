/- Contract of disk.Image. -/
import Derived.Test.YtoocebghlchcoaaGreatDiskF
namespace Go.Proofs.YtoocebghlchcoaaGreat.ExtW
open Go.RowKit Go.Ov Go.Proofs.YtoocebghlchcoaaGreat.Need
theorem sec_step (img : List Int) (k : Nat) : img.take (128 * (k + 1)) = img.take (128 * k) ++ (img.drop (128 * k)).take 128 := by
  rw [show 128 * (k + 1) = 128 * k + 128 by omega, List.take_add]
set_option maxRecDepth 100000 in
set_option maxHeartbeats 1000000 in
theorem dImage_any {base D Kb : Nat} {vw : Value} {m : DiskM} {n : Nat} (w : World) (h : DIs w base D Kb vw m n) :
    Calls Tryz.prog 26 #[.pointer (some ⟨D, 0, none⟩)] w fun e w' => ∃ u, e = .returned u ∧ byteE.Own 5 w' w.heap.size u m.img ∧ Bl w w' := by
  have HD := Lib.hid h
  obtain ⟨r, q, fl, hk⟩ := h.dsk
  have c0 := hk.cell 0
  simp at c0
  have hlen := h.ok.len
  have hn2 := h.ok.n2
  clear h hk
  go_enter Tryz.func26, Tryz.ntmps26
  go_wp2_with fail
  go_loopg [3, 11] n (fun gk u i wc => ∃ (k : Nat), k ≤ n ∧ gk = n - k ∧ i = .int .i64 k ∧ Hid (byteE.Own 5 wc w.heap.size u (m.img.take (128 * k))) ∧ Hid (Bl w wc))
  case atStart => exact ⟨0, by omega, rfl, rfl, Lib.hid (Enc.Own.nil _ _ _), Lib.hid (Bl.refl _)⟩
  case round =>
    obtain ⟨k, hk, hgk, rfl, HO, HB⟩ := hrel
    by_cases hlt : k < n
    · have hlti : (k : Int) < n := by omega
      have HK := Lib.hid (HD.out.kept.bl HB.out)
      have HSt := Lib.hid (sec_step m.img k)
      obtain ⟨s, hs⟩ : ∃ s, s = (m.img.drop (128 * k)).take 128 := ⟨_, rfl⟩
      have hsl : s.length = 128 := by rw [hs, List.length_take, List.length_drop]; omega
      have HR := Lib.hid (show wr.rangeAt Kb (k * 128) (s.map (.int .u8)) by rw [Nat.mul_comm, hs]; exact row_range HK.out (by omega))
      rw [← hs] at HSt
      clear hs
      have HSl := Lib.hid hsl
      have hone : (rowB s).all (·.oneCell') = true := all_oneCell_toArray (fun v hv => by obtain ⟨x, -, rfl⟩ := List.mem_map.1 hv; rfl)
      have hst : (storeCells ⟨wr.heap.size, 0, none⟩ (s.map (.int .u8))).run Tryz.prog (wr.alloc (.cells Tryz.zeroCells114 114)) = .ok () (wr.alloc (.cells (rowB s) 114)) := by
        have := run_storeCells_new (P := Tryz.prog) wr 114 Tryz.zeroCells114 (rowB s) (by rw [rowB_size, HSl.out]; kernel_rfl) (by rw [rowB_size, HSl.out]; kernel_rfl) hone
        rw [rowB_list] at this
        exact this
      clear hone hsl
      have HIs : ∀ w1 : World, Blk w1 wr.heap.size (rowB s) 114 → byteE.Is w1 (.slice (some ⟨wr.heap.size, 0, none⟩) 128 128) s := fun w1 hb => by
        refine ⟨_, 128, by rw [HSl.out], by rw [HSl.out]; exact Nat.le_refl _, by decide, (fun h => by cases h), fun i x hx => ⟨_, rfl, fun j u hu => ?_⟩⟩
        have hj : j = 0 := by have := (List.getElem?_eq_some_iff.1 hu).1; simp [byteE] at this; exact this
        subst hj
        have hi := (List.getElem?_eq_some_iff.1 hx)
        rw [addr_add0, show i * byteE.sz + 0 = i by simp [byteE], hb.cell i, rowB_at _ _ hi.1, hi.2]
        simp [byteE] at hu
        rw [hu]
      have HNew := Lib.hid (HIs _ (Blk.new wr (rowB s) 114))
      have HBn := Lib.hid (HB.out.alloc (.cells (rowB s) 114))
      have HOn := Lib.hid (HO.out.bl ((Bl.refl wr).alloc (.cells (rowB s) 114)))
      have hol : (m.img.take (128 * k)).length ≤ 600000 := by rw [List.length_take]; omega
      generalize wr.alloc (.cells (rowB s) 114) = wn at *
      generalize m.img.take (128 * k) = pre at *
      clear HIs
      go_wp2_with (first | (refine wpList_load_mid rfl 114 (.tmp 13) rfl Kb (k * 128) rfl _ _ HR.out Tryz.underlying114 rfl (by rw [List.length_map, HSl.out]; kernel_rfl) ?_) | (at_builtin; refine Enc.Own.append (E := byteE) rfl (.tmp 15) (.tmp 16) 25 rfl w.heap.size 5 (.int .u8 0) 1 1 Tryz.underlying25 infoByte rfl rfl (by decide) (by decide) _ pre rfl HOn.out _ s rfl HNew.out (by rw [HSl.out]; omega) HBn.out.size ?_; intro u1 w1 ho hg))
      go_roundg (n - (k + 1))
      case measure => omega
      case rel => exact ⟨k + 1, by omega, rfl, by go_num, Lib.hid (by rw [HSt.out]; exact ho), Lib.hid (HBn.out.grown hg (fun g hgk => (HOn.out.lt g hgk).1))⟩
    · obtain rfl : k = n := by omega
      have HO2 := Lib.hid (show byteE.Own 5 wr w.heap.size u3 m.img by have := HO.out; rwa [List.take_of_length_le (by omega)] at this)
      go_wp2
      go_ret
      exact ⟨_, rfl, HO2.out, HB.out⟩
end Go.Proofs.YtoocebghlchcoaaGreat.ExtW
