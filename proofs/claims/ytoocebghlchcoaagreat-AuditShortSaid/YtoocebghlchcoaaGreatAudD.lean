/- audit's law: what noughts and a disk that is new hold. -/
import Derived.Test.YtoocebghlchcoaaGreatAudS
import Derived.Test.YtoocebghlchcoaaGreatFmtW
import Derived.Test.YtoocebghlchcoaaGreatDiskI
namespace Go.Proofs.YtoocebghlchcoaaGreat.ExtW
open Go.RowKit Go.Ov Go.Proofs.YtoocebghlchcoaaGreat.Need
set_option maxRecDepth 100000 in
theorem zero_unwhole : whole (List.replicate 128 0) = false := by kernel_rfl
set_option maxRecDepth 100000 in
theorem unp_zero : unpS (List.replicate 128 0) = (⟨0, 0, 0, 0⟩, 0, false) := by
  unfold unpS unpackSuper
  rw [zero_unwhole]
  rfl
theorem unp_nil : unpS [] = (⟨0, 0, 0, 0⟩, 0, false) := by
  unfold unpS unpackSuper whole
  rfl
theorem rd_zero (n : Nat) (i : Nat) : rdM (List.replicate (128 * n) 0) i = if i < n then List.replicate 128 0 else [] := by
  unfold rdM secM
  simp only [List.length_replicate, Int.toNat_natCast, List.drop_replicate, List.take_replicate]
  by_cases h : i < n
  · rw [if_neg (by omega), if_pos h]
    congr 1
    omega
  · rw [if_pos (by omega), if_neg h]
theorem choose_zero (n : Nat) : chooseM (rdM (List.replicate (128 * n) 0) 0) (rdM (List.replicate (128 * n) 0) 1) = (⟨0, 0, 0, 0⟩, 0, 0, false) := by
  have h0 := rd_zero n 0
  have h1 := rd_zero n 1
  simp only [Int.natCast_zero, Int.natCast_one] at h0 h1
  have e : ∀ i, unpS (if i < n then List.replicate 128 0 else []) = (⟨0, 0, 0, 0⟩, 0, false) := fun i => by
    split
    · exact unp_zero
    · exact unp_nil
  rw [h0, h1]
  unfold chooseM
  rw [e, e]
  rfl
theorem two_secs (X P Z : List Int) (hP : P.length = 128) (hZ : Z.length = 128) (hX : 256 ≤ X.length) : secM (flushI X [(0, P), (1, Z)]) 0 = P ∧ secM (flushI X [(0, P), (1, Z)]) 1 = Z := by
  have e : flushI X [(0, P), (1, Z)] = P ++ (Z ++ (lay X 0 P).drop 256) := by
    show lay (lay X 0 P) 128 Z = _
    conv => lhs; unfold lay
    rw [hZ]
    have : (X.take 0 ++ P ++ X.drop (0 + P.length)).take 128 = P := by
      rw [List.take_zero, List.nil_append, List.take_append_of_le_length (by omega), List.take_of_length_le (by omega)]
    rw [this, List.append_assoc]
    rfl
  rw [e]
  unfold secM
  constructor
  · rw [Nat.mul_zero, List.drop_zero, List.take_append_of_le_length (by omega), List.take_of_length_le (by omega)]
  · rw [Nat.mul_one, List.drop_append_of_le_length (by omega), List.drop_of_length_le (by omega), List.nil_append, List.take_append_of_le_length (by omega), List.take_of_length_le (by omega)]
theorem cellW_ok (k n : Nat) (h : k + 2 ≤ n) : ∀ p ∈ cellW k, p.1 < n ∧ p.2.length = 128 ∧ okB p.2 := fun p hp => by
  unfold cellW at hp
  obtain ⟨j, hj, rfl⟩ := List.mem_map.1 hp
  have := List.mem_range.1 hj
  exact ⟨by show 2 + j < n; omega, List.length_replicate, zeros_ok _⟩
theorem format_len (n c : Nat) (h : c + 12 ≤ n) : (formatM (List.replicate (128 * n) 0) c).length = 128 * n := by
  refine flush_len _ _ (flush_len _ _ List.length_replicate (cellW_ok c n (by omega))) fun p hp => ?_
  rcases List.mem_cons.1 hp with rfl | hp
  · exact ⟨by show 0 < n; omega, seal_len (by rw [superB_len]; decide), seal_ok (superB_ok _ _)⟩
  · obtain rfl := List.mem_singleton.1 hp
    exact ⟨by show 1 < n; omega, List.length_replicate, zeros_ok _⟩
theorem format_ok (n c : Nat) (h : c + 12 ≤ n) : okB (formatM (List.replicate (128 * n) 0) c) := by
  refine flush_ok _ _ (flush_ok _ _ (zeros_ok _) fun p hp => (cellW_ok c n (by omega) p hp).2.2) fun p hp => ?_
  rcases List.mem_cons.1 hp with rfl | hp
  · exact seal_ok (superB_ok _ _)
  · obtain rfl := List.mem_singleton.1 hp
    exact zeros_ok _
set_option maxRecDepth 100000 in
theorem choose_format (n c : Nat) (h : c + 12 ≤ n) (h1 : 1 ≤ c) (h2 : c ≤ 1024) : chooseM (rdM (formatM (List.replicate (128 * n) 0) c) 0) (rdM (formatM (List.replicate (128 * n) 0) c) 1) = ((⟨1, 1, 0, 0⟩, (c : Int), 0, true) : SuperM × Int × Int × Bool) := by
  have hl := format_len n c h
  have hX := flush_len (n := n) (cellW c) (List.replicate (128 * n) 0) List.length_replicate (cellW_ok c n (by omega))
  have hs := two_secs (flushI (List.replicate (128 * n) 0) (cellW c)) (packSuper ⟨1, 1, 0, 0⟩ c) (List.replicate 128 0) (seal_len (by rw [superB_len]; decide)) List.length_replicate (by omega)
  have e0 : rdM (formatM (List.replicate (128 * n) 0) c) 0 = packSuper ⟨1, 1, 0, 0⟩ c := by
    unfold rdM
    rw [if_neg (by rw [hl]; omega)]
    exact hs.1
  have e1 : rdM (formatM (List.replicate (128 * n) 0) c) 1 = List.replicate 128 0 := by
    unfold rdM
    rw [if_neg (by rw [hl]; omega)]
    exact hs.2
  rw [e0, e1]
  have e2 : unpS (packSuper ⟨1, 1, 0, 0⟩ c) = ((⟨1, 1, 0, 0⟩, (c : Int), true) : SuperM × Int × Bool) := by
    unfold unpS
    rw [super_back _ _ (by unfold okSuper; simp; omega)]
  unfold chooseM
  rw [e2, unp_zero]
  rfl
theorem sectors_of {l : List Int} {n : Nat} (h : l.length = 128 * n) (hn : n ≤ 4096) : sectorsM l = n := by
  unfold sectorsM
  rw [h, if_neg (by omega)]
  omega
theorem FoundErr.bl {v : Value} {w w' : World} {c : Int} (h : FoundErr v w c) (hb : Bl w w') : FoundErr v w' c := fun w1 h1 => h w1 (hb.trans h1)
theorem found_zero (v : Value) (l : List Int) (n : Nat) (w : World) (h : byteE.Is w v l) (hl : l = List.replicate (128 * n) 0) (h1 : 1 ≤ n) (hn : n ≤ 4096) : FoundErr v w 2 := fun w1 hb => by
  have hc := choose_zero n
  rw [← hl] at hc
  have hlen : l.length = 128 * n := by rw [hl, List.length_replicate]
  exact afound_bad v l w1 n 0 0 0 0 0 0 false (h.bl hb) (by omega) (by rw [hl]; exact zeros_ok _) (sectors_of hlen hn) (by omega) hn hc (by omega) (.inl rfl)
theorem found_format (v : Value) (l : List Int) (n c : Nat) (w : World) (h : byteE.Is w v l) (hl : l = formatM (List.replicate (128 * n) 0) c) (hc : c + 12 ≤ n) (h1 : 1 ≤ c) (h2 : c ≤ 1024) (hn : n ≤ 4096) : FoundZero v w := fun w1 hb => by
  have hch := choose_format n c hc h1 h2
  rw [← hl] at hch
  have hlen : l.length = 128 * n := by rw [hl]; exact format_len n c hc
  refine (afound_zero v l w1 n 1 1 0 c 0 (h.bl hb) (by omega) (by rw [hl]; exact format_ok n c hc) (sectors_of hlen hn) (by omega) hn hch (by omega) (by omega)).mono ?_
  rintro e w2 ⟨F, M, rfl, hb2, hF⟩
  exact ⟨F, M, 1, 1, 0, c, rfl, hb2, hF⟩
theorem found_arg (v : Value) (l : List Int) (w : World) (h : byteE.Is w v l) (hl : l.length ≤ 1000000) (hs : sectorsM l = 0) : FoundErr v w 1 := fun w1 hb => afound_arg v l w1 (h.bl hb) hl hs
end Go.Proofs.YtoocebghlchcoaaGreat.ExtW
