/- Great numbers: the limbs of 24 bits. -/
import Derived.Test.YtggojahlhpijeaaF4
namespace Go.Proofs.YtggojahlhpijeaaF
open Go Go.Proofs Go.Proofs.YtggojahlhpijeaaA Go.Proofs.YtggojahlhpijeaaN Go.Proofs.YtggojahlhpijeaaT
set_option maxRecDepth 10000
set_option maxHeartbeats 1000000
/-- How many limbs of 24 bits. -/
def M (n : Nat) : Nat := (dg H n).length
theorem limV_sl (n : Nat) : limV n = .sl false (M n) (raws .i64 (dg H n)) := rfl
theorem M_len (n : Nat) : (dg H n).length = M n := rfl
theorem M_zero {n : Nat} : M n = 0 ↔ n = 0 := length_dg_zero one_lt_H
theorem M_le {n k : Nat} (h : n < H ^ k) : M n ≤ k := length_dg_le one_lt_H h
theorem M_mono {a b : Nat} (h : a ≤ b) : M a ≤ M b := length_dg_mono one_lt_H h
theorem M_add (a b : Nat) : M (a + b) ≤ max (M a) (M b) + 1 := length_dg_add one_lt_H a b
theorem M_mul (a b : Nat) : M (a * b) ≤ M a + M b := length_dg_mul one_lt_H a b
theorem lt_M (n : Nat) : n < H ^ M n := lt_dg one_lt_H n
theorem dgH_lt {n i : Nat} : (dg H n).getD i 0 < 16777216 := (dig_dg one_lt_H n).getD (by decide) i
theorem getH_lt {xs : List Nat} (h : Dig H xs) {i : Nat} : xs.getD i 0 < 16777216 := h.getD (by decide) i
attribute [go_sem] M_len
theorem trimH_good (xs : List Nat) (hd : Dig H xs) (hl : xs.length < 10000000) : Good1 Try.prog 78 [lstV .i64 xs] (limV (vl H xs)) := by
  refine good1_of (io := io) mix Try.func78 rfl (by decide +kernel) (by kernel_rfl) ?_; simp only [Try.f78]
  simp -implicitDefEqProofs (disch := omega) only [go_sem, lstV]
  refine loop_in (fun k σ => k ≤ xs.length ∧ trimR (xs.take k) = trimR xs ∧ ∃ g : Nat → AV, σ = ⟨[.sl false xs.length (raws .i64 xs), g 1, g 2, .i .i64 (k : Nat), g 4, g 5, g 6, g 7, g 8, g 9, g 10, g 11, g 12, g 13, g 14, g 15, g 16, g 17, g 18, g 19, g 20], [], fun _ => false⟩) xs.length ?_ ?_
  · exact ⟨Nat.le_refl _, by rw [List.take_length], inv_intro rfl⟩
  · rintro k σ ⟨hk, ht, g, rfl⟩
    rcases Nat.eq_zero_or_pos k with rfl | hk0
    · simp -implicitDefEqProofs (disch := omega) only [go_sem, List.take_zero]
      rw [List.take_zero] at ht
      have e : dg H (vl H xs) = [] := by rw [dg_vl one_lt_H hd, ← ht]; rfl
      rw [limV, e]; rfl
    · have hlast : (xs.take k).length = k := by rw [List.length_take]; omega
      by_cases hz : xs.getD (k - 1) 0 = 0
      · simp -implicitDefEqProofs (disch := omega) only [go_sem, hz]
        refine ⟨k - 1, by omega, by omega, ?_, inv_intro rfl⟩
        rw [← ht, take_pred_getD hk0 hk, hz, trimR_concat_zero]
      · simp -implicitDefEqProofs (disch := omega) only [go_sem]
        rw [limV, dg_vl one_lt_H hd, ← ht, take_pred_getD hk0 hk, trimR_concat hz, ← take_pred_getD hk0 hk, lstV, hlast]
theorem l02In_good (s : ByteArray) (hs : s.size < 10000000) : Good1 Try.prog 47 [.s s] (limV (sv s)) := by
  refine good1_of (io := io) mix Try.func47 rfl (by decide +kernel) (by kernel_rfl) ?_; simp only [Try.f47]
  simp -implicitDefEqProofs (disch := omega) only [go_sem]
  refine loop_in (fun m σ => ∃ (t : Nat) (e : Int) (o : List Nat) (v : AV) (S : Store), m = s.size - 3 * t ∧ e = (s.size : Int) - 3 * t ∧ 3 * t < s.size + 3 ∧ o.length = t ∧ Dig H o ∧ svp (byteAt s) s.size = vl H o + H ^ t * svp (byteAt s) (s.size - 3 * t) ∧ Buf .i64 o v S ∧
      ∃ g : Nat → AV, σ = ⟨[.s s, g 1, g 2, v, .i .i64 e, g 5, g 6, g 7, g 8, g 9, g 10, g 11, g 12, g 13, g 14, g 15, g 16, g 17, g 18, g 19, g 20, g 21, g 22, g 23, g 24, g 25, g 26, g 27, g 28, g 29, g 30, g 31, g 32, g 33, g 34, g 35], S, fun _ => false⟩) s.size ?_ ?_
  · exact ⟨0, _, [], _, _, by omega, by omega, by omega, rfl, (fun x hx => nomatch hx), by simp [vl], .inl ⟨rfl, rfl, rfl⟩, inv_intro rfl⟩
  · rintro m σ ⟨t, e, o, v, S, rfl, he, ht, hlo, hdo, hv, hB, g, rfl⟩
    by_cases hlt : 0 < e
    · simp -implicitDefEqProofs (disch := omega) only [go_sem]
      refine loop_in (fun m σ => ∃ (i : Int) (n : Nat), m = (e - i).toNat ∧ e - 3 ≤ i ∧ i ≤ e ∧ svp (byteAt s) i.toNat = svp (byteAt s) (s.size - 3 * t - 3) * 256 ^ (i.toNat - (s.size - 3 * t - 3)) + n ∧ n < 256 ^ (i.toNat - (s.size - 3 * t - 3)) ∧
        ∃ g : Nat → AV, σ = ⟨[.s s, g 1, g 2, v, .i .i64 e, .i .i64 (n : Nat), .i .i64 i, g 7, g 8, g 9, g 10, g 11, g 12, g 13, g 14, g 15, g 16, g 17, g 18, g 19, g 20, g 21, g 22, g 23, g 24, g 25, g 26, g 27, g 28, g 29, g 30, g 31, g 32, g 33, g 34, g 35], S, fun _ => false⟩) 3 ?_ ?_
      · refine ⟨e - 3, 0, by omega, by omega, by omega, ?_, ?_, inv_intro rfl⟩
        · rw [show (e - 3).toNat = s.size - 3 * t - 3 from by omega]; simp
        · exact Nat.pow_pos (by decide)
      · rintro m σ ⟨i, n, rfl, hi1, hi2, hn, hnl, g, rfl⟩
        by_cases hi3 : i < e
        · by_cases hi0 : 0 ≤ i
          · obtain ⟨j, rfl⟩ := Int.eq_ofNat_of_zero_le hi0
            have hb := byteAt_lt (s := s) (n := j)
            have h3 : 256 ^ (j - (s.size - 3 * t - 3)) ≤ 256 ^ 2 := Nat.pow_le_pow_right (by decide) (by omega)
            simp only [Int.toNat_natCast] at hn hnl
            simp -implicitDefEqProofs (disch := omega) only [go_sem]
            refine ⟨_, by omega, (j + 1 : Nat), 256 * n + byteAt s j, rfl, by omega, by omega, ?_, ?_, inv_intro rfl⟩
            · rw [Int.toNat_natCast, svp, hn, show j + 1 - (s.size - 3 * t - 3) = j - (s.size - 3 * t - 3) + 1 from by omega, Nat.pow_succ, Nat.add_mul, Nat.mul_assoc]
              omega
            · rw [Int.toNat_natCast, show j + 1 - (s.size - 3 * t - 3) = j - (s.size - 3 * t - 3) + 1 from by omega, Nat.pow_succ]
              omega
          · simp -implicitDefEqProofs (disch := omega) only [go_sem]
            have e1 : i.toNat = 0 := by omega
            have e2 : (i + 1).toNat = 0 := by omega
            refine ⟨_, by omega, i + 1, n, rfl, by omega, by omega, ?_, ?_, inv_intro rfl⟩
            · rw [e2, ← e1]; exact hn
            · rw [e2, ← e1]; exact hnl
        · obtain rfl : i = e := by omega
          have e1 : i.toNat = s.size - 3 * t := by omega
          rw [e1] at hn hnl
          obtain ⟨h1, h2⟩ := svp_three hn hnl
          have hH : H = 16777216 := rfl
          have h3 : svp (byteAt s) s.size = vl H (o ++ [n]) + H ^ (t + 1) * svp (byteAt s) (s.size - 3 * (t + 1)) := by
            rw [vl_concat, hlo, hv, h1, show s.size - 3 * (t + 1) = s.size - 3 * t - 3 from by omega, Nat.pow_succ, Nat.mul_add, Nat.mul_assoc]
            omega
          have hd : Dig H (o ++ [n]) := dig_append hdo (dig_one h2)
          rcases hB with ⟨rfl, rfl, rfl⟩ | ⟨j, hx, rfl, rfl⟩
          · simp -implicitDefEqProofs (disch := omega) only [go_sem]
            exact ⟨_, by omega, t + 1, _, [n], _, _, rfl, by omega, by omega, by rw [← hlo]; rfl, hd, h3, .inr ⟨0, rfl, rfl, rfl⟩, inv_intro rfl⟩
          · simp -implicitDefEqProofs (disch := omega) only [go_sem]
            exact ⟨_, by omega, t + 1, _, o ++ [n], _, _, rfl, by omega, by omega, by simp [hlo], hd, h3, .inr ⟨j + 1, by simp [hx], rfl, rfl⟩, inv_intro rfl⟩
    · have e1 : s.size - 3 * t = 0 := by omega
      rw [e1] at hv
      have hv : vl H o = sv s := by rw [sv, hv]; simp [svp]
      have htr := trimH_good o hdo (by omega)
      rcases hB with ⟨rfl, rfl, rfl⟩ | ⟨j, hx, rfl, rfl⟩
      · simp -implicitDefEqProofs (disch := omega) only [go_sem]
        refine call1_in htr ?_
        simp -implicitDefEqProofs (disch := omega) only [go_sem, hv]
      · simp -implicitDefEqProofs (disch := omega) only [go_sem]
        rw [lstV_eq (by omega)]
        refine call1_in htr ?_
        simp -implicitDefEqProofs (disch := omega) only [go_sem, hv]
theorem l02Out_good (v : Nat) (hn : M v < 1000000) : Good1 Try.prog 45 [limV v] (.s (sb v)) := by
  have hl : (dg H v).length = M v := rfl
  refine good1_of (io := io) mix Try.func45 rfl (by decide +kernel) (by kernel_rfl) ?_; simp only [Try.f45]
  simp -implicitDefEqProofs (disch := omega) only [go_sem, limV_sl]
  refine loop_in (fun m σ => ∃ i bs, m = M v - i ∧ i ≤ M v ∧ bs.length = 3 * M v ∧ (∀ p, p < 3 * i → bs.getD (3 * M v - 1 - p) 0 = v / 256 ^ p % 256) ∧
      ∃ g : Nat → AV, σ = ⟨[limV v, g 1, g 2, .ref 0 1 0 (3 * M v), .i .i64 (i : Nat), g 5, g 6, g 7, g 8, g 9, g 10, g 11, g 12, g 13, g 14, g 15, g 16, g 17, g 18, g 19, g 20, g 21, g 22, g 23, g 24, g 25, g 26, g 27, g 28, g 29, g 30, g 31, g 32, g 33, g 34, g 35, g 36, g 37, g 38, g 39, g 40, g 41, g 42, g 43, g 44, g 45, g 46, g 47, g 48, g 49, g 50, g 51, g 52, g 53, g 54, g 55, g 56, g 57, g 58, g 59, g 60, g 61, g 62, g 63, g 64, g 65, g 66, g 67], [some (raws .u8 bs)], fun _ => false⟩) (M v) ?_ ?_
  · exact ⟨0, List.replicate (3 * M v) 0, by omega, by omega, by simp, fun p hp => absurd hp (by omega), inv_intro rfl⟩
  · rintro m σ ⟨i, bs, rfl, hi, hbl, hb, g, rfl⟩
    by_cases hlt : i < M v
    · have hd := dgH_lt (n := v) (i := i)
      obtain ⟨h1, h2, h3⟩ := byte_of_H v i
      rw [← getD_dg one_lt_H] at h1 h2 h3
      simp -implicitDefEqProofs (disch := omega) only [go_sem, limV_sl]
      refine ⟨_, by omega, i + 1, _, rfl, by omega, ?_, ?_, inv_intro rfl⟩
      · simp only [List.length_set]; exact hbl
      · intro p hp
        rw [h1, h2, h3]
        simp only [getD_set, List.length_set]
        rcases (show p < 3 * i ∨ p = 3 * i ∨ p = 3 * i + 1 ∨ p = 3 * i + 2 by omega) with hp | rfl | rfl | rfl
        · rw [if_neg (by omega), if_neg (by omega), if_neg (by omega)]; exact hb p hp
        · rw [if_neg (by omega), if_neg (by omega), if_pos (by omega)]
        · rw [if_neg (by omega), if_pos (by omega)]
        · rw [if_pos (by omega)]
    · obtain rfl : i = M v := by omega
      simp -implicitDefEqProofs (disch := omega) only [go_sem, limV_sl]
      have hlt : v < 256 ^ bs.length := by rw [hbl, ← powH]; exact lt_M v
      have hb' : ∀ p, p < bs.length → bs.getD (bs.length - 1 - p) 0 = v / 256 ^ p % 256 := by rw [hbl]; exact hb
      refine loop_in (fun m σ => ∃ k, m = 3 * M v - k ∧ k ≤ 3 * M v ∧ (∀ j, j < k → bs.getD j 0 = 0) ∧
        ∃ g : Nat → AV, σ = ⟨[limV v, g 1, g 2, .ref 0 1 0 (3 * M v), g 4, g 5, .i .i64 (k : Nat), g 7, g 8, g 9, g 10, g 11, g 12, g 13, g 14, g 15, g 16, g 17, g 18, g 19, g 20, g 21, g 22, g 23, g 24, g 25, g 26, g 27, g 28, g 29, g 30, g 31, g 32, g 33, g 34, g 35, g 36, g 37, g 38, g 39, g 40, g 41, g 42, g 43, g 44, g 45, g 46, g 47, g 48, g 49, g 50, g 51, g 52, g 53, g 54, g 55, g 56, g 57, g 58, g 59, g 60, g 61, g 62, g 63, g 64, g 65, g 66, g 67], [some (raws .u8 bs)], fun _ => false⟩) (3 * M v) ?_ ?_
      · exact ⟨0, by omega, by omega, fun j hj => absurd hj (by omega), inv_intro rfl⟩
      · rintro m σ ⟨k, rfl, hk, h0, g, rfl⟩
        by_cases hk1 : k < 3 * M v
        · by_cases hz : bs.getD k 0 = 0
          · simp -implicitDefEqProofs (disch := omega) only [go_sem, hz]
            refine ⟨_, by omega, k + 1, rfl, by omega, fun j hj => ?_, inv_intro rfl⟩
            rcases Nat.lt_or_ge j k with h | h
            · exact h0 j h
            · rw [show j = k by omega]; exact hz
          · simp -implicitDefEqProofs (disch := omega) only [go_sem]
            rw [sb, sbl, ← bytes_drop hlt hb' (by omega) h0 (.inr hz)]
        · obtain rfl : k = 3 * M v := by omega
          simp -implicitDefEqProofs (disch := omega) only [go_sem]
          rw [sb, sbl, ← bytes_drop hlt hb' (by omega) h0 (.inl hbl.symm)]
end Go.Proofs.YtggojahlhpijeaaF
