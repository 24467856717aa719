/- Great numbers: how they are compared, and what SubGreat tells. -/
import Derived.Test.YtggojahlhpijeaaF7
namespace Go.Proofs.YtggojahlhpijeaaF
open Go Go.Proofs Go.Proofs.YtggojahlhpijeaaA Go.Proofs.YtggojahlhpijeaaN Go.Proofs.YtggojahlhpijeaaT
set_option maxRecDepth 10000
set_option maxHeartbeats 1000000
/-- How numbers are compared: -1, 0 or 1. -/
def hcmp (a b : Nat) : Int := if a < b then -1 else if a = b then 0 else 1
theorem cmpH_good (a b : Nat) (ha : M a < 1000000) (hb : M b < 1000000) : Good1 Try.prog 83 [limV a, limV b] (.i .i64 (hcmp a b)) := by
  have hla : (dg H a).length = M a := rfl
  have hlb : (dg H b).length = M b := rfl
  refine good1_of (io := io) mix Try.func83 rfl (by decide +kernel) (by kernel_rfl) ?_; simp only [Try.f83]
  by_cases hl : M a = M b
  · simp -implicitDefEqProofs (disch := omega) only [go_sem, limV_sl]
    refine loop_in (fun k σ => k ≤ M a ∧ (dg H a).drop k = (dg H b).drop k ∧ ∃ g : Nat → AV, σ = ⟨[limV a, limV b, g 2, g 3, g 4, .i .i64 ((k : Int) - 1), g 6, g 7, g 8, g 9, g 10, g 11, g 12, g 13, g 14, g 15, g 16, g 17, g 18, g 19, g 20, g 21, g 22, g 23, g 24, g 25, g 26, g 27, g 28, g 29, g 30, g 31, g 32, g 33, g 34, g 35, g 36, g 37, g 38, g 39, g 40], [], fun _ => false⟩) (M a) ?_ ?_
    · exact ⟨Nat.le_refl _, by rw [List.drop_of_length_le (by omega), List.drop_of_length_le (by omega)], inv_intro rfl⟩
    · rintro k σ ⟨hk, hd, g, rfl⟩
      rcases k with _ | k
      · simp -implicitDefEqProofs (disch := omega) only [go_sem]
        have e : a = b := by rw [← vl_dg one_lt_H a, ← vl_dg one_lt_H b]; simpa using congrArg (vl H) hd
        subst e
        simp [hcmp]
      · rw [show ((k + 1 : Nat) : Int) - 1 = (k : Int) by omega]
        simp -implicitDefEqProofs (disch := omega) only [go_sem, limV_sl]
        have h1 := dgH_lt (n := a) (i := k)
        have h2 := dgH_lt (n := b) (i := k)
        by_cases he : (dg H a).getD k 0 = (dg H b).getD k 0
        · simp -implicitDefEqProofs (disch := omega) only [go_sem, he]
          exact ⟨k, by omega, by omega, drop_succ_eq (by omega) (by omega) hd he, inv_intro rfl⟩
        · simp -implicitDefEqProofs (disch := omega) only [go_sem, he]
          by_cases hlt : (dg H a).getD k 0 < (dg H b).getD k 0
          · simp -implicitDefEqProofs (disch := omega) only [go_sem]
            have := vl_lt_of (dig_dg one_lt_H a) (by omega) (by omega) hd hlt
            rw [vl_dg one_lt_H, vl_dg one_lt_H] at this
            simp [hcmp, this]
          · simp -implicitDefEqProofs (disch := omega) only [go_sem]
            have := vl_lt_of (dig_dg one_lt_H b) (by omega) (by omega) hd.symm (by omega)
            rw [vl_dg one_lt_H, vl_dg one_lt_H] at this
            simp [hcmp, show ¬ a < b by omega, show a ≠ b by omega]
  · by_cases hlt : M a < M b
    · have := lt_of_len one_lt_H (show (dg H a).length < (dg H b).length from hlt)
      simp -implicitDefEqProofs (disch := omega) only [go_sem, limV_sl]
      simp [hcmp, this]
    · have := lt_of_len one_lt_H (show (dg H b).length < (dg H a).length by omega)
      simp -implicitDefEqProofs (disch := omega) only [go_sem, limV_sl]
      simp [hcmp, show ¬ a < b by omega, show a ≠ b by omega]
theorem cmpS_good (a b : ByteArray) : Good1 Try.prog 54 [.s a, .s b] (.i .i64 (if gok a && gok b then hcmp (sv a) (sv b) else 0)) := by
  refine good1_of (io := io) mix Try.func54 rfl (by decide +kernel) (by kernel_rfl) ?_; simp only [Try.f54]
  have hA := gok_spec a
  have hB := gok_spec b
  cases ha : gok a <;> rw [ha] at hA
  · simp -implicitDefEqProofs (disch := omega) only [go_sem]
    refine call1_in hA ?_
    simp -implicitDefEqProofs (disch := omega) only [go_sem]
  cases hb : gok b <;> rw [hb] at hB
  · simp -implicitDefEqProofs (disch := omega) only [go_sem]
    refine call1_in hA ?_
    simp -implicitDefEqProofs (disch := omega) only [go_sem]
    refine call1_in hB ?_
    simp -implicitDefEqProofs (disch := omega) only [go_sem]
  · have h1 := M_sv ha
    have h2 := M_sv hb
    simp -implicitDefEqProofs (disch := omega) only [go_sem]
    refine call1_in hA ?_
    simp -implicitDefEqProofs (disch := omega) only [go_sem]
    refine call1_in hB ?_
    simp -implicitDefEqProofs (disch := omega) only [go_sem]
    refine call1_in (l02In_good a (by have := gok_size ha; omega)) ?_
    simp -implicitDefEqProofs (disch := omega) only [go_sem]
    refine call1_in (l02In_good b (by have := gok_size hb; omega)) ?_
    simp -implicitDefEqProofs (disch := omega) only [go_sem]
    refine call1_in (cmpH_good _ _ (by omega) (by omega)) ?_
    simp -implicitDefEqProofs (disch := omega) only [go_sem]
theorem hcmp_lt {a b : Nat} : hcmp a b < 0 ↔ a < b := by
  unfold hcmp
  split
  · simp [*]
  · split <;> simp [*]

theorem dg_bytes_le {n k : Nat} (h : n < 256 ^ k) : (dg 256 n).length ≤ k := length_dg_le (by decide) h
theorem sb_size (n : Nat) : (sb n).size = (dg 256 n).length := by simp [sb, sbl, ByteArray.size]
theorem sb_head (n : Nat) (h : n ≠ 0) : byteAt (sb n) 0 ≠ 0 := by
  have h1 := last_dg (B := 256) (by decide) h
  have h0 := length_dg_zero (B := 256) (by decide) (n := n)
  have h2 : (dg 256 n).getD ((dg 256 n).length - 1) 0 < 256 := (dig_dg (by decide) n).getD (by decide) _
  have e : (sb n)[0]? = some (UInt8.ofNat ((dg 256 n).getD ((dg 256 n).length - 1) 0)) := by
    have e1 : (sb n)[0]? = ((sbl n).map UInt8.ofNat)[0]? := by
      have hs := sb_size n
      rw [getElem?_pos (sb n) 0 (by omega), getElem?_pos _ 0 (by simp [sbl]; omega)]
      simp [sb, ByteArray.getElem_eq_getElem_data]
    rw [e1, List.getElem?_map, sbl, List.getElem?_reverse (by omega), getD_lt (by omega), List.getElem?_eq_getElem (by omega)]
    simp
  rw [byteAt, e]
  rw [Option.getD_some, UInt8.toNat_ofNat', Nat.mod_eq_of_lt h2]
  exact h1
/-- The bytes of a number that is not too great are a great number. -/
theorem bnd_sb {n : Nat} (h : n < 256 ^ 160) : bnd (sb n) = sb n := by
  have h1 := dg_bytes_le h
  have : gok (sb n) = true := by
    simp only [gok, sb_size, Bool.and_eq_true, decide_eq_true_eq, Bool.or_eq_true, Bool.not_eq_true', decide_eq_false_iff_not]
    refine ⟨h1, ?_⟩
    by_cases h0 : n = 0
    · left; exact (length_dg_zero (by decide)).2 h0
    · right; exact sb_head n h0
  rw [bnd, this]; rfl
def subG (a b : ByteArray) : AV := if gok a && gok b && !decide (sv a < sv b) then .tup [.s (sb (sv a - sv b)), .b true] else .tup [.s ⟨#[]⟩, .b false]
theorem subS_good (a b : ByteArray) : Good1 Try.prog 18 [.s a, .s b] (subG a b) := by
  refine good1_of (io := io) mix Try.func18 rfl (by decide +kernel) (by kernel_rfl) ?_; simp only [Try.f18]
  have hA := gok_spec a
  have hB := gok_spec b
  have hC := cmpS_good a b
  cases ha : gok a <;> rw [ha] at hA
  · simp -implicitDefEqProofs (disch := omega) only [go_sem]
    refine call1_in hA ?_
    simp -implicitDefEqProofs (disch := omega) only [go_sem]
    simp [subG, ha]
  cases hb : gok b <;> rw [hb] at hB
  · simp -implicitDefEqProofs (disch := omega) only [go_sem]
    refine call1_in hA ?_
    simp -implicitDefEqProofs (disch := omega) only [go_sem]
    refine call1_in hB ?_
    simp -implicitDefEqProofs (disch := omega) only [go_sem]
    simp [subG, hb]
  rw [ha, hb] at hC
  have h1 := M_sv ha
  have h2 := M_sv hb
  by_cases hlt : sv a < sv b
  · have hh := hcmp_lt.2 hlt
    simp -implicitDefEqProofs (disch := omega) only [go_sem]
    refine call1_in hA ?_
    simp -implicitDefEqProofs (disch := omega) only [go_sem]
    refine call1_in hB ?_
    simp -implicitDefEqProofs (disch := omega) only [go_sem]
    refine call1_in hC ?_
    simp -implicitDefEqProofs (disch := omega) only [go_sem, Bool.and_self]
    simp [subG, hlt]
  · have hh : ¬ hcmp (sv a) (sv b) < 0 := fun h => hlt (hcmp_lt.1 h)
    have h3 := M_mono (Nat.sub_le (sv a) (sv b))
    simp -implicitDefEqProofs (disch := omega) only [go_sem]
    refine call1_in hA ?_
    simp -implicitDefEqProofs (disch := omega) only [go_sem]
    refine call1_in hB ?_
    simp -implicitDefEqProofs (disch := omega) only [go_sem]
    refine call1_in hC ?_
    simp -implicitDefEqProofs (disch := omega) only [go_sem, Bool.and_self]
    refine call1_in (l02In_good a (by have := gok_size ha; omega)) ?_
    simp -implicitDefEqProofs (disch := omega) only [go_sem]
    refine call1_in (l02In_good b (by have := gok_size hb; omega)) ?_
    simp -implicitDefEqProofs (disch := omega) only [go_sem]
    refine call1_in (subH_good _ _ (by omega) (by omega)) ?_
    simp -implicitDefEqProofs (disch := omega) only [go_sem]
    refine call1_in (l02Out_good _ (by omega)) ?_
    simp -implicitDefEqProofs (disch := omega) only [go_sem]
    simp [subG, hlt, ha, hb]
theorem subI_good (a b : ByteArray) : Good1 Try.prog 19 [.s a, .s b] (subG a b) := by
  refine good1_of (io := io) mix Try.func19 rfl (by decide +kernel) (by kernel_rfl) ?_; simp only [Try.f19]
  have hAB := areGreat_good [a, b] (by show 2 < 1000000; decide)
  cases hc : [a, b].all gok <;> rw [hc] at hAB <;> simp only [List.all_cons, List.all_nil, Bool.and_true] at hc
  · simp -implicitDefEqProofs (disch := omega) only [go_sem]
    refine call1_in hAB ?_
    simp -implicitDefEqProofs (disch := omega) only [go_sem]
    simp [subG, hc]
  · have hc' := hc
    rw [Bool.and_eq_true] at hc'
    have h1 := L_sv hc'.1
    have h2 := L_sv hc'.2
    have hn1 := natOf_good a (by have := gok_size hc'.1; omega)
    have hn2 := natOf_good b (by have := gok_size hc'.2; omega)
    by_cases hlt : sv a < sv b
    · have hh := ncmp_lt.2 hlt
      simp -implicitDefEqProofs (disch := omega) only [go_sem]
      refine call1_in hAB ?_
      simp -implicitDefEqProofs (disch := omega) only [go_sem]
      refine call1_in hn1 ?_
      simp -implicitDefEqProofs (disch := omega) only [go_sem]
      refine call1_in hn2 ?_
      simp -implicitDefEqProofs (disch := omega) only [go_sem]
      refine call1_in (cmp_good _ _ (by omega) (by omega)) ?_
      simp -implicitDefEqProofs (disch := omega) only [go_sem]
      simp [subG, hlt]
    · have hh : ¬ ncmp (sv a) (sv b) < 0 := fun h => hlt (ncmp_lt.1 h)
      have h3 := L_mono (Nat.sub_le (sv a) (sv b))
      simp -implicitDefEqProofs (disch := omega) only [go_sem]
      refine call1_in hAB ?_
      simp -implicitDefEqProofs (disch := omega) only [go_sem]
      refine call1_in hn1 ?_
      simp -implicitDefEqProofs (disch := omega) only [go_sem]
      refine call1_in hn2 ?_
      simp -implicitDefEqProofs (disch := omega) only [go_sem]
      refine call1_in (cmp_good _ _ (by omega) (by omega)) ?_
      simp -implicitDefEqProofs (disch := omega) only [go_sem]
      refine call1_in hn1 ?_
      simp -implicitDefEqProofs (disch := omega) only [go_sem]
      refine call1_in hn2 ?_
      simp -implicitDefEqProofs (disch := omega) only [go_sem]
      refine call1_in (less_good _ _ (by omega) (by omega)) ?_
      simp -implicitDefEqProofs (disch := omega) only [go_sem]
      refine call1_in (great_good _ (by omega)) ?_
      simp -implicitDefEqProofs (disch := omega) only [go_sem]
      have hlt2 : sv a - sv b < 256 ^ 160 := by
        have := sv_lt a
        have := Nat.pow_le_pow_right (n := 256) (by decide) (gok_size hc'.1)
        omega
      rw [bnd_sb hlt2]
      simp [subG, hlt, hc]

end Go.Proofs.YtggojahlhpijeaaF
