/- Great numbers: sums of limbs of 24 bits. -/
import Derived.Test.YtggojahlhpijeaaF5
namespace Go.Proofs.YtggojahlhpijeaaF
open Go Go.Proofs Go.Proofs.YtggojahlhpijeaaA Go.Proofs.YtggojahlhpijeaaN Go.Proofs.YtggojahlhpijeaaT
set_option maxRecDepth 10000
set_option maxHeartbeats 1000000
theorem carryH (P s : Nat) : P * (s % 16777216) + P * (H * (s / 16777216)) = P * s := by
  rw [← Nat.mul_add]; exact congrArg (P * ·) (Nat.mod_add_div s _)
theorem plusH_good1 (a b : Nat) (ha : M a < 1000000) (hba : M b ≤ M a) : Good1 Try.prog 46 [limV a, limV b] (limV (a + b)) := by
  have hla : (dg H a).length = M a := rfl
  have hlb : (dg H b).length = M b := rfl
  refine good1_of (io := io) mix Try.func46 rfl (by decide +kernel) (by kernel_rfl) ?_; simp only [Try.f46]
  simp -implicitDefEqProofs (disch := omega) only [go_sem, limV_sl]
  refine loop_in (fun m σ => ∃ i c o, m = M a - i ∧ i ≤ M a ∧ c ≤ 1 ∧ Dig H o ∧ o.length = i ∧ vl H o + H ^ i * c = vl H ((dg H a).take i) + vl H ((dg H b).take i) ∧
      ∃ g : Nat → AV, σ = ⟨[limV a, limV b, g 2, g 3, g 4, .ref i 1 0 i, .i .i64 (c : Nat), .i .i64 (i : Nat), g 8, g 9, g 10, g 11, g 12, g 13, g 14, g 15, g 16, g 17, g 18, g 19, g 20, g 21, g 22, g 23, g 24, g 25, g 26, g 27, g 28, g 29, g 30, g 31, g 32, g 33, g 34, g 35, g 36, g 37, g 38, g 39, g 40, g 41, g 42, g 43, g 44, g 45, g 46, g 47, g 48, g 49, g 50, g 51, g 52, g 53, g 54, g 55, g 56], List.replicate i none ++ [some (raws .i64 o)], fun _ => false⟩) (M a) ?_ ?_
  · exact ⟨0, 0, [], by omega, by omega, by omega, (fun x hx => nomatch hx), rfl, by simp [vl], inv_intro rfl⟩
  · rintro m σ ⟨i, c, o, rfl, hi, hc1, hdo, hlo, hv, g, rfl⟩
    by_cases hlt : i < M a
    · have h1 := dgH_lt (n := a) (i := i)
      have h2 := dgH_lt (n := b) (i := i)
      simp -implicitDefEqProofs (disch := omega) only [go_sem, limV_sl]
      refine cond2_in (fun hc => ?_) (fun hc => ?_) <;> simp only [decide_eq_true_eq, decide_eq_false_iff_not] at hc
      · simp -implicitDefEqProofs (disch := omega) only [go_sem]
        refine ⟨_, by omega, i + 1, _, _, rfl, by omega, ?_, dig_append hdo (dig_one ?_), ?_, ?_, inv_intro rfl⟩
        · omega
        · exact Nat.mod_lt _ (by decide)
        · simp [hlo]
        · rw [vl_concat, hlo, vl_take_succ', vl_take_succ', Nat.pow_succ, Nat.mul_assoc]
          generalize hP : H ^ i = P at *
          rw [Nat.add_assoc, carryH, Nat.mul_add, Nat.mul_add]
          omega
      · have hz : (dg H b).getD i 0 = 0 := getD_ge (by omega)
        simp -implicitDefEqProofs (disch := omega) only [go_sem]
        refine ⟨_, by omega, i + 1, _, _, rfl, by omega, ?_, dig_append hdo (dig_one ?_), ?_, ?_, inv_intro rfl⟩
        · omega
        · exact Nat.mod_lt _ (by decide)
        · simp [hlo]
        · rw [vl_concat, hlo, vl_take_succ', vl_take_succ', Nat.pow_succ, Nat.mul_assoc, hz]
          generalize hP : H ^ i = P at *
          rw [Nat.add_assoc, carryH, Nat.mul_add]
          omega
    · obtain rfl : i = M a := by omega
      rw [List.take_of_length_le (by omega), List.take_of_length_le (by omega), vl_dg one_lt_H, vl_dg one_lt_H] at hv
      by_cases hc0 : c = 0
      · subst hc0
        have e : dg H (a + b) = o := by
          rw [← hv, Nat.mul_zero, Nat.add_zero, dg_vl one_lt_H hdo]
          refine trimR_full ?_
          rw [← dg_vl one_lt_H hdo, show vl H o = a + b by omega, hlo]
          exact M_mono (Nat.le_add_right a b)
        have e2 : M (a + b) = M a := by rw [M, e, hlo]
        simp -implicitDefEqProofs (disch := omega) only [go_sem, limV_sl]
        rw [e, e2]
      · have e : dg H (a + b) = o ++ [c] := by
          rw [← hv, ← hlo, ← vl_concat, dg_vl one_lt_H (dig_append hdo (dig_one (by show c < 16777216; omega))), trimR_concat hc0]
        have e2 : M (a + b) = M a + 1 := by rw [M, e]; simp [hlo]
        simp -implicitDefEqProofs (disch := omega) only [go_sem, limV_sl]
        rw [e, e2]
theorem plusH_good (a b : Nat) (ha : M a < 1000000) (hb : M b < 1000000) : Good1 Try.prog 46 [limV a, limV b] (limV (a + b)) := by
  by_cases h : M b ≤ M a
  · exact plusH_good1 a b ha h
  · have := plusH_good1 b a hb (by omega)
    refine good1_of (io := io) mix Try.func46 rfl (by decide +kernel) (by kernel_rfl) ?_; simp only [Try.f46]
    simp -implicitDefEqProofs (disch := omega) only [go_sem, limV_sl]
    refine call1_in this ?_
    simp -implicitDefEqProofs (disch := omega) only [go_sem, limV_sl]
    rw [Nat.add_comm]
/-- What AddGreat tells. -/
def addG (a b : ByteArray) : ByteArray := if gok a && gok b then bnd (sb (sv a + sv b)) else ⟨#[]⟩
theorem gok_size {s : ByteArray} (h : gok s = true) : s.size ≤ 160 := by
  simp only [gok, Bool.and_eq_true, decide_eq_true_eq] at h; exact h.1
theorem sv_lt (s : ByteArray) : sv s < 256 ^ s.size := svp_lt (fun _ => byteAt_lt) _
theorem L_sv {s : ByteArray} (h : gok s = true) : L (sv s) ≤ 20 := by
  refine L_le (Nat.lt_of_lt_of_le (sv_lt s) ?_)
  rw [show W = 256 ^ 8 from by decide, ← Nat.pow_mul]
  exact Nat.pow_le_pow_right (by decide) (gok_size h)
theorem M_sv {s : ByteArray} (h : gok s = true) : M (sv s) ≤ 54 := by
  refine M_le (Nat.lt_of_lt_of_le (sv_lt s) ?_)
  rw [show H = 256 ^ 3 from by decide, ← Nat.pow_mul]
  exact Nat.pow_le_pow_right (by decide) (Nat.le_trans (gok_size h) (by decide))

theorem addS_good (a b : ByteArray) : Good1 Try.prog 14 [.s a, .s b] (.s (addG a b)) := by
  refine good1_of (io := io) mix Try.func14 rfl (by decide +kernel) (by kernel_rfl) ?_; simp only [Try.f14]
  have hA := gok_spec a
  have hB := gok_spec b
  cases ha : gok a <;> rw [ha] at hA
  · simp -implicitDefEqProofs (disch := omega) only [go_sem]
    refine call1_in hA ?_
    simp -implicitDefEqProofs (disch := omega) only [go_sem]
    simp [addG, ha]
  cases hb : gok b <;> rw [hb] at hB
  · simp -implicitDefEqProofs (disch := omega) only [go_sem]
    refine call1_in hA ?_
    simp -implicitDefEqProofs (disch := omega) only [go_sem]
    refine call1_in hB ?_
    simp -implicitDefEqProofs (disch := omega) only [go_sem]
    simp [addG, hb]
  · have h1 := M_sv ha
    have h2 := M_sv hb
    have h3 := M_add (sv a) (sv b)
    simp -implicitDefEqProofs (disch := omega) only [go_sem]
    refine call1_in hA ?_
    simp -implicitDefEqProofs (disch := omega) only [go_sem]
    refine call1_in hB ?_
    simp -implicitDefEqProofs (disch := omega) only [go_sem]
    refine call1_in (l02In_good a (by have := gok_size ha; omega)) ?_
    simp -implicitDefEqProofs (disch := omega) only [go_sem]
    refine call1_in (l02In_good b (by have := gok_size hb; omega)) ?_
    simp -implicitDefEqProofs (disch := omega) only [go_sem]
    refine call1_in (plusH_good _ _ (by omega) (by omega)) ?_
    simp -implicitDefEqProofs (disch := omega) only [go_sem]
    refine call1_in (l02Out_good _ (by omega)) ?_
    simp -implicitDefEqProofs (disch := omega) only [go_sem]
    refine call1_in (bound_good _) ?_
    simp -implicitDefEqProofs (disch := omega) only [go_sem]
    simp [addG, ha, hb]
theorem addI_good (a b : ByteArray) : Good1 Try.prog 15 [.s a, .s b] (.s (addG a b)) := by
  refine good1_of (io := io) mix Try.func15 rfl (by decide +kernel) (by kernel_rfl) ?_; simp only [Try.f15]
  simp -implicitDefEqProofs (disch := omega) only [go_sem]
  refine call1_in (areGreat_good [a, b] (by show 2 < 1000000; decide)) ?_
  simp -implicitDefEqProofs (disch := omega) only [go_sem]
  refine cond2_in (fun hc => ?_) (fun hc => ?_)
  · simp only [Bool.not_eq_true'] at hc
    simp -implicitDefEqProofs (disch := omega) only [go_sem]
    simp [addG, hc]
  · simp only [Bool.not_eq_false'] at hc
    have hc' := hc
    rw [Bool.and_eq_true] at hc'
    have h1 := L_sv hc'.1
    have h2 := L_sv hc'.2
    have h3 := L_add (sv a) (sv b)
    simp -implicitDefEqProofs (disch := omega) only [go_sem]
    refine call1_in (natOf_good a (by have := gok_size hc'.1; omega)) ?_
    simp -implicitDefEqProofs (disch := omega) only [go_sem]
    refine call1_in (natOf_good b (by have := gok_size hc'.2; omega)) ?_
    simp -implicitDefEqProofs (disch := omega) only [go_sem]
    refine call1_in (plus_good _ _ (by omega) (by omega)) ?_
    simp -implicitDefEqProofs (disch := omega) only [go_sem]
    refine call1_in (great_good _ (by omega)) ?_
    simp -implicitDefEqProofs (disch := omega) only [go_sem]
    simp [addG, hc]

end Go.Proofs.YtggojahlhpijeaaF
