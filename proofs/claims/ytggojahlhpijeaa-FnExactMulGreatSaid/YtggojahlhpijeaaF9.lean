/- Great numbers: products. -/
import Derived.Test.YtggojahlhpijeaaF8
namespace Go.Proofs.YtggojahlhpijeaaF
open Go Go.Proofs Go.Proofs.YtggojahlhpijeaaA Go.Proofs.YtggojahlhpijeaaN Go.Proofs.YtggojahlhpijeaaT
set_option maxRecDepth 10000
set_option maxHeartbeats 1000000
theorem mul_step {B P vs vo og d c c' x y R : Nat} (h1 : vs + P * og = vo + P * d) (h2 : d + B * c' = og + x * y + c) (h3 : vo + P * c = R) : vs + P * B * c' = R + P * (x * y) := by
  have := congrArg (P * ·) h2
  simp only [Nat.mul_add] at this
  rw [Nat.mul_assoc P B c']
  omega
theorem mul_row {B i k x t y : Nat} : B ^ i * (x * (t + B ^ k * y)) = B ^ i * (x * t) + B ^ (i + k) * (x * y) := by
  rw [Nat.mul_add, Nat.mul_add, Nat.pow_add, Nat.mul_left_comm x, Nat.mul_assoc]
theorem mul_le_of {x y n : Nat} (hx : x < n + 1) (hy : y < n + 1) : x * y ≤ n * n := Nat.mul_le_mul (by omega) (by omega)
theorem mulH_good (a b : Nat) (ha : M a < 1000000) (hb : M b < 1000000) : Good1 Try.prog 52 [limV a, limV b] (limV (a * b)) := by
  have hla : (dg H a).length = M a := rfl
  have hlb : (dg H b).length = M b := rfl
  refine good1_of (io := io) mix Try.func52 rfl (by decide +kernel) (by kernel_rfl) ?_; simp only [Try.f52]
  simp -implicitDefEqProofs (disch := omega) only [go_sem, limV_sl]
  refine loop_in (fun m σ => ∃ i o, m = M a - i ∧ i ≤ M a ∧ Dig H o ∧ o.length = M a + M b ∧ (∀ j, i + M b ≤ j → o.getD j 0 = 0) ∧ vl H o = vl H ((dg H a).take i) * b ∧
      ∃ g : Nat → AV, σ = ⟨[limV a, limV b, g 2, g 3, g 4, .ref 0 1 0 (M a + M b), .i .i64 (i : Nat), g 7, g 8, g 9, g 10, g 11, g 12, g 13, g 14, g 15, g 16, g 17, g 18, g 19, g 20, g 21, g 22, g 23, g 24, g 25, g 26, g 27, g 28, g 29, g 30, g 31, g 32, g 33, g 34, g 35, g 36, g 37, g 38, g 39, g 40, g 41, g 42, g 43, g 44, g 45, g 46, g 47, g 48, g 49, g 50, g 51, g 52, g 53, g 54, g 55, g 56, g 57, g 58, g 59, g 60, g 61, g 62, g 63], [some (raws .i64 o)], fun _ => false⟩) (M a) ?_ ?_
  · exact ⟨0, List.replicate (M a + M b) 0, by omega, by omega, dig_replicate (by decide) _, by simp, fun j _ => getD_rep _ _, by simp [vl_replicate, vl], inv_intro rfl⟩
  · rintro m σ ⟨i, o0, rfl, hi, hdo, hlo, h0, hv, g, rfl⟩
    by_cases hlt : i < M a
    · simp -implicitDefEqProofs (disch := omega) only [go_sem, limV_sl]
      refine loop_in (fun m σ => ∃ k c o, m = M b - k ∧ k ≤ M b ∧ c < 16777216 ∧ Dig H o ∧ o.length = M a + M b ∧ (∀ j, i + M b ≤ j → o.getD j 0 = 0) ∧ vl H o + H ^ (i + k) * c = vl H ((dg H a).take i) * b + H ^ i * ((dg H a).getD i 0 * vl H ((dg H b).take k)) ∧
        ∃ g : Nat → AV, σ = ⟨[limV a, limV b, g 2, g 3, g 4, .ref 0 1 0 (M a + M b), .i .i64 (i : Nat), .i .i64 (c : Nat), .i .i64 (k : Nat), g 9, g 10, g 11, g 12, g 13, g 14, g 15, g 16, g 17, g 18, g 19, g 20, g 21, g 22, g 23, g 24, g 25, g 26, g 27, g 28, g 29, g 30, g 31, g 32, g 33, g 34, g 35, g 36, g 37, g 38, g 39, g 40, g 41, g 42, g 43, g 44, g 45, g 46, g 47, g 48, g 49, g 50, g 51, g 52, g 53, g 54, g 55, g 56, g 57, g 58, g 59, g 60, g 61, g 62, g 63], [some (raws .i64 o)], fun _ => false⟩) (M b) ?_ ?_
      · exact ⟨0, 0, o0, by omega, by omega, by omega, hdo, hlo, h0, by simp [vl, hv], inv_intro rfl⟩
      · rintro m σ ⟨k, c, o, rfl, hk, hc, hdo, hlo, h0, hv, g, rfl⟩
        have h1 := dgH_lt (n := a) (i := i)
        by_cases hlt2 : k < M b
        · have h2 := dgH_lt (n := b) (i := k)
          have h3 := getH_lt hdo (i := i + k)
          have hxy := mul_le_of (n := 16777215) h1 h2
          simp -implicitDefEqProofs (disch := omega) only [go_sem, limV_sl]
          refine ⟨_, by omega, k + 1, _, _, rfl, by omega, ?_, dig_set hdo ?_ _, by simpa using hlo, ?_, ?_, inv_intro rfl⟩
          · omega
          · exact Nat.mod_lt _ (by decide)
          · intro j hj
            rw [getD_set, if_neg (by omega)]; exact h0 j hj
          · rw [← Nat.add_assoc, Nat.pow_succ, vl_take_succ', mul_row, ← Nat.add_assoc]
            exact mul_step (vl_set (by decide) _ (by omega)) (Nat.mod_add_div _ _) hv
        · obtain rfl : k = M b := by omega
          simp -implicitDefEqProofs (disch := omega) only [go_sem, limV_sl]
          refine ⟨_, by omega, i + 1, _, rfl, by omega, dig_set hdo hc _, by simpa using hlo, ?_, ?_, inv_intro rfl⟩
          · intro j hj
            rw [getD_set, if_neg (by omega)]; exact h0 j (by omega)
          · rw [vl_set0 (by decide) _ (by omega) (h0 _ (Nat.le_refl _)), hv, vl_take_succ', Nat.add_mul, List.take_of_length_le (l := dg H b) (by omega), vl_dg one_lt_H, Nat.mul_assoc]
    · obtain rfl : i = M a := by omega
      have ht := trimH_good o0 hdo (by omega)
      rw [hv, List.take_of_length_le (by omega), vl_dg one_lt_H] at ht
      simp -implicitDefEqProofs (disch := omega) only [go_sem, limV_sl]
      rw [lstV_eq (by omega)]
      refine call1_in ht ?_
      simp -implicitDefEqProofs (disch := omega) only [go_sem, limV_sl]
theorem times_good (a b : Nat) (ha : L a < 1000000) (hb : L b < 1000000) : Good1 Try.prog 53 [natV a, natV b] (natV (a * b)) := by
  have hla : (dg W a).length = L a := rfl
  have hlb : (dg W b).length = L b := rfl
  refine good1_of (io := io) mix Try.func53 rfl (by decide +kernel) (by kernel_rfl) ?_; simp only [Try.f53]
  simp -implicitDefEqProofs (disch := omega) only [go_sem, natV_sl]
  refine loop_in (fun m σ => ∃ i o, m = L a - i ∧ i ≤ L a ∧ Dig W o ∧ o.length = L a + L b ∧ (∀ j, i + L b ≤ j → o.getD j 0 = 0) ∧ vl W o = vl W ((dg W a).take i) * b ∧
      ∃ g : Nat → AV, σ = ⟨[natV a, natV b, g 2, g 3, g 4, .ref 0 1 0 (L a + L b), g 6, g 7, g 8, g 9, g 10, g 11, g 12, g 13, g 14, g 15, g 16, g 17, g 18, g 19, natV a, .i .i64 (L a : Nat), .i .i64 (i : Nat), g 23, g 24, g 25, g 26, g 27, g 28, g 29, g 30, g 31, g 32, g 33, g 34, g 35, g 36, g 37, g 38, g 39, g 40, g 41, g 42, g 43, g 44, g 45, g 46, g 47, g 48, g 49, g 50, g 51, g 52, g 53, g 54, g 55, g 56, g 57, g 58, g 59, g 60, g 61, g 62, g 63, g 64, g 65, g 66, g 67, g 68, g 69, g 70, g 71, g 72, g 73, g 74, g 75, g 76, g 77, g 78, g 79], [some (raws .u64 o)], fun _ => false⟩) (L a) ?_ ?_
  · exact ⟨0, List.replicate (L a + L b) 0, by omega, by omega, dig_replicate (by decide) _, by simp, fun j _ => getD_rep _ _, by simp [vl_replicate, vl], inv_intro rfl⟩
  · rintro m σ ⟨i, o0, rfl, hi, hdo, hlo, h0, hv, g, rfl⟩
    by_cases hlt : i < L a
    · simp -implicitDefEqProofs (disch := omega) only [go_sem, natV_sl]
      refine loop_in (fun m σ => ∃ k c o, m = L b - k ∧ k ≤ L b ∧ c < 18446744073709551616 ∧ Dig W o ∧ o.length = L a + L b ∧ (∀ j, i + L b ≤ j → o.getD j 0 = 0) ∧ vl W o + W ^ (i + k) * c = vl W ((dg W a).take i) * b + W ^ i * ((dg W a).getD i 0 * vl W ((dg W b).take k)) ∧
        ∃ g : Nat → AV, σ = ⟨[natV a, natV b, g 2, g 3, g 4, .ref 0 1 0 (L a + L b), .i .i64 (i : Nat), .i .u64 ((dg W a).getD i 0 : Nat), .i .u64 (c : Nat), g 9, g 10, g 11, g 12, g 13, g 14, g 15, g 16, g 17, g 18, g 19, natV a, .i .i64 (L a : Nat), .i .i64 (i : Nat), g 23, g 24, g 25, g 26, natV b, .i .i64 (L b : Nat), .i .i64 (k : Nat), g 30, g 31, g 32, g 33, g 34, g 35, g 36, g 37, g 38, g 39, g 40, g 41, g 42, g 43, g 44, g 45, g 46, g 47, g 48, g 49, g 50, g 51, g 52, g 53, g 54, g 55, g 56, g 57, g 58, g 59, g 60, g 61, g 62, g 63, g 64, g 65, g 66, g 67, g 68, g 69, g 70, g 71, g 72, g 73, g 74, g 75, g 76, g 77, g 78, g 79], [some (raws .u64 o)], fun _ => false⟩) (L b) ?_ ?_
      · exact ⟨0, 0, o0, by omega, by omega, by omega, hdo, hlo, h0, by simp [vl, hv], inv_intro rfl⟩
      · rintro m σ ⟨k, c, o, rfl, hk, hc, hdo, hlo, h0, hv, g, rfl⟩
        have h1 := dgW_lt (n := a) (i := i)
        by_cases hlt2 : k < L b
        · have h2 := dgW_lt (n := b) (i := k)
          have h3 := getW_lt hdo (i := i + k)
          have hxy := mul_le_of (n := 18446744073709551615) h1 h2
          simp -implicitDefEqProofs (disch := omega) only [go_sem, natV_sl]
          refine call1_in (mul64_good _ _ h1 h2) ?_
          simp -implicitDefEqProofs (disch := omega) only [go_sem]
          refine call1_in (add64_good _ _ 0 (Nat.mod_lt _ (by decide)) h3 (by omega)) ?_
          simp -implicitDefEqProofs (disch := omega) only [go_sem]
          refine call1_in (add64_good _ _ 0 (Nat.mod_lt _ (by decide)) hc (by omega)) ?_
          simp -implicitDefEqProofs (disch := omega) only [go_sem]
          refine ⟨_, by omega, k + 1, _, _, rfl, by omega, ?_, dig_set hdo ?_ _, by simpa using hlo, ?_, ?_, inv_intro rfl⟩
          · omega
          · exact Nat.mod_lt _ (by decide)
          · intro j hj
            rw [getD_set, if_neg (by omega)]; exact h0 j hj
          · rw [← Nat.add_assoc, Nat.pow_succ, vl_take_succ', mul_row, ← Nat.add_assoc]
            refine mul_step (vl_set (by decide) _ (by omega)) ?_ hv
            show _ + 18446744073709551616 * _ = _
            omega
        · obtain rfl : k = L b := by omega
          simp -implicitDefEqProofs (disch := omega) only [go_sem, natV_sl]
          refine ⟨_, by omega, i + 1, _, rfl, by omega, dig_set hdo hc _, by simpa using hlo, ?_, ?_, inv_intro rfl⟩
          · intro j hj
            rw [getD_set, if_neg (by omega)]; exact h0 j (by omega)
          · rw [vl_set0 (by decide) _ (by omega) (h0 _ (Nat.le_refl _)), hv, vl_take_succ', Nat.add_mul, List.take_of_length_le (l := dg W b) (by omega), vl_dg one_lt_W, Nat.mul_assoc]
    · obtain rfl : i = L a := by omega
      have ht := trim_good o0 hdo (by omega)
      rw [hv, List.take_of_length_le (by omega), vl_dg one_lt_W] at ht
      simp -implicitDefEqProofs (disch := omega) only [go_sem, natV_sl]
      rw [lstV_eq (by omega)]
      refine call1_in ht ?_
      simp -implicitDefEqProofs (disch := omega) only [go_sem, natV_sl]
/-- What MulGreat tells. -/
def mulG (a b : ByteArray) : ByteArray := if gok a && gok b then bnd (sb (sv a * sv b)) else ⟨#[]⟩

theorem mulS_good (a b : ByteArray) : Good1 Try.prog 16 [.s a, .s b] (.s (mulG a b)) := by
  refine good1_of (io := io) mix Try.func16 rfl (by decide +kernel) (by kernel_rfl) ?_; simp only [Try.f16]
  have hA := gok_spec a
  have hB := gok_spec b
  cases ha : gok a <;> rw [ha] at hA
  · simp -implicitDefEqProofs (disch := omega) only [go_sem]
    refine call1_in hA ?_
    simp -implicitDefEqProofs (disch := omega) only [go_sem]
    simp [mulG, ha]
  cases hb : gok b <;> rw [hb] at hB
  · simp -implicitDefEqProofs (disch := omega) only [go_sem]
    refine call1_in hA ?_
    simp -implicitDefEqProofs (disch := omega) only [go_sem]
    refine call1_in hB ?_
    simp -implicitDefEqProofs (disch := omega) only [go_sem]
    simp [mulG, hb]
  · have h1 := M_sv ha
    have h2 := M_sv hb
    have h3 := M_mul (sv a) (sv b)
    simp -implicitDefEqProofs (disch := omega) only [go_sem]
    refine call1_in hA ?_
    simp -implicitDefEqProofs (disch := omega) only [go_sem]
    refine call1_in hB ?_
    simp -implicitDefEqProofs (disch := omega) only [go_sem]
    refine call1_in (l02In_good a (by have := gok_size ha; omega)) ?_
    simp -implicitDefEqProofs (disch := omega) only [go_sem]
    refine call1_in (l02In_good b (by have := gok_size hb; omega)) ?_
    simp -implicitDefEqProofs (disch := omega) only [go_sem]
    refine call1_in (mulH_good _ _ (by omega) (by omega)) ?_
    simp -implicitDefEqProofs (disch := omega) only [go_sem]
    refine call1_in (l02Out_good _ (by omega)) ?_
    simp -implicitDefEqProofs (disch := omega) only [go_sem]
    refine call1_in (bound_good _) ?_
    simp -implicitDefEqProofs (disch := omega) only [go_sem]
    simp [mulG, ha, hb]
theorem mulI_good (a b : ByteArray) : Good1 Try.prog 17 [.s a, .s b] (.s (mulG a b)) := by
  refine good1_of (io := io) mix Try.func17 rfl (by decide +kernel) (by kernel_rfl) ?_; simp only [Try.f17]
  simp -implicitDefEqProofs (disch := omega) only [go_sem]
  refine call1_in (areGreat_good [a, b] (by show 2 < 1000000; decide)) ?_
  simp -implicitDefEqProofs (disch := omega) only [go_sem]
  refine cond2_in (fun hc => ?_) (fun hc => ?_)
  · simp only [Bool.not_eq_true'] at hc
    simp -implicitDefEqProofs (disch := omega) only [go_sem]
    simp [mulG, hc]
  · simp only [Bool.not_eq_false'] at hc
    have hc' := hc
    rw [Bool.and_eq_true] at hc'
    have h1 := L_sv hc'.1
    have h2 := L_sv hc'.2
    have h3 := L_mul (sv a) (sv b)
    simp -implicitDefEqProofs (disch := omega) only [go_sem]
    refine call1_in (natOf_good a (by have := gok_size hc'.1; omega)) ?_
    simp -implicitDefEqProofs (disch := omega) only [go_sem]
    refine call1_in (natOf_good b (by have := gok_size hc'.2; omega)) ?_
    simp -implicitDefEqProofs (disch := omega) only [go_sem]
    refine call1_in (times_good _ _ (by omega) (by omega)) ?_
    simp -implicitDefEqProofs (disch := omega) only [go_sem]
    refine call1_in (great_good _ (by omega)) ?_
    simp -implicitDefEqProofs (disch := omega) only [go_sem]
    simp [mulG, hc]

end Go.Proofs.YtggojahlhpijeaaF
