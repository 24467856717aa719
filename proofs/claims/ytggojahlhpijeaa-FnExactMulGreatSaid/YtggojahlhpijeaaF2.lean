/- The numbers' own functions: sums, differences, products. -/
import Derived.Test.YtggojahlhpijeaaF1
namespace Go.Proofs.YtggojahlhpijeaaF
open Go Go.Proofs Go.Proofs.YtggojahlhpijeaaA Go.Proofs.YtggojahlhpijeaaN Go.Proofs.YtggojahlhpijeaaT
set_option maxRecDepth 10000
set_option maxHeartbeats 1000000
theorem carry_step (P s : Nat) : P * (s % 18446744073709551616) + P * (W * (s / 18446744073709551616)) = P * s := by
  rw [← Nat.mul_add]; exact congrArg (P * ·) (Nat.mod_add_div s _)
theorem plus_good (a b : Nat) (ha : L a < 1000000) (hb : L b < 1000000) : Good1 Try.prog 51 [natV a, natV b] (natV (a + b)) := by
  refine good1_of (io := io) mix Try.func51 rfl (by decide +kernel) (by kernel_rfl) ?_; simp only [Try.f51]
  simp -implicitDefEqProofs (disch := omega) only [go_sem, natV_sl]
  refine cond2_in (fun hc => ?_) (fun hc => ?_) <;> simp only [decide_eq_true_eq, decide_eq_false_iff_not] at hc <;> simp -implicitDefEqProofs (disch := omega) only [go_sem]
  all_goals
    refine loop_in (fun m σ => ∃ x y i c o, x + y = a + b ∧ L x < 1000000 ∧ L y ≤ L x ∧ m = L x - i ∧ i ≤ L x ∧ c ≤ 1 ∧ Dig W o ∧ o.length = L x + 1 ∧ (∀ j, i ≤ j → o.getD j 0 = 0) ∧ vl W o + W ^ i * c = vl W ((dg W x).take i) + vl W ((dg W y).take i) ∧
      ∃ g : Nat → AV, σ = ⟨[natV x, natV y, g 2, g 3, g 4, .ref 0 1 0 (L x + 1), .i .u64 (c : Nat), g 7, g 8, g 9, g 10, g 11, g 12, g 13, g 14, g 15, g 16, g 17, g 18, g 19, g 20, .i .i64 (L x : Nat), .i .i64 (i : Nat), g 23, g 24, g 25, g 26, g 27, g 28, g 29, g 30, g 31, g 32, g 33, g 34, g 35, g 36, g 37, g 38, g 39, g 40, g 41, g 42, g 43, g 44, g 45, g 46, g 47, g 48, g 49, g 50, g 51, g 52, g 53], [some (raws .u64 o)], fun _ => false⟩) (max (L a) (L b)) ?_ ?_
    · first
      | exact ⟨b, a, 0, 0, List.replicate (L b + 1) 0, Nat.add_comm b a, hb, by omega, by omega, by omega, by omega, dig_replicate (by decide) _, by simp, fun j _ => getD_rep _ _, by simp [vl_replicate, vl], inv_intro rfl⟩
      | exact ⟨a, b, 0, 0, List.replicate (L a + 1) 0, rfl, ha, by omega, by omega, by omega, by omega, dig_replicate (by decide) _, by simp, fun j _ => getD_rep _ _, by simp [vl_replicate, vl], inv_intro rfl⟩
    · rintro m σ ⟨x, y, i, c, o, hxy, hL1, hyx, rfl, hi, hc1, hdo, hlo, h0, hv, g, rfl⟩
      have hlx : (dg W x).length = L x := rfl
      have hly : (dg W y).length = L y := rfl
      by_cases hlt : i < L x
      · have hA := add64_good ((dg W x).getD i 0) ((dg W y).getD i 0) c dgW_lt dgW_lt hc1
        have h1 := dgW_lt (n := x) (i := i)
        have h2 := dgW_lt (n := y) (i := i)
        simp -implicitDefEqProofs (disch := omega) only [go_sem, natV_sl]
        refine cond2_in (fun hc => ?_) (fun hc => ?_) <;> simp only [decide_eq_true_eq, decide_eq_false_iff_not] at hc
        all_goals
          try (have hz : (dg W y).getD i 0 = 0 := getD_ge (by omega)
               rw [hz] at hA)
          simp -implicitDefEqProofs (disch := omega) only [go_sem]
          refine call1_in hA ?_
          simp -implicitDefEqProofs (disch := omega) only [go_sem]
          refine ⟨L x - (i + 1), by omega, x, y, i + 1, _, o.set i _, hxy, hL1, hyx, rfl, by omega, ?_, dig_set hdo ?_ i, by simpa using hlo, ?_, ?_, inv_intro rfl⟩
          · omega
          · exact Nat.mod_lt _ (by decide)
          · intro j hj
            rw [getD_set, if_neg (by omega)]; exact h0 j (by omega)
          · rw [vl_set0 (by decide) _ (by omega) (h0 i (Nat.le_refl _)), vl_take_succ', vl_take_succ', Nat.pow_succ, Nat.mul_assoc]
            try rw [hz]
            generalize hP : W ^ i = P at *
            rw [Nat.add_assoc, carry_step, Nat.mul_add]
            try rw [Nat.mul_add]
            omega
      · obtain rfl : i = L x := by omega
        simp -implicitDefEqProofs (disch := omega) only [go_sem, natV_sl]
        have ht := trim_good (o.set (L x) c) (dig_set hdo (by show c < 18446744073709551616; omega) _) (by simp; omega)
        rw [lstV_eq (by simp; omega)]
        refine call1_in ht ?_
        simp -implicitDefEqProofs (disch := omega) only [go_sem]
        rw [vl_set0 (by decide) _ (by omega) (h0 _ (Nat.le_refl _)), hv, List.take_of_length_le (by omega), List.take_of_length_le (by omega), vl_dg one_lt_W, vl_dg one_lt_W, hxy, natV_sl]
end Go.Proofs.YtggojahlhpijeaaF
