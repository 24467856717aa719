/- Great numbers: differences and products. -/
import Derived.Test.YtggojahlhpijeaaF6
namespace Go.Proofs.YtggojahlhpijeaaF
open Go Go.Proofs Go.Proofs.YtggojahlhpijeaaA Go.Proofs.YtggojahlhpijeaaN Go.Proofs.YtggojahlhpijeaaT
set_option maxRecDepth 10000
set_option maxHeartbeats 1000000
theorem sub_step {P w x y c d b : Nat} (h : d + y + c = x + w * b) : P * d + P * y + P * c = P * x + P * (w * b) := by
  rw [← Nat.mul_add, ← Nat.mul_add, h, Nat.mul_add]
theorem no_borrow {B n k a b c o : Nat} (_ : o < B ^ n) (hba : b ≤ a) (h : o + b = a + B ^ n * c) (_ : k = n) : o = a - b := by
  rcases Nat.eq_zero_or_pos c with rfl | hc
  · omega
  · have : B ^ n * 1 ≤ B ^ n * c := Nat.mul_le_mul_left _ hc
    omega
theorem less_good (a b : Nat) (ha : L a < 1000000) (hba : b ≤ a) : Good1 Try.prog 57 [natV a, natV b] (natV (a - b)) := by
  have hla : (dg W a).length = L a := rfl
  have hlb : (dg W b).length = L b := rfl
  have hLL := L_mono hba
  refine good1_of (io := io) mix Try.func57 rfl (by decide +kernel) (by kernel_rfl) ?_; simp only [Try.f57]
  simp -implicitDefEqProofs (disch := omega) only [go_sem, natV_sl]
  refine loop_in (fun m σ => ∃ i c o, m = L a - i ∧ i ≤ L a ∧ c ≤ 1 ∧ Dig W o ∧ o.length = L a ∧ (∀ j, i ≤ j → o.getD j 0 = 0) ∧ vl W o + vl W ((dg W b).take i) = vl W ((dg W a).take i) + W ^ i * c ∧
      ∃ g : Nat → AV, σ = ⟨[natV a, natV b, g 2, g 3, g 4, .ref 0 1 0 (L a), .i .u64 (c : Nat), g 7, g 8, g 9, g 10, g 11, g 12, .i .i64 (L a : Nat), .i .i64 (i : Nat), g 15, g 16, g 17, g 18, g 19, g 20, g 21, g 22, g 23, g 24, g 25, g 26, g 27, g 28, g 29, g 30, g 31, g 32, g 33, g 34, g 35, g 36, g 37, g 38, g 39, g 40], [some (raws .u64 o)], fun _ => false⟩) (L a) ?_ ?_
  · exact ⟨0, 0, List.replicate (L a) 0, by omega, by omega, by omega, dig_replicate (by decide) _, by simp, fun j _ => getD_rep _ _, by simp [vl_replicate, vl], inv_intro rfl⟩
  · rintro m σ ⟨i, c, o, rfl, hi, hc1, hdo, hlo, h0, hv, g, rfl⟩
    by_cases hlt : i < L a
    · have h1 := dgW_lt (n := a) (i := i)
      have h2 := dgW_lt (n := b) (i := i)
      have hA := sub64_good ((dg W a).getD i 0) ((dg W b).getD i 0) c hc1
      simp -implicitDefEqProofs (disch := omega) only [go_sem, natV_sl]
      refine cond2_in (fun hc => ?_) (fun hc => ?_) <;> simp only [decide_eq_true_eq, decide_eq_false_iff_not] at hc
      all_goals
        try (have hz : (dg W b).getD i 0 = 0 := getD_ge (by omega)
             rw [hz] at hA)
        simp -implicitDefEqProofs (disch := omega) only [go_sem]
        refine call1_in hA ?_
        simp -implicitDefEqProofs (disch := omega) only [go_sem]
        refine ⟨_, by omega, i + 1, _, o.set i _, rfl, by omega, ?_, dig_set hdo ?_ i, by simpa using hlo, ?_, ?_, inv_intro rfl⟩
        · split <;> omega
        · exact Nat.mod_lt _ (by decide)
        · intro j hj
          rw [getD_set, if_neg (by omega)]; exact h0 j (by omega)
        · rw [vl_set0 (by decide) _ (by omega) (h0 i (Nat.le_refl _)), vl_take_succ', vl_take_succ', Nat.pow_succ, Nat.mul_assoc]
          try rw [hz]
          generalize hP : W ^ i = P at *
          have hW : W = 18446744073709551616 := rfl
          first
            | have := sub_step (P := P) (w := W) (x := (dg W a).getD i 0) (y := (dg W b).getD i 0) (c := c) (d := ((dg W a).getD i 0 + 18446744073709551616 - (dg W b).getD i 0 - c) % 18446744073709551616) (b := if (dg W a).getD i 0 < (dg W b).getD i 0 + c then 1 else 0) (by split <;> omega)
              omega
            | have := sub_step (P := P) (w := W) (x := (dg W a).getD i 0) (y := 0) (c := c) (d := ((dg W a).getD i 0 + 18446744073709551616 - c) % 18446744073709551616) (b := if (dg W a).getD i 0 < c then 1 else 0) (by split <;> omega)
              omega
    · obtain rfl : i = L a := by omega
      have ht := trim_good o hdo (by omega)
      simp -implicitDefEqProofs (disch := omega) only [go_sem]
      rw [lstV_eq (by omega)]
      refine call1_in ht ?_
      simp -implicitDefEqProofs (disch := omega) only [go_sem]
      rw [List.take_of_length_le (by omega), List.take_of_length_le (by omega), vl_dg one_lt_W, vl_dg one_lt_W] at hv
      have := vl_lt hdo
      rw [hlo] at this
      rw [no_borrow this hba hv rfl, natV_sl]
theorem subH_good (a b : Nat) (ha : M a < 1000000) (hba : b ≤ a) : Good1 Try.prog 55 [limV a, limV b] (limV (a - b)) := by
  have hla : (dg H a).length = M a := rfl
  have hlb : (dg H b).length = M b := rfl
  have hLL := M_mono hba
  refine good1_of (io := io) mix Try.func55 rfl (by decide +kernel) (by kernel_rfl) ?_; simp only [Try.f55]
  simp -implicitDefEqProofs (disch := omega) only [go_sem, limV_sl]
  refine loop_in (fun m σ => ∃ i c o, m = M a - i ∧ i ≤ M a ∧ c ≤ 1 ∧ Dig H o ∧ o.length = i ∧ vl H o + vl H ((dg H b).take i) = vl H ((dg H a).take i) + H ^ i * c ∧
      ∃ g : Nat → AV, σ = ⟨[limV a, limV b, g 2, g 3, g 4, .ref i 1 0 i, .i .i64 (c : Nat), .i .i64 (i : Nat), g 8, g 9, g 10, g 11, g 12, g 13, g 14, g 15, g 16, g 17, g 18, g 19, g 20, g 21, g 22, g 23, g 24, g 25, g 26, g 27, g 28, g 29, g 30, g 31, g 32, g 33, g 34, g 35, g 36, g 37, g 38, g 39, g 40, g 41, g 42, g 43], List.replicate i none ++ [some (raws .i64 o)], fun _ => false⟩) (M a) ?_ ?_
  · exact ⟨0, 0, [], by omega, by omega, by omega, (fun x hx => nomatch hx), rfl, by simp [vl], inv_intro rfl⟩
  · rintro m σ ⟨i, c, o, rfl, hi, hc1, hdo, hlo, hv, g, rfl⟩
    have hHH : H = 16777216 := rfl
    by_cases hlt : i < M a
    · have h1 := dgH_lt (n := a) (i := i)
      have h2 := dgH_lt (n := b) (i := i)
      have hz : ¬ i < M b → (dg H b).getD i 0 = 0 := fun h => getD_ge (by omega)
      have step : ∀ d c', d < 16777216 → c' ≤ 1 → d + (dg H b).getD i 0 + c = (dg H a).getD i 0 + 16777216 * c' →
          vl H (o ++ [d]) + vl H ((dg H b).take (i + 1)) = vl H ((dg H a).take (i + 1)) + H ^ (i + 1) * c' := by
        intro d c' _ _ h
        have := sub_step (P := H ^ i) (w := H) (b := c') h
        rw [vl_concat, hlo, vl_take_succ', vl_take_succ', Nat.pow_succ, Nat.mul_assoc]
        omega
      simp -implicitDefEqProofs (disch := omega) only [go_sem, limV_sl]
      refine cond2_in (fun hc => ?_) (fun hc => ?_) <;> simp only [decide_eq_true_eq, decide_eq_false_iff_not] at hc
      · by_cases hlt2 : (dg H a).getD i 0 < c + (dg H b).getD i 0
        · have hst := step ((dg H a).getD i 0 + 16777216 - c - (dg H b).getD i 0) 1 (by omega) (by omega) (by omega)
          have e : ((dg H a).getD i 0 : Int) - (c : Int) - ((dg H b).getD i 0 : Int) + 16777216 = (((dg H a).getD i 0 + 16777216 - c - (dg H b).getD i 0 : Nat) : Int) := by omega
          simp -implicitDefEqProofs (disch := omega) only [go_sem, e]
          exact ⟨_, by omega, i + 1, 1, _, rfl, by omega, by omega, dig_append hdo (dig_one (by omega)), by simp [hlo], hst, inv_intro rfl⟩
        · have hst := step ((dg H a).getD i 0 - c - (dg H b).getD i 0) 0 (by omega) (by omega) (by omega)
          have e : ((dg H a).getD i 0 : Int) - (c : Int) - ((dg H b).getD i 0 : Int) = (((dg H a).getD i 0 - c - (dg H b).getD i 0 : Nat) : Int) := by omega
          simp -implicitDefEqProofs (disch := omega) only [go_sem, e]
          exact ⟨_, by omega, i + 1, 0, _, rfl, by omega, by omega, dig_append hdo (dig_one (by omega)), by simp [hlo], hst, inv_intro rfl⟩
      · have hz := hz hc
        by_cases hlt2 : (dg H a).getD i 0 < c
        · have hst := step ((dg H a).getD i 0 + 16777216 - c) 1 (by omega) (by omega) (by omega)
          have e : ((dg H a).getD i 0 : Int) - (c : Int) + 16777216 = (((dg H a).getD i 0 + 16777216 - c : Nat) : Int) := by omega
          simp -implicitDefEqProofs (disch := omega) only [go_sem, e]
          exact ⟨_, by omega, i + 1, 1, _, rfl, by omega, by omega, dig_append hdo (dig_one (by omega)), by simp [hlo], hst, inv_intro rfl⟩
        · have hst := step ((dg H a).getD i 0 - c) 0 (by omega) (by omega) (by omega)
          have e : ((dg H a).getD i 0 : Int) - (c : Int) = (((dg H a).getD i 0 - c : Nat) : Int) := by omega
          simp -implicitDefEqProofs (disch := omega) only [go_sem, e]
          exact ⟨_, by omega, i + 1, 0, _, rfl, by omega, by omega, dig_append hdo (dig_one (by omega)), by simp [hlo], hst, inv_intro rfl⟩
    · obtain rfl : i = M a := by omega
      have ht := trimH_good o hdo (by omega)
      rw [List.take_of_length_le (by omega), List.take_of_length_le (by omega), vl_dg one_lt_H, vl_dg one_lt_H] at hv
      have := vl_lt hdo
      rw [hlo] at this
      rw [no_borrow this hba hv rfl] at ht
      simp -implicitDefEqProofs (disch := omega) only [go_sem, limV_sl]
      rw [lstV_eq (by omega)]
      refine call1_in ht ?_
      simp -implicitDefEqProofs (disch := omega) only [go_sem, limV_sl]
end Go.Proofs.YtggojahlhpijeaaF
