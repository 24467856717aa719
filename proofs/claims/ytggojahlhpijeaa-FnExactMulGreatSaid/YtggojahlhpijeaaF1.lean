/- The numbers' own functions. -/
import Derived.Test.YtggojahlhpijeaaF0
import Derived.Test.YtggojahlhpijeaaN2
namespace Go.Proofs.YtggojahlhpijeaaF
open Go Go.Proofs Go.Proofs.YtggojahlhpijeaaA Go.Proofs.YtggojahlhpijeaaN Go.Proofs.YtggojahlhpijeaaT
set_option maxRecDepth 10000
set_option maxHeartbeats 1000000

theorem trim_good (xs : List Nat) (hd : Dig W xs) (hl : xs.length < 10000000) : Good1 Try.prog 80 [lstV .u64 xs] (natV (vl W xs)) := by
  refine good1_of (io := io) mix Try.func80 rfl (by decide +kernel) (by kernel_rfl) ?_; simp only [Try.f80]
  simp -implicitDefEqProofs (disch := omega) only [go_sem, lstV]
  refine loop_in (fun k σ => k ≤ xs.length ∧ trimR (xs.take k) = trimR xs ∧ ∃ g : Nat → AV, σ = ⟨[.sl false k (raws .u64 (xs.take k)), g 1, g 2, g 3, g 4, g 5, g 6, g 7, g 8, g 9, g 10, g 11, g 12, g 13, g 14, g 15, g 16, g 17, g 18, g 19, g 20], [], fun _ => false⟩) xs.length ?_ ?_
  · exact ⟨Nat.le_refl _, by rw [List.take_length], inv_intro (by rw [List.take_length]; rfl)⟩
  · rintro k σ ⟨hk, ht, g, rfl⟩
    rcases Nat.eq_zero_or_pos k with rfl | hk0
    · simp -implicitDefEqProofs (disch := omega) only [go_sem, List.take_zero]
      rw [List.take_zero] at ht
      have e : dg W (vl W xs) = [] := by rw [dg_vl one_lt_W hd, ← ht]; rfl
      rw [natV, e]; rfl
    · have hlast : (xs.take k).length = k := by rw [List.length_take]; omega
      by_cases hz : xs.getD (k - 1) 0 = 0
      · simp -implicitDefEqProofs (disch := omega) only [go_sem, hz]
        refine ⟨k - 1, by omega, by omega, ?_, inv_intro rfl⟩
        rw [← ht, take_pred_getD hk0 hk, hz, trimR_concat_zero]
      · simp -implicitDefEqProofs (disch := omega) only [go_sem]
        rw [natV, dg_vl one_lt_W hd, ← ht, take_pred_getD hk0 hk, trimR_concat hz, ← take_pred_getD hk0 hk, lstV, hlast]

/-- How many limbs. -/
def L (n : Nat) : Nat := (dg W n).length
theorem natV_def (n : Nat) : natV n = lstV .u64 (dg W n) := rfl
theorem natV_sl (n : Nat) : natV n = .sl false (L n) (raws .u64 (dg W n)) := rfl
theorem L_len (n : Nat) : (dg W n).length = L n := rfl
theorem L_zero {n : Nat} : L n = 0 ↔ n = 0 := length_dg_zero one_lt_W
theorem L_le {n k : Nat} (h : n < W ^ k) : L n ≤ k := length_dg_le one_lt_W h
theorem L_mono {a b : Nat} (h : a ≤ b) : L a ≤ L b := length_dg_mono one_lt_W h
theorem L_add (a b : Nat) : L (a + b) ≤ max (L a) (L b) + 1 := length_dg_add one_lt_W a b
theorem L_mul (a b : Nat) : L (a * b) ≤ L a + L b := length_dg_mul one_lt_W a b
theorem lt_L (n : Nat) : n < W ^ L n := lt_dg one_lt_W n
theorem dgW_lt {n i : Nat} : (dg W n).getD i 0 < 18446744073709551616 := (dig_dg one_lt_W n).getD (by decide) i
theorem getW_lt {xs : List Nat} (h : Dig W xs) {i : Nat} : xs.getD i 0 < 18446744073709551616 := h.getD (by decide) i
attribute [go_sem] L_len
/-- How numbers are compared. -/
def ncmp (a b : Nat) : Int := if L a ≠ L b then (L a : Int) - L b else if a < b then -1 else if a = b then 0 else 1
theorem ncmp_lt {a b : Nat} : ncmp a b < 0 ↔ a < b := by
  unfold ncmp
  by_cases h : L a = L b
  · simp only [h, ne_eq, not_true_eq_false, if_false]
    by_cases h1 : a < b
    · simp [h1]
    · by_cases h2 : a = b
      · simp [h2]
      · simp [h1, h2]
  · simp only [h, ne_eq, not_false_eq_true, if_true]
    constructor
    · intro h1; exact lt_of_len one_lt_W (show L a < L b by omega)
    · intro h1; have := L_mono (Nat.le_of_lt h1); omega
theorem ncmp_eq {a b : Nat} : ncmp a b = 0 ↔ a = b := by
  unfold ncmp
  by_cases h : L a = L b
  · simp only [h, ne_eq, not_true_eq_false, if_false]
    by_cases h1 : a < b
    · simp [h1]; omega
    · by_cases h2 : a = b
      · simp [h2]
      · simp [h1, h2]
  · simp only [h, ne_eq, not_false_eq_true, if_true]
    constructor
    · intro h1; omega
    · intro h1; subst h1; exact absurd rfl h
theorem cmp_good (a b : Nat) (ha : L a < 1000000) (hb : L b < 1000000) : Good1 Try.prog 56 [natV a, natV b] (.i .i64 (ncmp a b)) := by
  refine good1_of (io := io) mix Try.func56 rfl (by decide +kernel) (by kernel_rfl) ?_; simp only [Try.f56]
  simp -implicitDefEqProofs (disch := omega) only [go_sem, natV_sl]
  by_cases hl : L a = L b
  · have hla : (dg W a).length = L a := rfl
    have hlb : (dg W b).length = L b := rfl
    simp -implicitDefEqProofs (disch := omega) only [go_sem]
    refine loop_in (fun k σ => k ≤ L a ∧ (dg W a).drop k = (dg W b).drop k ∧ ∃ g : Nat → AV, σ = ⟨[natV a, natV b, g 2, g 3, g 4, .i .i64 ((k : Int) - 1), g 6, g 7, g 8, g 9, g 10, g 11, g 12, g 13, g 14, g 15, g 16, g 17, g 18, g 19, g 20, g 21, g 22, g 23, g 24, g 25, g 26, g 27, g 28, g 29, g 30, g 31, g 32, g 33, g 34, g 35, g 36, g 37, g 38, g 39, g 40], [], fun _ => false⟩) (L a) ?_ ?_
    · exact ⟨Nat.le_refl _, by rw [List.drop_of_length_le (by omega), List.drop_of_length_le (by omega)], inv_intro rfl⟩
    · rintro k σ ⟨hk, hd, g, rfl⟩
      rcases k with _ | k
      · simp -implicitDefEqProofs (disch := omega) only [go_sem]
        have e : a = b := by rw [← vl_dg one_lt_W a, ← vl_dg one_lt_W b]; simpa using congrArg (vl W) hd
        subst e
        simp [ncmp]
      · rw [show ((k + 1 : Nat) : Int) - 1 = (k : Int) by omega]
        simp -implicitDefEqProofs (disch := omega) only [go_sem, natV_sl]
        have h1 := dgW_lt (n := a) (i := k)
        have h2 := dgW_lt (n := b) (i := k)
        by_cases he : (dg W a).getD k 0 = (dg W b).getD k 0
        · simp -implicitDefEqProofs (disch := omega) only [go_sem, he]
          exact ⟨k, by omega, by omega, drop_succ_eq (by omega) (by omega) hd he, inv_intro rfl⟩
        · simp -implicitDefEqProofs (disch := omega) only [go_sem, he]
          by_cases hlt : (dg W a).getD k 0 < (dg W b).getD k 0
          · simp -implicitDefEqProofs (disch := omega) only [go_sem]
            have := vl_lt_of (dig_dg one_lt_W a) (by omega) (by omega) hd hlt
            rw [vl_dg one_lt_W, vl_dg one_lt_W] at this
            simp [ncmp, hl, this]
          · simp -implicitDefEqProofs (disch := omega) only [go_sem]
            have := vl_lt_of (dig_dg one_lt_W b) (by omega) (by omega) hd.symm (by omega)
            rw [vl_dg one_lt_W, vl_dg one_lt_W] at this
            simp [ncmp, hl, show ¬ a < b by omega, show a ≠ b by omega]
  · have hla : (dg W a).length = L a := rfl
    have hlb : (dg W b).length = L b := rfl
    simp -implicitDefEqProofs (disch := omega) only [go_sem]
    simp [ncmp, hl]
end Go.Proofs.YtggojahlhpijeaaF
