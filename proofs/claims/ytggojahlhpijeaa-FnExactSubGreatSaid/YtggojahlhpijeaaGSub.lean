/- The law of SubGreat: what the program takes away is what its own reference takes away, for all texts. No condition. -/
import Derived.Test.YtggojahlhpijeaaF8
namespace Go.Proofs.YtggojahlhpijeaaF
open Go Go.Proofs Go.Proofs.YtggojahlhpijeaaA Go.Proofs.YtggojahlhpijeaaN Go.Proofs.YtggojahlhpijeaaT
set_option maxRecDepth 10000
theorem law_FnExactSubGreat (a b : ByteArray) (_ : a.size ≤ maxLen) (_ : b.size ≤ maxLen) : Good1 Try.prog 5 [.s a, .s b] (.b true) := by
  have hS := subS_good a b
  have hI := subI_good a b
  unfold subG at hS hI
  refine good1_of (io := io) mix Try.func5 rfl (by decide +kernel) (by kernel_rfl) ?_; simp only [Try.f5]
  simp -implicitDefEqProofs (disch := omega) only [go_sem]
  refine cond2_in (fun hc => ?_) (fun hc => ?_)
  · simp -implicitDefEqProofs (disch := omega) only [go_sem]
  simp -implicitDefEqProofs (disch := omega) only [go_sem]
  refine cond2_in (fun hc => ?_) (fun hc => ?_)
  · simp -implicitDefEqProofs (disch := omega) only [go_sem]
  by_cases h : (gok a && gok b && !decide (sv a < sv b)) = true
  · rw [if_pos h] at hS hI
    simp -implicitDefEqProofs (disch := omega) only [go_sem]
    refine call1_in hS ?_
    simp -implicitDefEqProofs (disch := omega) only [go_sem]
    refine call1_in hI ?_
    simp -implicitDefEqProofs (disch := omega) only [go_sem]
  · rw [if_neg h] at hS hI
    simp -implicitDefEqProofs (disch := omega) only [go_sem]
    refine call1_in hS ?_
    simp -implicitDefEqProofs (disch := omega) only [go_sem]
    refine call1_in hI ?_
    simp -implicitDefEqProofs (disch := omega) only [go_sem]
end Go.Proofs.YtggojahlhpijeaaF
