/- The law of MulGreat: what the program multiplies is what its own reference multiplies, for all texts. No condition. -/
import Derived.Test.YtggojahlhpijeaaF9
namespace Go.Proofs.YtggojahlhpijeaaF
open Go Go.Proofs Go.Proofs.YtggojahlhpijeaaA Go.Proofs.YtggojahlhpijeaaN Go.Proofs.YtggojahlhpijeaaT
set_option maxRecDepth 10000
theorem law_FnExactMulGreat (a b : ByteArray) (_ : a.size ≤ maxLen) (_ : b.size ≤ maxLen) : Good1 Try.prog 4 [.s a, .s b] (.b true) := by
  refine good1_of (io := io) mix Try.func4 rfl (by decide +kernel) (by kernel_rfl) ?_; simp only [Try.f4]
  simp -implicitDefEqProofs (disch := omega) only [go_sem]
  refine cond2_in (fun hc => ?_) (fun hc => ?_)
  · simp -implicitDefEqProofs (disch := omega) only [go_sem]
  simp -implicitDefEqProofs (disch := omega) only [go_sem]
  refine cond2_in (fun hc => ?_) (fun hc => ?_)
  · simp -implicitDefEqProofs (disch := omega) only [go_sem]
  simp -implicitDefEqProofs (disch := omega) only [go_sem]
  refine call1_in (mulS_good a b) ?_
  simp -implicitDefEqProofs (disch := omega) only [go_sem]
  refine call1_in (mulI_good a b) ?_
  simp -implicitDefEqProofs (disch := omega) only [go_sem]
end Go.Proofs.YtggojahlhpijeaaF
