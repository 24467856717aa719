/- The law of AddGreat: what the program adds is what its own reference adds, for all texts. No condition. -/
import Derived.Test.YtggojahlhpijeaaF6
namespace Go.Proofs.YtggojahlhpijeaaF
open Go Go.Proofs Go.Proofs.YtggojahlhpijeaaA Go.Proofs.YtggojahlhpijeaaN Go.Proofs.YtggojahlhpijeaaT
set_option maxRecDepth 10000
theorem law_FnExactAddGreat (a b : ByteArray) (_ : a.size ≤ maxLen) (_ : b.size ≤ maxLen) : Good1 Try.prog 3 [.s a, .s b] (.b true) := by
  refine good1_of (io := io) mix Try.func3 rfl (by decide +kernel) (by kernel_rfl) ?_; simp only [Try.f3]
  simp -implicitDefEqProofs (disch := omega) only [go_sem]
  refine cond2_in (fun hc => ?_) (fun hc => ?_)
  · simp -implicitDefEqProofs (disch := omega) only [go_sem]
  simp -implicitDefEqProofs (disch := omega) only [go_sem]
  refine cond2_in (fun hc => ?_) (fun hc => ?_)
  · simp -implicitDefEqProofs (disch := omega) only [go_sem]
  simp -implicitDefEqProofs (disch := omega) only [go_sem]
  refine call1_in (addS_good a b) ?_
  simp -implicitDefEqProofs (disch := omega) only [go_sem]
  refine call1_in (addI_good a b) ?_
  simp -implicitDefEqProofs (disch := omega) only [go_sem]
end Go.Proofs.YtggojahlhpijeaaF
