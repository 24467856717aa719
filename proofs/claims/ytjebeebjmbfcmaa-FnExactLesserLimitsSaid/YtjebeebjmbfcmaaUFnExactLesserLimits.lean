/- The pure law of LesserLimits: part by part both sides take the lesser number. No condition. -/
import Derived.Test.YtjebeebjmbfcmaaPFnExactLesserLimitsx2
namespace Go.Proofs.Ytjebeebjmbfcmaa.Pure
open Go.RowKit Go.Proofs.Ytjebeebjmbfcmaa.PFnExactLesserLimits Go.Proofs.YtjebeebjmbfcmaaW.PrintWords Go.Proofs.YtjebeebjmbfcmaaW.PrintLast Go.Proofs.YtjebeebjmbfcmaaW.PrintMore
theorem least (a b : Int) : spec_l17Least.f a b = some (mn a b) := by
  unfold spec_l17Least.f mn
  split <;> rfl
theorem FnExactLesserLimits (a0_0 a0_1 a0_2 a0_3 a0_4 a1_0 a1_1 a1_2 a1_3 a1_4 : Int) (_ : (Lit.int .i64 a0_0).wf = true) (_ : (Lit.int .i64 a0_1).wf = true) (_ : (Lit.int .i64 a0_2).wf = true) (_ : (Lit.int .i64 a0_3).wf = true) (_ : (Lit.int .i64 a0_4).wf = true)
    (_ : (Lit.int .i64 a1_0).wf = true) (_ : (Lit.int .i64 a1_1).wf = true) (_ : (Lit.int .i64 a1_2).wf = true) (_ : (Lit.int .i64 a1_3).wf = true) (_ : (Lit.int .i64 a1_4).wf = true) :
    laws_FnExactLesserLimits.f a0_0 a0_1 a0_2 a0_3 a0_4 a1_0 a1_1 a1_2 a1_3 a1_4 = some true := by
  simp [laws_FnExactLesserLimits.f, laws_toLimits.f, spec_LesserLimits.f, impl_LesserLimits.f, laws_eqLimits.f, least]
end Go.Proofs.Ytjebeebjmbfcmaa.Pure
