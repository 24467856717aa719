/- The exact law of UsualLimits holds: both answer the same five numbers. No condition. -/
import Derived.Test.YtjebeebjmbfcmaaPFnExactUsualLimitsx1
namespace Go.Proofs.Ytjebeebjmbfcmaa.Pure
open Go.RowKit Go.Proofs.Ytjebeebjmbfcmaa.PFnExactUsualLimits Go.Proofs.YtjebeebjmbfcmaaW.PrintWords Go.Proofs.YtjebeebjmbfcmaaW.PrintLast

/-- YOURS: laws_FnExactUsualLimits.f  = some true
What it reaches (each with k first where it has rounds; `.mono`: more rounds tell the same; `.l0`, ..: its loops, with `.mono_l`): spec_UsualLimits.f, impl_UsualLimits.f, laws_eqLimits.f, laws_FnExactUsualLimits.f -/
theorem FnExactUsualLimits : laws_FnExactUsualLimits.Pure := by
  rfl

end Go.Proofs.Ytjebeebjmbfcmaa.Pure
