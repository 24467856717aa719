/- The exact law of CodeWord holds for every code: the word list is the same on both sides. No condition. -/
import Derived.Test.YtjebeebjmbfcmaaPFnExactCodeWordx1
namespace Go.Proofs.Ytjebeebjmbfcmaa.Pure
open Go.RowKit Go.Proofs.Ytjebeebjmbfcmaa.PFnExactCodeWord Go.Proofs.YtjebeebjmbfcmaaW.PrintWords Go.Proofs.YtjebeebjmbfcmaaW.PrintLast

/-- YOURS: ∀ (a0 : Int), (Lit.int .i64 a0).wf = true → laws_FnExactCodeWord.f a0 = some true
What it reaches (each with k first where it has rounds; `.mono`: more rounds tell the same; `.l0`, ..: its loops, with `.mono_l`): spec_l01In.f, spec_CodeWord.f, impl_within.f, impl_CodeWord.f, laws_FnExactCodeWord.f -/
theorem FnExactCodeWord : laws_FnExactCodeWord.Pure := by
  intro a0 _
  unfold laws_FnExactCodeWord.f spec_CodeWord.f impl_CodeWord.f spec_l01In.f impl_within.f
  by_cases h : 0 ≤ a0
  · by_cases h2 : a0 ≤ 6
    · simp [h, h2, show a0 < 7 by omega]
    · simp [h, h2]
  · simp [h]

end Go.Proofs.Ytjebeebjmbfcmaa.Pure
