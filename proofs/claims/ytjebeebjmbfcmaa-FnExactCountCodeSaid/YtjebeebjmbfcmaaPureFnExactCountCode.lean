/- The exact law of CountCode holds for all counts and bounds. No condition. -/
import Derived.Test.YtjebeebjmbfcmaaPFnExactCountCodex1
namespace Go.Proofs.Ytjebeebjmbfcmaa.Pure
open Go.RowKit Go.Proofs.Ytjebeebjmbfcmaa.PFnExactCountCode Go.Proofs.YtjebeebjmbfcmaaW.PrintWords Go.Proofs.YtjebeebjmbfcmaaW.PrintLast

/-- YOURS: ∀ (a0 : Int) (a1 : Int) (a2 : Int), (Lit.int .i64 a0).wf = true → (Lit.int .i64 a1).wf = true → (Lit.int .i64 a2).wf = true → ∃ k, laws_FnExactCountCode.f k a0 a1 a2 = some true
What it reaches (each with k first where it has rounds; `.mono`: more rounds tell the same; `.l0`, ..: its loops, with `.mono_l`): spec_CountCode.f, impl_within.f, impl_CountCode.f, laws_FnExactCountCode.f -/
theorem FnExactCountCode : laws_FnExactCountCode.Pure := by
  intro a0 a1 a2 _ _ _
  refine ⟨1, ?_⟩
  unfold laws_FnExactCountCode.f spec_CountCode.f impl_CountCode.f impl_within.f
  by_cases h : a0 < 0
  · simp [h, spec_CountCode.j0, show ¬ (0 ≤ a0) by omega]
  · by_cases h2 : a0 ≤ a2
    · by_cases h3 : a1 < a0 <;> simp [h, h2, h3, spec_CountCode.j0, show (0 ≤ a0) by omega, show ¬ (a2 < a0) by omega]
    · simp [h, h2, spec_CountCode.j0, show (0 ≤ a0) by omega, show (a2 < a0) by omega]

end Go.Proofs.Ytjebeebjmbfcmaa.Pure
