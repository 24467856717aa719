/- The pure law of SamePairPoint: both sides compare part by part. No condition but that a text's length is an int. -/
import Derived.Test.YtjebeebjmbfcmaaPFnExactSamePairPointx2
namespace Go.Proofs.Ytjebeebjmbfcmaa.Pure
open Go.RowKit Go.Proofs.Ytjebeebjmbfcmaa.PFnExactSamePairPoint Go.Proofs.YtjebeebjmbfcmaaW.PrintWords Go.Proofs.YtjebeebjmbfcmaaW.PrintLast Go.Proofs.YtjebeebjmbfcmaaW.PrintMore
theorem szPair_some (a b : ByteArray) (n : Int) : ∃ r, laws_szPair.f a b n = some r := by
  unfold laws_szPair.f
  split
  · exact ⟨_, rfl⟩
  · split <;> exact ⟨_, rfl⟩
theorem szPairPoint_some (z : Bool) (a b c d : ByteArray) (n : Int) : ∃ r, laws_szPairPoint.f z a b c d n = some r := by
  unfold laws_szPairPoint.f
  obtain ⟨r, hr⟩ := szPair_some a b n
  rw [hr]
  simp only [Option.bind_some]
  split
  · exact ⟨_, rfl⟩
  · obtain ⟨s, hs⟩ := szPair_some c d r
    rw [hs]
    simp only [Option.bind_some]
    split <;> exact ⟨_, rfl⟩
theorem FnExactSamePairPoint (a0_0 : Bool) (a0_1 a0_2 a0_3 a0_4 : ByteArray) (a1_0 : Bool) (a1_1 a1_2 a1_3 a1_4 : ByteArray) (_ : True) (_ : a0_1.size ≤ maxLen) (_ : a0_2.size ≤ maxLen) (_ : a0_3.size ≤ maxLen) (_ : a0_4.size ≤ maxLen)
    (_ : True) (_ : a1_1.size ≤ maxLen) (_ : a1_2.size ≤ maxLen) (_ : a1_3.size ≤ maxLen) (_ : a1_4.size ≤ maxLen) :
    laws_FnExactSamePairPoint.f a0_0 a0_1 a0_2 a0_3 a0_4 a1_0 a1_1 a1_2 a1_3 a1_4 = some true := by
  unfold laws_FnExactSamePairPoint.f
  obtain ⟨r, hr⟩ := szPairPoint_some a0_0 a0_1 a0_2 a0_3 a0_4 1048576
  rw [hr]
  simp only [Option.bind_some]
  split
  · rfl
  · obtain ⟨s, hs⟩ := szPairPoint_some a1_0 a1_1 a1_2 a1_3 a1_4 r
    rw [hs]
    simp only [Option.bind_some]
    split
    · rfl
    · simp [laws_toPairPoint.f, laws_toPair.f, spec_SamePairPoint.f, impl_SamePairPoint.f]
end Go.Proofs.Ytjebeebjmbfcmaa.Pure
