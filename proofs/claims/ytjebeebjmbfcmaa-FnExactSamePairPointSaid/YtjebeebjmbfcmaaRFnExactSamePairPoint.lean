/- The row of FnExactSamePairPoint: for every argument the law answers true and leaves its arguments as they were. No condition. -/
import Derived.Test.YtjebeebjmbfcmaaRows
import Derived.Test.YtjebeebjmbfcmaaOp
import Derived.Test.YtjebeebjmbfcmaaPFnExactSamePairPointx2
import Derived.Test.YtjebeebjmbfcmaaUFnExactSamePairPoint
import Derived.WalkKit
import Derived.ProofKit
import Derived.OpenShut
import Derived.ShutString
import Derived.ChangeOld
import Derived.Below
import Derived.SizedLaws
namespace Go.Proofs.Ytjebeebjmbfcmaa.fnExactSamePairPoint
open Go.ChangeShapes Go.WideShapes Go.ChangeAt Go.RowKit
open Go.ChangeMaps (open_string shut_string)
open Go.Proofs.YtjebeebjmbfcmaaO Go.Proofs.YtjebeebjmbfcmaaW.PrintWords
open Go.Proofs.Ytjebeebjmbfcmaa.PFnExactSamePairPoint
set_option linter.unusedVariables false
theorem own : ownKnob Try.prog.godebug = none := by kernel_rfl
theorem laidOut : laidOutB Try.prog = true := by kernel_rfl
set_option maxRecDepth 100000 in
theorem lifted (os : Os) (started : os.Started) (H : Type) (enc : TypeId × Value → H) :
    ReturnsInHanded {} Try.checked os 8 .any (Rows.fnExactSamePairPointSpec.pre6 enc Try.prog Try.f8 Rows.fnExactSamePairPointRow.domain false) (Rows.fnExactSamePairPointSpec.post enc Try.prog Try.f8 false true false false) := by
  refine returnsInHanded_of_change_sized (C := Try.checked) own started (by kernel_rfl) Try.func8
    (ChangeSpec.witness6 (enc := enc) (C := Try.checked) false ⟨#[], #[.agg #[.bool false, .string ByteArray.empty, .string ByteArray.empty, .string ByteArray.empty, .string ByteArray.empty], .agg #[.bool false, .string ByteArray.empty, .string ByteArray.empty, .string ByteArray.empty, .string ByteArray.empty]], []⟩ 8 (by kernel_rfl) (by kernel_rfl) (by kernel_rfl) (by kernel_rfl)) ?_
  intro W base args ds gs before hval0 hW hcnd hsz0 _
  have hval : ∀ (j : Nat) t v, Try.f8.params[j]? = some t → args[j]? = some v → Value.okWide Try.prog W .any base t v := hval0
  have hW' := hW
  obtain ⟨p, q, hA0, hV, rfl, hfz, hnd⟩ := hW
  have hA : DataW.TrodAll enc Try.prog W 0 (fun _ => true) true Try.f8.params.toList args.toList ds p := hA0
  rw [Try.params8] at hA hval
  obtain ⟨v0, vs0, d0, ds0, p0, q0, hargs, rfl, rfl, h0, r0⟩ := trodAll_cons hA
  obtain ⟨v1, vs1, d1, ds1, p1, q1, rfl, rfl, rfl, h1, r1⟩ := trodAll_cons r0
  obtain ⟨rfl, rfl, rfl⟩ := trodAll_nil r1
  obtain rfl : args = #[v0, v1] := by cases args; simp_all
  obtain ⟨rfl, rfl⟩ := trodVars_none hV
  have k0 := h0
  have lt0 : ∀ x ∈ p0, x.block < W.heap.size := by obtain ⟨m, hm⟩ := k0; exact DataW.trod_lt m _ _ _ hm
  obtain ⟨x0, cs0, rfl, K0, G0⟩ := arg_struct Try.underlying39 (opens_struct Try.underlying39 (by kernel_rfl) (field_cons (by rfl) (by rfl) (by kernel_rfl) rfl (opens_bool Try.underlying4) (field_cons (by rfl) (by rfl) (by kernel_rfl) rfl (opens_struct Try.underlying37 (by kernel_rfl) (field_cons (by rfl) (by rfl) (by kernel_rfl) rfl (opens_string Try.underlying9) (field_one (by rfl) (by rfl) (by kernel_rfl) (opens_string Try.underlying9)))) (field_one (by rfl) (by rfl) (by kernel_rfl) (opens_struct Try.underlying37 (by kernel_rfl) (field_cons (by rfl) (by rfl) (by kernel_rfl) rfl (opens_string Try.underlying9) (field_one (by rfl) (by rfl) (by kernel_rfl) (opens_string Try.underlying9)))))))) (hval 0 39 v0 rfl rfl) h0
  obtain ⟨a0_0, ⟨⟨a0_1, a0_2⟩, ⟨a0_3, a0_4⟩⟩⟩ := x0
  obtain ⟨_, _, E0, rfl, ⟨_, _, rfl, ⟨_, _, rfl, rfl, rfl⟩, ⟨_, _, rfl, rfl, rfl⟩⟩⟩ := K0
  obtain ⟨w0_0, ⟨⟨w0_1, w0_2⟩, ⟨w0_3, w0_4⟩⟩⟩ := G0
  obtain rfl : cs0 = #[.bool a0_0, .string a0_1, .string a0_2, .string a0_3, .string a0_4] := Array.toList_inj.mp (by rw [E0]; rfl)
  have k1 := h1
  have lt1 : ∀ x ∈ p1, x.block < W.heap.size := by obtain ⟨m, hm⟩ := k1; exact DataW.trod_lt m _ _ _ hm
  obtain ⟨x1, cs1, rfl, K1, G1⟩ := arg_struct Try.underlying39 (opens_struct Try.underlying39 (by kernel_rfl) (field_cons (by rfl) (by rfl) (by kernel_rfl) rfl (opens_bool Try.underlying4) (field_cons (by rfl) (by rfl) (by kernel_rfl) rfl (opens_struct Try.underlying37 (by kernel_rfl) (field_cons (by rfl) (by rfl) (by kernel_rfl) rfl (opens_string Try.underlying9) (field_one (by rfl) (by rfl) (by kernel_rfl) (opens_string Try.underlying9)))) (field_one (by rfl) (by rfl) (by kernel_rfl) (opens_struct Try.underlying37 (by kernel_rfl) (field_cons (by rfl) (by rfl) (by kernel_rfl) rfl (opens_string Try.underlying9) (field_one (by rfl) (by rfl) (by kernel_rfl) (opens_string Try.underlying9)))))))) (hval 1 39 v1 rfl rfl) h1
  obtain ⟨a1_0, ⟨⟨a1_1, a1_2⟩, ⟨a1_3, a1_4⟩⟩⟩ := x1
  obtain ⟨_, _, E1, rfl, ⟨_, _, rfl, ⟨_, _, rfl, rfl, rfl⟩, ⟨_, _, rfl, rfl, rfl⟩⟩⟩ := K1
  obtain ⟨w1_0, ⟨⟨w1_1, w1_2⟩, ⟨w1_3, w1_4⟩⟩⟩ := G1
  obtain rfl : cs1 = #[.bool a1_0, .string a1_1, .string a1_2, .string a1_3, .string a1_4] := Array.toList_inj.mp (by rw [E1]; rfl)
  clear hA0 hval0 hsz0
  have hk := Pure.FnExactSamePairPoint a0_0 a0_1 a0_2 a0_3 a0_4 a1_0 a1_1 a1_2 a1_3 a1_4 w0_0 w0_1 w0_2 w0_3 w0_4 w1_0 w1_1 w1_2 w1_3 w1_4
  refine (Go.Proofs.Ytjebeebjmbfcmaa.PFnExactSamePairPoint.laws_FnExactSamePairPoint.calls a0_0 a0_1 a0_2 a0_3 a0_4 a1_0 a1_1 a1_2 a1_3 a1_4 true W  hk).mono fun e W' ⟨he, hd⟩ => ?_
  have bel : Below W.heap.size W W' := hd
  subst he
  exact ⟨_, rfl, _, _, _, [], _, [], hW', trodAll_mk1 (shut_bool Try.underlying4 _), (trodAll_cons_mk (Below.trod laidOut (by kernel_rfl) (of_decide_eq_true (by kernel_rfl)) k0 bel lt0) (trodAll_cons_mk (Below.trod laidOut (by kernel_rfl) (of_decide_eq_true (by kernel_rfl)) k1 bel lt1) trodAll_mk0)), rfl, bel.frame _, fun h => by cases h⟩
theorem over : Rows.fnExactSamePairPointRow.holds Try.pinned (OpenSpec.ofChange Rows.fnExactSamePairPointSpec) :=
  OpenClaim.holds_of_wide 8 Try.f8 rfl rfl rfl rfl rfl rfl rfl ⟨rfl, rfl, rfl, rfl, rfl⟩ rfl rfl rfl rfl rfl (by kernel_rfl) Try.func8 (by kernel_rfl)
    (of_decide_eq_true (by kernel_rfl)) (by unfold Func.isWrapper; first | (rw [if_pos (by decide +kernel)]; kernel_rfl) | (rw [if_neg (by decide +kernel)]; exact ⟨rfl, rfl⟩))
    (fun os started H enc _ => lifted os started H enc)
theorem proved : Rows.FnExactSamePairPointSaid := over
#print axioms proved
end Go.Proofs.Ytjebeebjmbfcmaa.fnExactSamePairPoint
namespace Go.Proofs.Ytjebeebjmbfcmaa
/-- The row, under a short name, for the claim. -/
theorem fnExactSamePairPoint_holds : Rows.FnExactSamePairPointSaid := fnExactSamePairPoint.proved
end Go.Proofs.Ytjebeebjmbfcmaa
