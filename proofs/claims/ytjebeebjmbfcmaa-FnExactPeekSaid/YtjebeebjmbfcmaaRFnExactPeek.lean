/- The row of FnExactPeek: for every argument the law answers true and leaves its arguments as they were. No condition. -/
import Derived.Test.YtjebeebjmbfcmaaRows
import Derived.Test.YtjebeebjmbfcmaaOp
import Derived.Test.YtjebeebjmbfcmaaUSrc
import Derived.WalkKit
import Derived.ProofKit
import Derived.OpenShut
import Derived.ShutString
import Derived.ChangeOld
import Derived.Below
import Derived.SizedLaws
namespace Go.Proofs.Ytjebeebjmbfcmaa.fnExactPeek
open Go.ChangeShapes Go.WideShapes Go.ChangeAt Go.RowKit
open Go.ChangeMaps (open_string shut_string)
open Go.Proofs.YtjebeebjmbfcmaaO Go.Proofs.YtjebeebjmbfcmaaW.PrintWords
open Go.Proofs.Ytjebeebjmbfcmaa.K
set_option linter.unusedVariables false
theorem own : ownKnob Try.prog.godebug = none := by kernel_rfl
theorem laidOut : laidOutB Try.prog = true := by kernel_rfl
set_option maxRecDepth 100000 in
theorem lifted (os : Os) (started : os.Started) (H : Type) (enc : TypeId × Value → H) :
    ReturnsInHanded {} Try.checked os 12 .any (Rows.fnExactPeekSpec.pre6 enc Try.prog Try.f12 Rows.fnExactPeekRow.domain false) (Rows.fnExactPeekSpec.post enc Try.prog Try.f12 false true false false) := by
  refine returnsInHanded_of_change_sized (C := Try.checked) own started (by kernel_rfl) Try.func12
    (ChangeSpec.witness6 (enc := enc) (C := Try.checked) false ⟨#[], #[.agg #[.slice none 0 0, .int .i64 0, .int .i64 0, .int .i64 0]], []⟩ 8 (by kernel_rfl) (by kernel_rfl) (by kernel_rfl) (by kernel_rfl)) ?_
  intro W base args ds gs before hval0 hW hcnd hsz0 _
  have hval : ∀ (j : Nat) t v, Try.f12.params[j]? = some t → args[j]? = some v → Value.okWide Try.prog W .any base t v := hval0
  have hW' := hW
  obtain ⟨p, q, hA0, hV, rfl, hfz, hnd⟩ := hW
  have hA : DataW.TrodAll enc Try.prog W 0 (fun _ => true) true Try.f12.params.toList args.toList ds p := hA0
  rw [Try.params12] at hA hval
  obtain ⟨v0, vs0, d0, ds0, p0, q0, hargs, rfl, rfl, h0, r0⟩ := trodAll_cons hA
  obtain ⟨rfl, rfl, rfl⟩ := trodAll_nil r0
  obtain rfl : args = #[v0] := by cases args; simp_all
  obtain ⟨rfl, rfl⟩ := trodVars_none hV
  have k0 := h0
  have lt0 : ∀ x ∈ p0, x.block < W.heap.size := by obtain ⟨m, hm⟩ := k0; exact DataW.trod_lt m _ _ _ hm
  obtain ⟨x0, cs0, rfl, K0, G0⟩ := arg_struct Try.underlying56 (opens_struct Try.underlying56 (by kernel_rfl) (field_cons (by rfl) (by rfl) (by kernel_rfl) rfl (opens_slice Try.underlying54 (by kernel_rfl) (opens_string Try.underlying9)) (field_cons (by rfl) (by rfl) (by kernel_rfl) rfl (opens_int Try.underlying3) (field_cons (by rfl) (by rfl) (by kernel_rfl) rfl (opens_int Try.underlying3) (field_one (by rfl) (by rfl) (by kernel_rfl) (opens_int Try.underlying3)))))) (hval 0 56 v0 rfl rfl) h0
  obtain ⟨l0_0, ⟨a0_1, ⟨a0_2, a0_3⟩⟩⟩ := x0
  obtain ⟨_, _, E0, ⟨A0_0, c0_0, rfl, hc0_0, hC0_0⟩, ⟨_, _, rfl, rfl, ⟨_, _, rfl, rfl, rfl⟩⟩⟩ := K0
  obtain ⟨w0_0, ⟨w0_1, ⟨w0_2, w0_3⟩⟩⟩ := G0
  obtain rfl : cs0 = #[.slice A0_0 l0_0.length c0_0, .int .i64 a0_1, .int .i64 a0_2, .int .i64 a0_3] := Array.toList_inj.mp (by rw [E0]; rfl)
  clear hA0 hval0 hsz0
  obtain ⟨k, hk⟩ := Pure.FnExactPeek l0_0 a0_1 a0_2 a0_3 w0_0 w0_1 w0_2 w0_3
  refine (Go.Proofs.Ytjebeebjmbfcmaa.K.laws_FnExactPeek.calls k _ _ l0_0 a0_1 a0_2 a0_3 true W hC0_0 hc0_0 hk).mono fun e W' ⟨he, hd⟩ => ?_
  have bel : Below W.heap.size W W' := hd
  subst he
  exact ⟨_, rfl, _, _, _, [], _, [], hW', trodAll_mk1 (shut_bool Try.underlying4 _), (trodAll_cons_mk (Below.trod laidOut (by kernel_rfl) (of_decide_eq_true (by kernel_rfl)) k0 bel lt0) trodAll_mk0), rfl, bel.frame _, fun h => by cases h⟩
theorem over : Rows.fnExactPeekRow.holds Try.pinned (OpenSpec.ofChange Rows.fnExactPeekSpec) :=
  OpenClaim.holds_of_wide 12 Try.f12 rfl rfl rfl rfl rfl rfl rfl ⟨rfl, rfl, rfl, rfl, rfl⟩ rfl rfl rfl rfl rfl (by kernel_rfl) Try.func12 (by kernel_rfl)
    (of_decide_eq_true (by kernel_rfl)) (by unfold Func.isWrapper; first | (rw [if_pos (by decide +kernel)]; kernel_rfl) | (rw [if_neg (by decide +kernel)]; exact ⟨rfl, rfl⟩))
    (fun os started H enc _ => lifted os started H enc)
theorem proved : Rows.FnExactPeekSaid := over
#print axioms proved
end Go.Proofs.Ytjebeebjmbfcmaa.fnExactPeek
namespace Go.Proofs.Ytjebeebjmbfcmaa
/-- The row, under a short name, for the claim. -/
theorem fnExactPeek_holds : Rows.FnExactPeekSaid := fnExactPeek.proved
end Go.Proofs.Ytjebeebjmbfcmaa
