/- The row of FnExactSameCombo: for every argument the law answers true and leaves its arguments as they were. No condition. -/
import Derived.Test.YtjebeebjmbfcmaaRows
import Derived.Test.YtjebeebjmbfcmaaOp
import Derived.Test.YtjebeebjmbfcmaaPFnExactSameCombox3
import Derived.Test.YtjebeebjmbfcmaaUFnExactSameCombo
import Derived.WalkKit
import Derived.ProofKit
import Derived.OpenShut
import Derived.ShutString
import Derived.ChangeOld
import Derived.Below
import Derived.SizedLaws
namespace Go.Proofs.Ytjebeebjmbfcmaa.fnExactSameCombo
open Go.ChangeShapes Go.WideShapes Go.ChangeAt Go.RowKit
open Go.ChangeMaps (open_string shut_string)
open Go.Proofs.YtjebeebjmbfcmaaO Go.Proofs.YtjebeebjmbfcmaaW.PrintWords
open Go.Proofs.Ytjebeebjmbfcmaa.PFnExactSameCombo
set_option linter.unusedVariables false
theorem own : ownKnob Try.prog.godebug = none := by kernel_rfl
theorem laidOut : laidOutB Try.prog = true := by kernel_rfl
set_option maxRecDepth 100000 in
theorem lifted (os : Os) (started : os.Started) (H : Type) (enc : TypeId × Value → H) :
    ReturnsInHanded {} Try.checked os 10 .any (Rows.fnExactSameComboSpec.pre6 enc Try.prog Try.f10 Rows.fnExactSameComboRow.domain false) (Rows.fnExactSameComboSpec.post enc Try.prog Try.f10 false true false false) := by
  refine returnsInHanded_of_change_sized (C := Try.checked) own started (by kernel_rfl) Try.func10
    (ChangeSpec.witness6 (enc := enc) (C := Try.checked) false ⟨#[], #[.slice none 0 0, .slice none 0 0], []⟩ 8 (by kernel_rfl) (by kernel_rfl) (by kernel_rfl) (by kernel_rfl)) ?_
  intro W base args ds gs before hval0 hW hcnd hsz0 _
  have hval : ∀ (j : Nat) t v, Try.f10.params[j]? = some t → args[j]? = some v → Value.okWide Try.prog W .any base t v := hval0
  have hW' := hW
  obtain ⟨p, q, hA0, hV, rfl, hfz, hnd⟩ := hW
  have hA : DataW.TrodAll enc Try.prog W 0 (fun _ => true) true Try.f10.params.toList args.toList ds p := hA0
  rw [Try.params10] at hA hval
  obtain ⟨v0, vs0, d0, ds0, p0, q0, hargs, rfl, rfl, h0, r0⟩ := trodAll_cons hA
  obtain ⟨v1, vs1, d1, ds1, p1, q1, rfl, rfl, rfl, h1, r1⟩ := trodAll_cons r0
  obtain ⟨rfl, rfl, rfl⟩ := trodAll_nil r1
  obtain rfl : args = #[v0, v1] := by cases args; simp_all
  obtain ⟨rfl, rfl⟩ := trodVars_none hV
  have k0 := h0
  have lt0 : ∀ x ∈ p0, x.block < W.heap.size := by obtain ⟨m, hm⟩ := k0; exact DataW.trod_lt m _ _ _ hm
  obtain ⟨A0, c0, l0, rfl, hc0, hC0, w0⟩ := arg_slice Try.underlying48 (opens_slice Try.underlying48 (by kernel_rfl) (show Opens Try.prog k77 77 _ from opens_iso (g := fun a => ⟨a.1, a.2⟩) (fun _ => rfl) (opens_struct Try.underlying77 (by kernel_rfl) (field_cons (by rfl) (by rfl) (by kernel_rfl) rfl (opens_int Try.underlying3) (field_one (by rfl) (by rfl) (by kernel_rfl) (opens_string Try.underlying9)))))) (hval 0 48 v0 rfl rfl) h0
  have k1 := h1
  have lt1 : ∀ x ∈ p1, x.block < W.heap.size := by obtain ⟨m, hm⟩ := k1; exact DataW.trod_lt m _ _ _ hm
  obtain ⟨A1, c1, l1, rfl, hc1, hC1, w1⟩ := arg_slice Try.underlying48 (opens_slice Try.underlying48 (by kernel_rfl) (show Opens Try.prog k77 77 _ from opens_iso (g := fun a => ⟨a.1, a.2⟩) (fun _ => rfl) (opens_struct Try.underlying77 (by kernel_rfl) (field_cons (by rfl) (by rfl) (by kernel_rfl) rfl (opens_int Try.underlying3) (field_one (by rfl) (by rfl) (by kernel_rfl) (opens_string Try.underlying9)))))) (hval 1 48 v1 rfl rfl) h1
  clear hA0 hval0 hsz0
  obtain ⟨k, hk⟩ := Pure.FnExactSameCombo l0 l1 w0 w1
  refine (Go.Proofs.Ytjebeebjmbfcmaa.PFnExactSameCombo.laws_FnExactSameCombo.calls k _ _ l0 _ _ l1 true W hC0 hc0 hC1 hc1 hk).mono fun e W' ⟨he, hd⟩ => ?_
  have bel : Below W.heap.size W W' := hd
  subst he
  exact ⟨_, rfl, _, _, _, [], _, [], hW', trodAll_mk1 (shut_bool Try.underlying4 _), (trodAll_cons_mk (Below.trod laidOut (by kernel_rfl) (of_decide_eq_true (by kernel_rfl)) k0 bel lt0) (trodAll_cons_mk (Below.trod laidOut (by kernel_rfl) (of_decide_eq_true (by kernel_rfl)) k1 bel lt1) trodAll_mk0)), rfl, bel.frame _, fun h => by cases h⟩
theorem over : Rows.fnExactSameComboRow.holds Try.pinned (OpenSpec.ofChange Rows.fnExactSameComboSpec) :=
  OpenClaim.holds_of_wide 10 Try.f10 rfl rfl rfl rfl rfl rfl rfl ⟨rfl, rfl, rfl, rfl, rfl⟩ rfl rfl rfl rfl rfl (by kernel_rfl) Try.func10 (by kernel_rfl)
    (of_decide_eq_true (by kernel_rfl)) (by unfold Func.isWrapper; first | (rw [if_pos (by decide +kernel)]; kernel_rfl) | (rw [if_neg (by decide +kernel)]; exact ⟨rfl, rfl⟩))
    (fun os started H enc _ => lifted os started H enc)
theorem proved : Rows.FnExactSameComboSaid := over
#print axioms proved
end Go.Proofs.Ytjebeebjmbfcmaa.fnExactSameCombo
namespace Go.Proofs.Ytjebeebjmbfcmaa
/-- The row, under a short name, for the claim. -/
theorem fnExactSameCombo_holds : Rows.FnExactSameComboSaid := fnExactSameCombo.proved
end Go.Proofs.Ytjebeebjmbfcmaa
