/-
  No cell of these rows narrows 'for every input' (looked for: loops, veiled, ifaces, maps, wideKeys, modest, calm, conditions, laid).
  DERIVED. THE GIVEN ROWS OF THIS SEAT. 12 by the template 'for every input the law returns true; each argument reads behind the call as it read before'; 0 by the template 'total and deterministic' (their statements: YtjebeebjmbfcmaaTotals.lean).
  GIVEN WITH THE SEED: the statements are not yours to turn. If you find one false, say at which input.
  Laid BY PROGRAM, IN A SANDBOX (cutbox-rows.mjs): the forced cells as the released guide's own fill.sh prints them over the translation 9d20906abaf64dd9… (all of the seat's roots in one cut). By AI agents, Wed Nov 11 2026. No macro, syntax, notation, axiom, sorry.
-/
import Derived.Test.YtjebeebjmbfcmaaChecked
import GoSem.Claim
import GoSem.ClaimJoined
import GoSem.ClaimMapViews
import Derived.JoinedTies
import Derived.KernelRfl
namespace Go.Proofs.Ytjebeebjmbfcmaa
/- THE CELL 'sum', in the pinned program and in every row, IS THE sha256 OF THE DUMP (.gsa) THAT YtjebeebjmbfcmaaProg.lean LOADS. Nothing in Lean hashes anything: it is a label: what it is worth is what the hold of that sum in a sandbox is worth. -/
noncomputable def Try.pinned : Pinned := { name := "ytjebeebjmbfcmaa", sum := "9d20906abaf64dd97ad0f4de2d0e3487b82e628b7e28ad2e1896c9f76b1ec00e", checked := Try.checked }
namespace Rows
def none {H : Type} : Left H := { results := [], args := [] }

/-- 'laws.FnExactCodeWord': WHATEVER THE INPUT: true; the input reads as it did. -/
def fnExactCodeWordSpec : ChangeSpec := { name := "fnExactCodeWord", fn := fun _ => fun
  | [d] => { results := [.lit (.bool true)], args := [d] }
  | _ => none }
def fnExactCodeWordRow : OpenClaim := { program := "ytjebeebjmbfcmaa", sum := "9d20906abaf64dd97ad0f4de2d0e3487b82e628b7e28ad2e1896c9f76b1ec00e", func := "loop.example/g00970/laws.FnExactCodeWord", spec := "fnExactCodeWord", apart := false }
def FnExactCodeWordSaid : Prop := fnExactCodeWordRow.holds Try.pinned (OpenSpec.ofChange fnExactCodeWordSpec)

/-- ITS FALSE NEIGHBOUR: 'it returns false'. Refute it at one input. -/
def fnExactCodeWordWrong : ChangeSpec := { name := "fnExactCodeWord", fn := fun _ => fun
  | [d] => { results := [.lit (.bool false)], args := [d] }
  | _ => none }
def FnExactCodeWordWrongFalsely : Prop := fnExactCodeWordRow.holds Try.pinned (OpenSpec.ofChange fnExactCodeWordWrong)

/-- 'laws.FnExactCountCode': WHATEVER THE INPUT: true; the input reads as it did. -/
def fnExactCountCodeSpec : ChangeSpec := { name := "fnExactCountCode", fn := fun _ => fun
  | [d1, d2, d3] => { results := [.lit (.bool true)], args := [d1, d2, d3] }
  | _ => none }
def fnExactCountCodeRow : OpenClaim := { program := "ytjebeebjmbfcmaa", sum := "9d20906abaf64dd97ad0f4de2d0e3487b82e628b7e28ad2e1896c9f76b1ec00e", func := "loop.example/g00970/laws.FnExactCountCode", spec := "fnExactCountCode", apart := false }
def FnExactCountCodeSaid : Prop := fnExactCountCodeRow.holds Try.pinned (OpenSpec.ofChange fnExactCountCodeSpec)

/-- ITS FALSE NEIGHBOUR: 'it returns false'. Refute it at one input. -/
def fnExactCountCodeWrong : ChangeSpec := { name := "fnExactCountCode", fn := fun _ => fun
  | [d1, d2, d3] => { results := [.lit (.bool false)], args := [d1, d2, d3] }
  | _ => none }
def FnExactCountCodeWrongFalsely : Prop := fnExactCountCodeRow.holds Try.pinned (OpenSpec.ofChange fnExactCountCodeWrong)

/-- 'laws.FnExactUsualLimits': WHATEVER THE INPUT: true; the input reads as it did. -/
def fnExactUsualLimitsSpec : ChangeSpec := { name := "fnExactUsualLimits", fn := fun _ => fun
  | [] => { results := [.lit (.bool true)], args := [] }
  | _ => none }
def fnExactUsualLimitsRow : OpenClaim := { program := "ytjebeebjmbfcmaa", sum := "9d20906abaf64dd97ad0f4de2d0e3487b82e628b7e28ad2e1896c9f76b1ec00e", func := "loop.example/g00970/laws.FnExactUsualLimits", spec := "fnExactUsualLimits", apart := false }
def FnExactUsualLimitsSaid : Prop := fnExactUsualLimitsRow.holds Try.pinned (OpenSpec.ofChange fnExactUsualLimitsSpec)

/-- ITS FALSE NEIGHBOUR: 'it returns false'. Refute it at one input. -/
def fnExactUsualLimitsWrong : ChangeSpec := { name := "fnExactUsualLimits", fn := fun _ => fun
  | [] => { results := [.lit (.bool false)], args := [] }
  | _ => none }
def FnExactUsualLimitsWrongFalsely : Prop := fnExactUsualLimitsRow.holds Try.pinned (OpenSpec.ofChange fnExactUsualLimitsWrong)

/-- 'laws.FnExactLimitsOk': WHATEVER THE INPUT: true; the input reads as it did. -/
def fnExactLimitsOkSpec : ChangeSpec := { name := "fnExactLimitsOk", fn := fun _ => fun
  | [d] => { results := [.lit (.bool true)], args := [d] }
  | _ => none }
def fnExactLimitsOkRow : OpenClaim := { program := "ytjebeebjmbfcmaa", sum := "9d20906abaf64dd97ad0f4de2d0e3487b82e628b7e28ad2e1896c9f76b1ec00e", func := "loop.example/g00970/laws.FnExactLimitsOk", spec := "fnExactLimitsOk", apart := false }
def FnExactLimitsOkSaid : Prop := fnExactLimitsOkRow.holds Try.pinned (OpenSpec.ofChange fnExactLimitsOkSpec)

/-- ITS FALSE NEIGHBOUR: 'it returns false'. Refute it at one input. -/
def fnExactLimitsOkWrong : ChangeSpec := { name := "fnExactLimitsOk", fn := fun _ => fun
  | [d] => { results := [.lit (.bool false)], args := [d] }
  | _ => none }
def FnExactLimitsOkWrongFalsely : Prop := fnExactLimitsOkRow.holds Try.pinned (OpenSpec.ofChange fnExactLimitsOkWrong)

/-- 'laws.FnExactLimitsIn': WHATEVER THE INPUT: true; the input reads as it did. -/
def fnExactLimitsInSpec : ChangeSpec := { name := "fnExactLimitsIn", fn := fun _ => fun
  | [d1, d2] => { results := [.lit (.bool true)], args := [d1, d2] }
  | _ => none }
def fnExactLimitsInRow : OpenClaim := { program := "ytjebeebjmbfcmaa", sum := "9d20906abaf64dd97ad0f4de2d0e3487b82e628b7e28ad2e1896c9f76b1ec00e", func := "loop.example/g00970/laws.FnExactLimitsIn", spec := "fnExactLimitsIn", apart := false }
def FnExactLimitsInSaid : Prop := fnExactLimitsInRow.holds Try.pinned (OpenSpec.ofChange fnExactLimitsInSpec)

/-- ITS FALSE NEIGHBOUR: 'it returns false'. Refute it at one input. -/
def fnExactLimitsInWrong : ChangeSpec := { name := "fnExactLimitsIn", fn := fun _ => fun
  | [d1, d2] => { results := [.lit (.bool false)], args := [d1, d2] }
  | _ => none }
def FnExactLimitsInWrongFalsely : Prop := fnExactLimitsInRow.holds Try.pinned (OpenSpec.ofChange fnExactLimitsInWrong)

/-- 'laws.FnExactSamePairPoint': WHATEVER THE INPUT: true; the input reads as it did. -/
def fnExactSamePairPointSpec : ChangeSpec := { name := "fnExactSamePairPoint", fn := fun _ => fun
  | [d1, d2] => { results := [.lit (.bool true)], args := [d1, d2] }
  | _ => none }
def fnExactSamePairPointRow : OpenClaim := { program := "ytjebeebjmbfcmaa", sum := "9d20906abaf64dd97ad0f4de2d0e3487b82e628b7e28ad2e1896c9f76b1ec00e", func := "loop.example/g00970/laws.FnExactSamePairPoint", spec := "fnExactSamePairPoint", apart := false }
def FnExactSamePairPointSaid : Prop := fnExactSamePairPointRow.holds Try.pinned (OpenSpec.ofChange fnExactSamePairPointSpec)

/-- ITS FALSE NEIGHBOUR: 'it returns false'. Refute it at one input. -/
def fnExactSamePairPointWrong : ChangeSpec := { name := "fnExactSamePairPoint", fn := fun _ => fun
  | [d1, d2] => { results := [.lit (.bool false)], args := [d1, d2] }
  | _ => none }
def FnExactSamePairPointWrongFalsely : Prop := fnExactSamePairPointRow.holds Try.pinned (OpenSpec.ofChange fnExactSamePairPointWrong)

/-- 'laws.FnExactLesserLimits': WHATEVER THE INPUT: true; the input reads as it did. -/
def fnExactLesserLimitsSpec : ChangeSpec := { name := "fnExactLesserLimits", fn := fun _ => fun
  | [d1, d2] => { results := [.lit (.bool true)], args := [d1, d2] }
  | _ => none }
def fnExactLesserLimitsRow : OpenClaim := { program := "ytjebeebjmbfcmaa", sum := "9d20906abaf64dd97ad0f4de2d0e3487b82e628b7e28ad2e1896c9f76b1ec00e", func := "loop.example/g00970/laws.FnExactLesserLimits", spec := "fnExactLesserLimits", apart := false }
def FnExactLesserLimitsSaid : Prop := fnExactLesserLimitsRow.holds Try.pinned (OpenSpec.ofChange fnExactLesserLimitsSpec)

/-- ITS FALSE NEIGHBOUR: 'it returns false'. Refute it at one input. -/
def fnExactLesserLimitsWrong : ChangeSpec := { name := "fnExactLesserLimits", fn := fun _ => fun
  | [d1, d2] => { results := [.lit (.bool false)], args := [d1, d2] }
  | _ => none }
def FnExactLesserLimitsWrongFalsely : Prop := fnExactLesserLimitsRow.holds Try.pinned (OpenSpec.ofChange fnExactLesserLimitsWrong)

/-- 'laws.FnExactSameCombo': WHATEVER THE INPUT: true; the input reads as it did. -/
def fnExactSameComboSpec : ChangeSpec := { name := "fnExactSameCombo", fn := fun _ => fun
  | [d1, d2] => { results := [.lit (.bool true)], args := [d1, d2] }
  | _ => none }
def fnExactSameComboRow : OpenClaim := { program := "ytjebeebjmbfcmaa", sum := "9d20906abaf64dd97ad0f4de2d0e3487b82e628b7e28ad2e1896c9f76b1ec00e", func := "loop.example/g00970/laws.FnExactSameCombo", spec := "fnExactSameCombo", apart := false }
def FnExactSameComboSaid : Prop := fnExactSameComboRow.holds Try.pinned (OpenSpec.ofChange fnExactSameComboSpec)

/-- ITS FALSE NEIGHBOUR: 'it returns false'. Refute it at one input. -/
def fnExactSameComboWrong : ChangeSpec := { name := "fnExactSameCombo", fn := fun _ => fun
  | [d1, d2] => { results := [.lit (.bool false)], args := [d1, d2] }
  | _ => none }
def FnExactSameComboWrongFalsely : Prop := fnExactSameComboRow.holds Try.pinned (OpenSpec.ofChange fnExactSameComboWrong)

/-- 'laws.FnExactToCome': WHATEVER THE INPUT: true; the input reads as it did. -/
def fnExactToComeSpec : ChangeSpec := { name := "fnExactToCome", fn := fun _ => fun
  | [d] => { results := [.lit (.bool true)], args := [d] }
  | _ => none }
def fnExactToComeRow : OpenClaim := { program := "ytjebeebjmbfcmaa", sum := "9d20906abaf64dd97ad0f4de2d0e3487b82e628b7e28ad2e1896c9f76b1ec00e", func := "loop.example/g00970/laws.FnExactToCome", spec := "fnExactToCome", apart := false }
def FnExactToComeSaid : Prop := fnExactToComeRow.holds Try.pinned (OpenSpec.ofChange fnExactToComeSpec)

/-- ITS FALSE NEIGHBOUR: 'it returns false'. Refute it at one input. -/
def fnExactToComeWrong : ChangeSpec := { name := "fnExactToCome", fn := fun _ => fun
  | [d] => { results := [.lit (.bool false)], args := [d] }
  | _ => none }
def FnExactToComeWrongFalsely : Prop := fnExactToComeRow.holds Try.pinned (OpenSpec.ofChange fnExactToComeWrong)

/-- 'laws.FnExactPeek': WHATEVER THE INPUT: true; the input reads as it did. -/
def fnExactPeekSpec : ChangeSpec := { name := "fnExactPeek", fn := fun _ => fun
  | [d] => { results := [.lit (.bool true)], args := [d] }
  | _ => none }
def fnExactPeekRow : OpenClaim := { program := "ytjebeebjmbfcmaa", sum := "9d20906abaf64dd97ad0f4de2d0e3487b82e628b7e28ad2e1896c9f76b1ec00e", func := "loop.example/g00970/laws.FnExactPeek", spec := "fnExactPeek", apart := false }
def FnExactPeekSaid : Prop := fnExactPeekRow.holds Try.pinned (OpenSpec.ofChange fnExactPeekSpec)

/-- ITS FALSE NEIGHBOUR: 'it returns false'. Refute it at one input. -/
def fnExactPeekWrong : ChangeSpec := { name := "fnExactPeek", fn := fun _ => fun
  | [d] => { results := [.lit (.bool false)], args := [d] }
  | _ => none }
def FnExactPeekWrongFalsely : Prop := fnExactPeekRow.holds Try.pinned (OpenSpec.ofChange fnExactPeekWrong)

/-- 'laws.FnExactSourceOk': WHATEVER THE INPUT: true; the input reads as it did. -/
def fnExactSourceOkSpec : ChangeSpec := { name := "fnExactSourceOk", fn := fun _ => fun
  | [d] => { results := [.lit (.bool true)], args := [d] }
  | _ => none }
def fnExactSourceOkRow : OpenClaim := { program := "ytjebeebjmbfcmaa", sum := "9d20906abaf64dd97ad0f4de2d0e3487b82e628b7e28ad2e1896c9f76b1ec00e", func := "loop.example/g00970/laws.FnExactSourceOk", spec := "fnExactSourceOk", apart := false }
def FnExactSourceOkSaid : Prop := fnExactSourceOkRow.holds Try.pinned (OpenSpec.ofChange fnExactSourceOkSpec)

/-- ITS FALSE NEIGHBOUR: 'it returns false'. Refute it at one input. -/
def fnExactSourceOkWrong : ChangeSpec := { name := "fnExactSourceOk", fn := fun _ => fun
  | [d] => { results := [.lit (.bool false)], args := [d] }
  | _ => none }
def FnExactSourceOkWrongFalsely : Prop := fnExactSourceOkRow.holds Try.pinned (OpenSpec.ofChange fnExactSourceOkWrong)

/-- 'laws.FnLimits': WHATEVER THE INPUT: true; the input reads as it did. -/
def fnLimitsSpec : ChangeSpec := { name := "fnLimits", fn := fun _ => fun
  | [d] => { results := [.lit (.bool true)], args := [d] }
  | _ => none }
def fnLimitsRow : OpenClaim := { program := "ytjebeebjmbfcmaa", sum := "9d20906abaf64dd97ad0f4de2d0e3487b82e628b7e28ad2e1896c9f76b1ec00e", func := "loop.example/g00970/laws.FnLimits", spec := "fnLimits", apart := false }
def FnLimitsSaid : Prop := fnLimitsRow.holds Try.pinned (OpenSpec.ofChange fnLimitsSpec)

/-- ITS FALSE NEIGHBOUR: 'it returns false'. Refute it at one input. -/
def fnLimitsWrong : ChangeSpec := { name := "fnLimits", fn := fun _ => fun
  | [d] => { results := [.lit (.bool false)], args := [d] }
  | _ => none }
def FnLimitsWrongFalsely : Prop := fnLimitsRow.holds Try.pinned (OpenSpec.ofChange fnLimitsWrong)

/- THE SECOND FORM. 'bulk': how many values and letters a reading holds, each counted each time it is reached (what is shared counts as often as it is met; a slice's spare places count too). A statement '..UptoSaid' is the law's where the arguments, and the package variables that the reading takes, are together of bulk at most 1048576: NARROWER than '..Said'. Prove '..Said' where nothing that the law and all that it calls make is longer than what came in: it says more and counts as full. Else prove '..UptoSaid'. A law counts once. -/
mutual
def uptoBulk {H : Type} : DataW H → Nat
  | .lit (.string bytes) => bytes.length + 1
  | .lit _ => 1
  | .nil => 1
  | .ptr d => uptoBulk d + 1
  | .slice elems spare => uptoBulkAll elems + uptoBulkAll spare + 1
  | .agg parts => uptoBulkAll parts + 1
  | .iface _ d => uptoBulk d + 1
  | .map entries => uptoBulkEntries entries + 1
  | .held _ => 1
def uptoBulkAll {H : Type} : List (DataW H) → Nat
  | [] => 0
  | d :: r => uptoBulk d + uptoBulkAll r
def uptoBulkEntries {H : Type} : List (Lit × DataW H) → Nat
  | [] => 0
  | x :: r => uptoBulkEntry x + uptoBulkEntries r
def uptoBulkEntry {H : Type} : Lit × DataW H → Nat
  | (.string bytes, d) => bytes.length + uptoBulk d + 1
  | (_, d) => uptoBulk d + 1
 end
def uptoSmall : (H : Type) → List (DataW H) → Bool := fun _ ds => decide (uptoBulkAll ds ≤ 1048576)
def OpenSpec.upto (s : _root_.Go.ChangeSpec) : _root_.Go.OpenSpec := { _root_.Go.OpenSpec.ofChange s with cond := some uptoSmall }

/-- 'laws.FnExactCodeWord', WHERE WHAT IT READS IS OF BULK AT MOST 1048576: true; the input reads as it did. -/
def fnExactCodeWordUptoRow : OpenClaim := { program := "ytjebeebjmbfcmaa", sum := "9d20906abaf64dd97ad0f4de2d0e3487b82e628b7e28ad2e1896c9f76b1ec00e", func := "loop.example/g00970/laws.FnExactCodeWord", spec := "fnExactCodeWord", apart := false, narrowed := true }
def FnExactCodeWordUptoSaid : Prop := fnExactCodeWordUptoRow.holds Try.pinned (OpenSpec.upto fnExactCodeWordSpec)

/-- 'laws.FnExactCountCode', WHERE WHAT IT READS IS OF BULK AT MOST 1048576: true; the input reads as it did. -/
def fnExactCountCodeUptoRow : OpenClaim := { program := "ytjebeebjmbfcmaa", sum := "9d20906abaf64dd97ad0f4de2d0e3487b82e628b7e28ad2e1896c9f76b1ec00e", func := "loop.example/g00970/laws.FnExactCountCode", spec := "fnExactCountCode", apart := false, narrowed := true }
def FnExactCountCodeUptoSaid : Prop := fnExactCountCodeUptoRow.holds Try.pinned (OpenSpec.upto fnExactCountCodeSpec)

/-- 'laws.FnExactUsualLimits', WHERE WHAT IT READS IS OF BULK AT MOST 1048576: true; the input reads as it did. -/
def fnExactUsualLimitsUptoRow : OpenClaim := { program := "ytjebeebjmbfcmaa", sum := "9d20906abaf64dd97ad0f4de2d0e3487b82e628b7e28ad2e1896c9f76b1ec00e", func := "loop.example/g00970/laws.FnExactUsualLimits", spec := "fnExactUsualLimits", apart := false, narrowed := true }
def FnExactUsualLimitsUptoSaid : Prop := fnExactUsualLimitsUptoRow.holds Try.pinned (OpenSpec.upto fnExactUsualLimitsSpec)

/-- 'laws.FnExactLimitsOk', WHERE WHAT IT READS IS OF BULK AT MOST 1048576: true; the input reads as it did. -/
def fnExactLimitsOkUptoRow : OpenClaim := { program := "ytjebeebjmbfcmaa", sum := "9d20906abaf64dd97ad0f4de2d0e3487b82e628b7e28ad2e1896c9f76b1ec00e", func := "loop.example/g00970/laws.FnExactLimitsOk", spec := "fnExactLimitsOk", apart := false, narrowed := true }
def FnExactLimitsOkUptoSaid : Prop := fnExactLimitsOkUptoRow.holds Try.pinned (OpenSpec.upto fnExactLimitsOkSpec)

/-- 'laws.FnExactLimitsIn', WHERE WHAT IT READS IS OF BULK AT MOST 1048576: true; the input reads as it did. -/
def fnExactLimitsInUptoRow : OpenClaim := { program := "ytjebeebjmbfcmaa", sum := "9d20906abaf64dd97ad0f4de2d0e3487b82e628b7e28ad2e1896c9f76b1ec00e", func := "loop.example/g00970/laws.FnExactLimitsIn", spec := "fnExactLimitsIn", apart := false, narrowed := true }
def FnExactLimitsInUptoSaid : Prop := fnExactLimitsInUptoRow.holds Try.pinned (OpenSpec.upto fnExactLimitsInSpec)

/-- 'laws.FnExactSamePairPoint', WHERE WHAT IT READS IS OF BULK AT MOST 1048576: true; the input reads as it did. -/
def fnExactSamePairPointUptoRow : OpenClaim := { program := "ytjebeebjmbfcmaa", sum := "9d20906abaf64dd97ad0f4de2d0e3487b82e628b7e28ad2e1896c9f76b1ec00e", func := "loop.example/g00970/laws.FnExactSamePairPoint", spec := "fnExactSamePairPoint", apart := false, narrowed := true }
def FnExactSamePairPointUptoSaid : Prop := fnExactSamePairPointUptoRow.holds Try.pinned (OpenSpec.upto fnExactSamePairPointSpec)

/-- 'laws.FnExactLesserLimits', WHERE WHAT IT READS IS OF BULK AT MOST 1048576: true; the input reads as it did. -/
def fnExactLesserLimitsUptoRow : OpenClaim := { program := "ytjebeebjmbfcmaa", sum := "9d20906abaf64dd97ad0f4de2d0e3487b82e628b7e28ad2e1896c9f76b1ec00e", func := "loop.example/g00970/laws.FnExactLesserLimits", spec := "fnExactLesserLimits", apart := false, narrowed := true }
def FnExactLesserLimitsUptoSaid : Prop := fnExactLesserLimitsUptoRow.holds Try.pinned (OpenSpec.upto fnExactLesserLimitsSpec)

/-- 'laws.FnExactSameCombo', WHERE WHAT IT READS IS OF BULK AT MOST 1048576: true; the input reads as it did. -/
def fnExactSameComboUptoRow : OpenClaim := { program := "ytjebeebjmbfcmaa", sum := "9d20906abaf64dd97ad0f4de2d0e3487b82e628b7e28ad2e1896c9f76b1ec00e", func := "loop.example/g00970/laws.FnExactSameCombo", spec := "fnExactSameCombo", apart := false, narrowed := true }
def FnExactSameComboUptoSaid : Prop := fnExactSameComboUptoRow.holds Try.pinned (OpenSpec.upto fnExactSameComboSpec)

/-- 'laws.FnExactToCome', WHERE WHAT IT READS IS OF BULK AT MOST 1048576: true; the input reads as it did. -/
def fnExactToComeUptoRow : OpenClaim := { program := "ytjebeebjmbfcmaa", sum := "9d20906abaf64dd97ad0f4de2d0e3487b82e628b7e28ad2e1896c9f76b1ec00e", func := "loop.example/g00970/laws.FnExactToCome", spec := "fnExactToCome", apart := false, narrowed := true }
def FnExactToComeUptoSaid : Prop := fnExactToComeUptoRow.holds Try.pinned (OpenSpec.upto fnExactToComeSpec)

/-- 'laws.FnExactPeek', WHERE WHAT IT READS IS OF BULK AT MOST 1048576: true; the input reads as it did. -/
def fnExactPeekUptoRow : OpenClaim := { program := "ytjebeebjmbfcmaa", sum := "9d20906abaf64dd97ad0f4de2d0e3487b82e628b7e28ad2e1896c9f76b1ec00e", func := "loop.example/g00970/laws.FnExactPeek", spec := "fnExactPeek", apart := false, narrowed := true }
def FnExactPeekUptoSaid : Prop := fnExactPeekUptoRow.holds Try.pinned (OpenSpec.upto fnExactPeekSpec)

/-- 'laws.FnExactSourceOk', WHERE WHAT IT READS IS OF BULK AT MOST 1048576: true; the input reads as it did. -/
def fnExactSourceOkUptoRow : OpenClaim := { program := "ytjebeebjmbfcmaa", sum := "9d20906abaf64dd97ad0f4de2d0e3487b82e628b7e28ad2e1896c9f76b1ec00e", func := "loop.example/g00970/laws.FnExactSourceOk", spec := "fnExactSourceOk", apart := false, narrowed := true }
def FnExactSourceOkUptoSaid : Prop := fnExactSourceOkUptoRow.holds Try.pinned (OpenSpec.upto fnExactSourceOkSpec)

/-- 'laws.FnLimits', WHERE WHAT IT READS IS OF BULK AT MOST 1048576: true; the input reads as it did. -/
def fnLimitsUptoRow : OpenClaim := { program := "ytjebeebjmbfcmaa", sum := "9d20906abaf64dd97ad0f4de2d0e3487b82e628b7e28ad2e1896c9f76b1ec00e", func := "loop.example/g00970/laws.FnLimits", spec := "fnLimits", apart := false, narrowed := true }
def FnLimitsUptoSaid : Prop := fnLimitsUptoRow.holds Try.pinned (OpenSpec.upto fnLimitsSpec)

end Rows
end Go.Proofs.Ytjebeebjmbfcmaa
