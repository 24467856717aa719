/-
  No cell of these rows narrows 'for every input' (looked for: loops, veiled, ifaces, maps, wideKeys, modest, calm, conditions, laid).
  DERIVED. THE GIVEN ROWS OF THIS SEAT. 11 by the template 'for every input the law returns true; each argument reads behind the call as it read before'; 0 by the template 'total and deterministic' (their statements: YtggojahlhpijeaaTotals.lean).
  GIVEN WITH THE SEED: the statements are not yours to turn. If you find one false, say at which input.
  Laid BY PROGRAM, IN A SANDBOX (cutbox-rows.mjs): the forced cells as the released guide's own fill.sh prints them over the translation 040ff43af3df6104… (all of the seat's roots in one cut). By AI agents, Wed Nov 11 2026. No macro, syntax, notation, axiom, sorry.
-/
import Derived.Test.YtggojahlhpijeaaChecked
import GoSem.Claim
import GoSem.ClaimJoined
import GoSem.ClaimMapViews
import Derived.JoinedTies
import Derived.KernelRfl
namespace Go.Proofs.Ytggojahlhpijeaa
/- THE CELL 'sum', in the pinned program and in every row, IS THE sha256 OF THE DUMP (.gsa) THAT YtggojahlhpijeaaProg.lean LOADS. Nothing in Lean hashes anything: it is a label: what it is worth is what the hold of that sum in a sandbox is worth. -/
noncomputable def Try.pinned : Pinned := { name := "ytggojahlhpijeaa", sum := "040ff43af3df6104797daffc0abd7bdd311abee5ba6aea243ff781745549b847", checked := Try.checked }
namespace Rows
def none {H : Type} : Left H := { results := [], args := [] }

/-- 'laws.FnExactAddGreat': WHATEVER THE INPUT: true; the input reads as it did. -/
def fnExactAddGreatSpec : ChangeSpec := { name := "fnExactAddGreat", fn := fun _ => fun
  | [d1, d2] => { results := [.lit (.bool true)], args := [d1, d2] }
  | _ => none }
def fnExactAddGreatRow : OpenClaim := { program := "ytggojahlhpijeaa", sum := "040ff43af3df6104797daffc0abd7bdd311abee5ba6aea243ff781745549b847", func := "loop.example/g00970/laws.FnExactAddGreat", spec := "fnExactAddGreat", inPlace := ["math/bits.Add64"], recurses := true, apart := false }
def FnExactAddGreatSaid : Prop := fnExactAddGreatRow.holds Try.pinned (OpenSpec.ofChange fnExactAddGreatSpec)

/-- ITS FALSE NEIGHBOUR: 'it returns false'. Refute it at one input. -/
def fnExactAddGreatWrong : ChangeSpec := { name := "fnExactAddGreat", fn := fun _ => fun
  | [d1, d2] => { results := [.lit (.bool false)], args := [d1, d2] }
  | _ => none }
def FnExactAddGreatWrongFalsely : Prop := fnExactAddGreatRow.holds Try.pinned (OpenSpec.ofChange fnExactAddGreatWrong)

/-- 'laws.FnExactMulGreat': WHATEVER THE INPUT: true; the input reads as it did. -/
def fnExactMulGreatSpec : ChangeSpec := { name := "fnExactMulGreat", fn := fun _ => fun
  | [d1, d2] => { results := [.lit (.bool true)], args := [d1, d2] }
  | _ => none }
def fnExactMulGreatRow : OpenClaim := { program := "ytggojahlhpijeaa", sum := "040ff43af3df6104797daffc0abd7bdd311abee5ba6aea243ff781745549b847", func := "loop.example/g00970/laws.FnExactMulGreat", spec := "fnExactMulGreat", inPlace := ["math/bits.Add64"], apart := false }
def FnExactMulGreatSaid : Prop := fnExactMulGreatRow.holds Try.pinned (OpenSpec.ofChange fnExactMulGreatSpec)

/-- ITS FALSE NEIGHBOUR: 'it returns false'. Refute it at one input. -/
def fnExactMulGreatWrong : ChangeSpec := { name := "fnExactMulGreat", fn := fun _ => fun
  | [d1, d2] => { results := [.lit (.bool false)], args := [d1, d2] }
  | _ => none }
def FnExactMulGreatWrongFalsely : Prop := fnExactMulGreatRow.holds Try.pinned (OpenSpec.ofChange fnExactMulGreatWrong)

/-- 'laws.FnExactSubGreat': WHATEVER THE INPUT: true; the input reads as it did. -/
def fnExactSubGreatSpec : ChangeSpec := { name := "fnExactSubGreat", fn := fun _ => fun
  | [d1, d2] => { results := [.lit (.bool true)], args := [d1, d2] }
  | _ => none }
def fnExactSubGreatRow : OpenClaim := { program := "ytggojahlhpijeaa", sum := "040ff43af3df6104797daffc0abd7bdd311abee5ba6aea243ff781745549b847", func := "loop.example/g00970/laws.FnExactSubGreat", spec := "fnExactSubGreat", inPlace := ["math/bits.Sub64"], apart := false }
def FnExactSubGreatSaid : Prop := fnExactSubGreatRow.holds Try.pinned (OpenSpec.ofChange fnExactSubGreatSpec)

/-- ITS FALSE NEIGHBOUR: 'it returns false'. Refute it at one input. -/
def fnExactSubGreatWrong : ChangeSpec := { name := "fnExactSubGreat", fn := fun _ => fun
  | [d1, d2] => { results := [.lit (.bool false)], args := [d1, d2] }
  | _ => none }
def FnExactSubGreatWrongFalsely : Prop := fnExactSubGreatRow.holds Try.pinned (OpenSpec.ofChange fnExactSubGreatWrong)

/-- 'laws.FnExactFlagBits': WHATEVER THE INPUT: true; the input reads as it did. -/
def fnExactFlagBitsSpec : ChangeSpec := { name := "fnExactFlagBits", fn := fun _ => fun
  | [d] => { results := [.lit (.bool true)], args := [d] }
  | _ => none }
def fnExactFlagBitsRow : OpenClaim := { program := "ytggojahlhpijeaa", sum := "040ff43af3df6104797daffc0abd7bdd311abee5ba6aea243ff781745549b847", func := "loop.example/g00970/laws.FnExactFlagBits", spec := "fnExactFlagBits", inPlace := ["math/bits.Add64"], apart := false }
def FnExactFlagBitsSaid : Prop := fnExactFlagBitsRow.holds Try.pinned (OpenSpec.ofChange fnExactFlagBitsSpec)

/-- ITS FALSE NEIGHBOUR: 'it returns false'. Refute it at one input. -/
def fnExactFlagBitsWrong : ChangeSpec := { name := "fnExactFlagBits", fn := fun _ => fun
  | [d] => { results := [.lit (.bool false)], args := [d] }
  | _ => none }
def FnExactFlagBitsWrongFalsely : Prop := fnExactFlagBitsRow.holds Try.pinned (OpenSpec.ofChange fnExactFlagBitsWrong)

/-- 'laws.FnExactFlagsOf': WHATEVER THE INPUT: true; the input reads as it did. -/
def fnExactFlagsOfSpec : ChangeSpec := { name := "fnExactFlagsOf", fn := fun _ => fun
  | [d1, d2, d3, d4] => { results := [.lit (.bool true)], args := [d1, d2, d3, d4] }
  | _ => none }
def fnExactFlagsOfRow : OpenClaim := { program := "ytggojahlhpijeaa", sum := "040ff43af3df6104797daffc0abd7bdd311abee5ba6aea243ff781745549b847", func := "loop.example/g00970/laws.FnExactFlagsOf", spec := "fnExactFlagsOf", inPlace := ["math/bits.Add64"], apart := false }
def FnExactFlagsOfSaid : Prop := fnExactFlagsOfRow.holds Try.pinned (OpenSpec.ofChange fnExactFlagsOfSpec)

/-- ITS FALSE NEIGHBOUR: 'it returns false'. Refute it at one input. -/
def fnExactFlagsOfWrong : ChangeSpec := { name := "fnExactFlagsOf", fn := fun _ => fun
  | [d1, d2, d3, d4] => { results := [.lit (.bool false)], args := [d1, d2, d3, d4] }
  | _ => none }
def FnExactFlagsOfWrongFalsely : Prop := fnExactFlagsOfRow.holds Try.pinned (OpenSpec.ofChange fnExactFlagsOfWrong)

/-- 'laws.FnExactPointSize': WHATEVER THE INPUT: true; the input reads as it did. -/
def fnExactPointSizeSpec : ChangeSpec := { name := "fnExactPointSize", fn := fun _ => fun
  | [d1, d2] => { results := [.lit (.bool true)], args := [d1, d2] }
  | _ => none }
def fnExactPointSizeRow : OpenClaim := { program := "ytggojahlhpijeaa", sum := "040ff43af3df6104797daffc0abd7bdd311abee5ba6aea243ff781745549b847", func := "loop.example/g00970/laws.FnExactPointSize", spec := "fnExactPointSize", inPlace := ["math/bits.Add64"], apart := false }
def FnExactPointSizeSaid : Prop := fnExactPointSizeRow.holds Try.pinned (OpenSpec.ofChange fnExactPointSizeSpec)

/-- ITS FALSE NEIGHBOUR: 'it returns false'. Refute it at one input. -/
def fnExactPointSizeWrong : ChangeSpec := { name := "fnExactPointSize", fn := fun _ => fun
  | [d1, d2] => { results := [.lit (.bool false)], args := [d1, d2] }
  | _ => none }
def FnExactPointSizeWrongFalsely : Prop := fnExactPointSizeRow.holds Try.pinned (OpenSpec.ofChange fnExactPointSizeWrong)

/-- 'laws.FnExactPairPointSize': WHATEVER THE INPUT: true; the input reads as it did. -/
def fnExactPairPointSizeSpec : ChangeSpec := { name := "fnExactPairPointSize", fn := fun _ => fun
  | [d1, d2] => { results := [.lit (.bool true)], args := [d1, d2] }
  | _ => none }
def fnExactPairPointSizeRow : OpenClaim := { program := "ytggojahlhpijeaa", sum := "040ff43af3df6104797daffc0abd7bdd311abee5ba6aea243ff781745549b847", func := "loop.example/g00970/laws.FnExactPairPointSize", spec := "fnExactPairPointSize", inPlace := ["math/bits.Add64"], apart := false }
def FnExactPairPointSizeSaid : Prop := fnExactPairPointSizeRow.holds Try.pinned (OpenSpec.ofChange fnExactPairPointSizeSpec)

/-- ITS FALSE NEIGHBOUR: 'it returns false'. Refute it at one input. -/
def fnExactPairPointSizeWrong : ChangeSpec := { name := "fnExactPairPointSize", fn := fun _ => fun
  | [d1, d2] => { results := [.lit (.bool false)], args := [d1, d2] }
  | _ => none }
def FnExactPairPointSizeWrongFalsely : Prop := fnExactPairPointSizeRow.holds Try.pinned (OpenSpec.ofChange fnExactPairPointSizeWrong)

/-- 'laws.FnExactComboOk': WHATEVER THE INPUT: true; the input reads as it did. -/
def fnExactComboOkSpec : ChangeSpec := { name := "fnExactComboOk", fn := fun _ => fun
  | [d1, d2, d3] => { results := [.lit (.bool true)], args := [d1, d2, d3] }
  | _ => none }
def fnExactComboOkRow : OpenClaim := { program := "ytggojahlhpijeaa", sum := "040ff43af3df6104797daffc0abd7bdd311abee5ba6aea243ff781745549b847", func := "loop.example/g00970/laws.FnExactComboOk", spec := "fnExactComboOk", inPlace := ["math/bits.Add64"], apart := false }
def FnExactComboOkSaid : Prop := fnExactComboOkRow.holds Try.pinned (OpenSpec.ofChange fnExactComboOkSpec)

/-- ITS FALSE NEIGHBOUR: 'it returns false'. Refute it at one input. -/
def fnExactComboOkWrong : ChangeSpec := { name := "fnExactComboOk", fn := fun _ => fun
  | [d1, d2, d3] => { results := [.lit (.bool false)], args := [d1, d2, d3] }
  | _ => none }
def FnExactComboOkWrongFalsely : Prop := fnExactComboOkRow.holds Try.pinned (OpenSpec.ofChange fnExactComboOkWrong)

/-- 'laws.FnExactComboAt': WHATEVER THE INPUT: true; the input reads as it did. -/
def fnExactComboAtSpec : ChangeSpec := { name := "fnExactComboAt", fn := fun _ => fun
  | [d1, d2, d3] => { results := [.lit (.bool true)], args := [d1, d2, d3] }
  | _ => none }
def fnExactComboAtRow : OpenClaim := { program := "ytggojahlhpijeaa", sum := "040ff43af3df6104797daffc0abd7bdd311abee5ba6aea243ff781745549b847", func := "loop.example/g00970/laws.FnExactComboAt", spec := "fnExactComboAt", inPlace := ["math/bits.Add64", "math/bits.Sub64"], recurses := true, named := ["math/bits.divideError", "math/bits.overflowError"], apart := false }
def FnExactComboAtSaid : Prop := fnExactComboAtRow.holds Try.pinned (OpenSpec.ofChange fnExactComboAtSpec)

/-- ITS FALSE NEIGHBOUR: 'it returns false'. Refute it at one input. -/
def fnExactComboAtWrong : ChangeSpec := { name := "fnExactComboAt", fn := fun _ => fun
  | [d1, d2, d3] => { results := [.lit (.bool false)], args := [d1, d2, d3] }
  | _ => none }
def FnExactComboAtWrongFalsely : Prop := fnExactComboAtRow.holds Try.pinned (OpenSpec.ofChange fnExactComboAtWrong)

/-- 'laws.FnExactLimitsOk': WHATEVER THE INPUT: true; the input reads as it did. -/
def fnExactLimitsOkSpec : ChangeSpec := { name := "fnExactLimitsOk", fn := fun _ => fun
  | [d] => { results := [.lit (.bool true)], args := [d] }
  | _ => none }
def fnExactLimitsOkRow : OpenClaim := { program := "ytggojahlhpijeaa", sum := "040ff43af3df6104797daffc0abd7bdd311abee5ba6aea243ff781745549b847", func := "loop.example/g00970/laws.FnExactLimitsOk", spec := "fnExactLimitsOk", apart := false }
def FnExactLimitsOkSaid : Prop := fnExactLimitsOkRow.holds Try.pinned (OpenSpec.ofChange fnExactLimitsOkSpec)

/-- ITS FALSE NEIGHBOUR: 'it returns false'. Refute it at one input. -/
def fnExactLimitsOkWrong : ChangeSpec := { name := "fnExactLimitsOk", fn := fun _ => fun
  | [d] => { results := [.lit (.bool false)], args := [d] }
  | _ => none }
def FnExactLimitsOkWrongFalsely : Prop := fnExactLimitsOkRow.holds Try.pinned (OpenSpec.ofChange fnExactLimitsOkWrong)

/-- 'laws.FnExactLimitsIn': WHATEVER THE INPUT: true; the input reads as it did. -/
def fnExactLimitsInSpec : ChangeSpec := { name := "fnExactLimitsIn", fn := fun _ => fun
  | [d1, d2] => { results := [.lit (.bool true)], args := [d1, d2] }
  | _ => none }
def fnExactLimitsInRow : OpenClaim := { program := "ytggojahlhpijeaa", sum := "040ff43af3df6104797daffc0abd7bdd311abee5ba6aea243ff781745549b847", func := "loop.example/g00970/laws.FnExactLimitsIn", spec := "fnExactLimitsIn", apart := false }
def FnExactLimitsInSaid : Prop := fnExactLimitsInRow.holds Try.pinned (OpenSpec.ofChange fnExactLimitsInSpec)

/-- ITS FALSE NEIGHBOUR: 'it returns false'. Refute it at one input. -/
def fnExactLimitsInWrong : ChangeSpec := { name := "fnExactLimitsIn", fn := fun _ => fun
  | [d1, d2] => { results := [.lit (.bool false)], args := [d1, d2] }
  | _ => none }
def FnExactLimitsInWrongFalsely : Prop := fnExactLimitsInRow.holds Try.pinned (OpenSpec.ofChange fnExactLimitsInWrong)

/- THE SECOND FORM. 'bulk': how many values and letters a reading holds, each counted each time it is reached (what is shared counts as often as it is met; a slice's spare places count too). A statement '..UptoSaid' is the law's where the arguments, and the package variables that the reading takes, are together of bulk at most 1048576: NARROWER than '..Said'. Prove '..Said' where nothing that the law and all that it calls make is longer than what came in: it says more and counts as full. Else prove '..UptoSaid'. A law counts once. -/
mutual
def uptoBulk {H : Type} : DataW H → Nat
  | .lit (.string bytes) => bytes.length + 1
  | .lit _ => 1
  | .nil => 1
  | .ptr d => uptoBulk d + 1
  | .slice elems spare => uptoBulkAll elems + uptoBulkAll spare + 1
  | .agg parts => uptoBulkAll parts + 1
  | .iface _ d => uptoBulk d + 1
  | .map entries => uptoBulkEntries entries + 1
  | .held _ => 1
def uptoBulkAll {H : Type} : List (DataW H) → Nat
  | [] => 0
  | d :: r => uptoBulk d + uptoBulkAll r
def uptoBulkEntries {H : Type} : List (Lit × DataW H) → Nat
  | [] => 0
  | x :: r => uptoBulkEntry x + uptoBulkEntries r
def uptoBulkEntry {H : Type} : Lit × DataW H → Nat
  | (.string bytes, d) => bytes.length + uptoBulk d + 1
  | (_, d) => uptoBulk d + 1
 end
def uptoSmall : (H : Type) → List (DataW H) → Bool := fun _ ds => decide (uptoBulkAll ds ≤ 1048576)
def OpenSpec.upto (s : _root_.Go.ChangeSpec) : _root_.Go.OpenSpec := { _root_.Go.OpenSpec.ofChange s with cond := some uptoSmall }

/-- 'laws.FnExactAddGreat', WHERE WHAT IT READS IS OF BULK AT MOST 1048576: true; the input reads as it did. -/
def fnExactAddGreatUptoRow : OpenClaim := { program := "ytggojahlhpijeaa", sum := "040ff43af3df6104797daffc0abd7bdd311abee5ba6aea243ff781745549b847", func := "loop.example/g00970/laws.FnExactAddGreat", spec := "fnExactAddGreat", inPlace := ["math/bits.Add64"], recurses := true, apart := false, narrowed := true }
def FnExactAddGreatUptoSaid : Prop := fnExactAddGreatUptoRow.holds Try.pinned (OpenSpec.upto fnExactAddGreatSpec)

/-- 'laws.FnExactMulGreat', WHERE WHAT IT READS IS OF BULK AT MOST 1048576: true; the input reads as it did. -/
def fnExactMulGreatUptoRow : OpenClaim := { program := "ytggojahlhpijeaa", sum := "040ff43af3df6104797daffc0abd7bdd311abee5ba6aea243ff781745549b847", func := "loop.example/g00970/laws.FnExactMulGreat", spec := "fnExactMulGreat", inPlace := ["math/bits.Add64"], apart := false, narrowed := true }
def FnExactMulGreatUptoSaid : Prop := fnExactMulGreatUptoRow.holds Try.pinned (OpenSpec.upto fnExactMulGreatSpec)

/-- 'laws.FnExactSubGreat', WHERE WHAT IT READS IS OF BULK AT MOST 1048576: true; the input reads as it did. -/
def fnExactSubGreatUptoRow : OpenClaim := { program := "ytggojahlhpijeaa", sum := "040ff43af3df6104797daffc0abd7bdd311abee5ba6aea243ff781745549b847", func := "loop.example/g00970/laws.FnExactSubGreat", spec := "fnExactSubGreat", inPlace := ["math/bits.Sub64"], apart := false, narrowed := true }
def FnExactSubGreatUptoSaid : Prop := fnExactSubGreatUptoRow.holds Try.pinned (OpenSpec.upto fnExactSubGreatSpec)

/-- 'laws.FnExactFlagBits', WHERE WHAT IT READS IS OF BULK AT MOST 1048576: true; the input reads as it did. -/
def fnExactFlagBitsUptoRow : OpenClaim := { program := "ytggojahlhpijeaa", sum := "040ff43af3df6104797daffc0abd7bdd311abee5ba6aea243ff781745549b847", func := "loop.example/g00970/laws.FnExactFlagBits", spec := "fnExactFlagBits", inPlace := ["math/bits.Add64"], apart := false, narrowed := true }
def FnExactFlagBitsUptoSaid : Prop := fnExactFlagBitsUptoRow.holds Try.pinned (OpenSpec.upto fnExactFlagBitsSpec)

/-- 'laws.FnExactFlagsOf', WHERE WHAT IT READS IS OF BULK AT MOST 1048576: true; the input reads as it did. -/
def fnExactFlagsOfUptoRow : OpenClaim := { program := "ytggojahlhpijeaa", sum := "040ff43af3df6104797daffc0abd7bdd311abee5ba6aea243ff781745549b847", func := "loop.example/g00970/laws.FnExactFlagsOf", spec := "fnExactFlagsOf", inPlace := ["math/bits.Add64"], apart := false, narrowed := true }
def FnExactFlagsOfUptoSaid : Prop := fnExactFlagsOfUptoRow.holds Try.pinned (OpenSpec.upto fnExactFlagsOfSpec)

/-- 'laws.FnExactPointSize', WHERE WHAT IT READS IS OF BULK AT MOST 1048576: true; the input reads as it did. -/
def fnExactPointSizeUptoRow : OpenClaim := { program := "ytggojahlhpijeaa", sum := "040ff43af3df6104797daffc0abd7bdd311abee5ba6aea243ff781745549b847", func := "loop.example/g00970/laws.FnExactPointSize", spec := "fnExactPointSize", inPlace := ["math/bits.Add64"], apart := false, narrowed := true }
def FnExactPointSizeUptoSaid : Prop := fnExactPointSizeUptoRow.holds Try.pinned (OpenSpec.upto fnExactPointSizeSpec)

/-- 'laws.FnExactPairPointSize', WHERE WHAT IT READS IS OF BULK AT MOST 1048576: true; the input reads as it did. -/
def fnExactPairPointSizeUptoRow : OpenClaim := { program := "ytggojahlhpijeaa", sum := "040ff43af3df6104797daffc0abd7bdd311abee5ba6aea243ff781745549b847", func := "loop.example/g00970/laws.FnExactPairPointSize", spec := "fnExactPairPointSize", inPlace := ["math/bits.Add64"], apart := false, narrowed := true }
def FnExactPairPointSizeUptoSaid : Prop := fnExactPairPointSizeUptoRow.holds Try.pinned (OpenSpec.upto fnExactPairPointSizeSpec)

/-- 'laws.FnExactComboOk', WHERE WHAT IT READS IS OF BULK AT MOST 1048576: true; the input reads as it did. -/
def fnExactComboOkUptoRow : OpenClaim := { program := "ytggojahlhpijeaa", sum := "040ff43af3df6104797daffc0abd7bdd311abee5ba6aea243ff781745549b847", func := "loop.example/g00970/laws.FnExactComboOk", spec := "fnExactComboOk", inPlace := ["math/bits.Add64"], apart := false, narrowed := true }
def FnExactComboOkUptoSaid : Prop := fnExactComboOkUptoRow.holds Try.pinned (OpenSpec.upto fnExactComboOkSpec)

/-- 'laws.FnExactComboAt', WHERE WHAT IT READS IS OF BULK AT MOST 1048576: true; the input reads as it did. -/
def fnExactComboAtUptoRow : OpenClaim := { program := "ytggojahlhpijeaa", sum := "040ff43af3df6104797daffc0abd7bdd311abee5ba6aea243ff781745549b847", func := "loop.example/g00970/laws.FnExactComboAt", spec := "fnExactComboAt", inPlace := ["math/bits.Add64", "math/bits.Sub64"], recurses := true, named := ["math/bits.divideError", "math/bits.overflowError"], apart := false, narrowed := true }
def FnExactComboAtUptoSaid : Prop := fnExactComboAtUptoRow.holds Try.pinned (OpenSpec.upto fnExactComboAtSpec)

/-- 'laws.FnExactLimitsOk', WHERE WHAT IT READS IS OF BULK AT MOST 1048576: true; the input reads as it did. -/
def fnExactLimitsOkUptoRow : OpenClaim := { program := "ytggojahlhpijeaa", sum := "040ff43af3df6104797daffc0abd7bdd311abee5ba6aea243ff781745549b847", func := "loop.example/g00970/laws.FnExactLimitsOk", spec := "fnExactLimitsOk", apart := false, narrowed := true }
def FnExactLimitsOkUptoSaid : Prop := fnExactLimitsOkUptoRow.holds Try.pinned (OpenSpec.upto fnExactLimitsOkSpec)

/-- 'laws.FnExactLimitsIn', WHERE WHAT IT READS IS OF BULK AT MOST 1048576: true; the input reads as it did. -/
def fnExactLimitsInUptoRow : OpenClaim := { program := "ytggojahlhpijeaa", sum := "040ff43af3df6104797daffc0abd7bdd311abee5ba6aea243ff781745549b847", func := "loop.example/g00970/laws.FnExactLimitsIn", spec := "fnExactLimitsIn", apart := false, narrowed := true }
def FnExactLimitsInUptoSaid : Prop := fnExactLimitsInUptoRow.holds Try.pinned (OpenSpec.upto fnExactLimitsInSpec)

end Rows
end Go.Proofs.Ytggojahlhpijeaa
