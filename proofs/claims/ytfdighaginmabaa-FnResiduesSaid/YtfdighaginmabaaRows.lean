/-
  No cell of these rows narrows 'for every input' (looked for: loops, veiled, ifaces, maps, wideKeys, modest, calm, conditions, laid).
  DERIVED. THE GIVEN ROWS OF THIS SEAT. 12 by the template 'for every input the law returns true; each argument reads behind the call as it read before'; 0 by the template 'total and deterministic' (their statements: YtfdighaginmabaaTotals.lean).
  GIVEN WITH THE SEED: the statements are not yours to turn. If you find one false, say at which input.
  Laid BY PROGRAM, IN A SANDBOX (cutbox-rows.mjs): the forced cells as the released guide's own fill.sh prints them over the translation 7036a5c99ee1b1a0… (all of the seat's roots in one cut). By AI agents, Wed Nov 11 2026. No macro, syntax, notation, axiom, sorry.
-/
import Derived.Test.YtfdighaginmabaaChecked
import GoSem.Claim
import GoSem.ClaimJoined
import GoSem.ClaimMapViews
import Derived.JoinedTies
import Derived.KernelRfl
namespace Go.Proofs.Ytfdighaginmabaa
/- THE CELL 'sum', in the pinned program and in every row, IS THE sha256 OF THE DUMP (.gsa) THAT YtfdighaginmabaaProg.lean LOADS. Nothing in Lean hashes anything: it is a label: what it is worth is what the hold of that sum in a sandbox is worth. -/
noncomputable def Try.pinned : Pinned := { name := "ytfdighaginmabaa", sum := "7036a5c99ee1b1a0dd1ca76949f7a541d21ac0daf8e35e0eba2cd8a9adc0e0ab", checked := Try.checked }
namespace Rows
def none {H : Type} : Left H := { results := [], args := [] }

/-- 'laws.FnExactGcd': WHATEVER THE INPUT: true; the input reads as it did. -/
def fnExactGcdSpec : ChangeSpec := { name := "fnExactGcd", fn := fun _ => fun
  | [d1, d2] => { results := [.lit (.bool true)], args := [d1, d2] }
  | _ => none }
def fnExactGcdRow : OpenClaim := { program := "ytfdighaginmabaa", sum := "7036a5c99ee1b1a0dd1ca76949f7a541d21ac0daf8e35e0eba2cd8a9adc0e0ab", func := "loop.example/g03203/laws.FnExactGcd", spec := "fnExactGcd", apart := false }
def FnExactGcdSaid : Prop := fnExactGcdRow.holds Try.pinned (OpenSpec.ofChange fnExactGcdSpec)

/-- ITS FALSE NEIGHBOUR: 'it returns false'. Refute it at one input. -/
def fnExactGcdWrong : ChangeSpec := { name := "fnExactGcd", fn := fun _ => fun
  | [d1, d2] => { results := [.lit (.bool false)], args := [d1, d2] }
  | _ => none }
def FnExactGcdWrongFalsely : Prop := fnExactGcdRow.holds Try.pinned (OpenSpec.ofChange fnExactGcdWrong)

/-- 'laws.FnExactInverseOf': WHATEVER THE INPUT: true; the input reads as it did. -/
def fnExactInverseOfSpec : ChangeSpec := { name := "fnExactInverseOf", fn := fun _ => fun
  | [d1, d2] => { results := [.lit (.bool true)], args := [d1, d2] }
  | _ => none }
def fnExactInverseOfRow : OpenClaim := { program := "ytfdighaginmabaa", sum := "7036a5c99ee1b1a0dd1ca76949f7a541d21ac0daf8e35e0eba2cd8a9adc0e0ab", func := "loop.example/g03203/laws.FnExactInverseOf", spec := "fnExactInverseOf", apart := false }
def FnExactInverseOfSaid : Prop := fnExactInverseOfRow.holds Try.pinned (OpenSpec.ofChange fnExactInverseOfSpec)

/-- ITS FALSE NEIGHBOUR: 'it returns false'. Refute it at one input. -/
def fnExactInverseOfWrong : ChangeSpec := { name := "fnExactInverseOf", fn := fun _ => fun
  | [d1, d2] => { results := [.lit (.bool false)], args := [d1, d2] }
  | _ => none }
def FnExactInverseOfWrongFalsely : Prop := fnExactInverseOfRow.holds Try.pinned (OpenSpec.ofChange fnExactInverseOfWrong)

/-- 'laws.FnExactModuliOk': WHATEVER THE INPUT: true; the input reads as it did. -/
def fnExactModuliOkSpec : ChangeSpec := { name := "fnExactModuliOk", fn := fun _ => fun
  | [d] => { results := [.lit (.bool true)], args := [d] }
  | _ => none }
def fnExactModuliOkRow : OpenClaim := { program := "ytfdighaginmabaa", sum := "7036a5c99ee1b1a0dd1ca76949f7a541d21ac0daf8e35e0eba2cd8a9adc0e0ab", func := "loop.example/g03203/laws.FnExactModuliOk", spec := "fnExactModuliOk", unfollowed := true, recurses := true, apart := false }
def FnExactModuliOkSaid : Prop := fnExactModuliOkRow.holds Try.pinned (OpenSpec.ofChange fnExactModuliOkSpec)

/-- ITS FALSE NEIGHBOUR: 'it returns false'. Refute it at one input. -/
def fnExactModuliOkWrong : ChangeSpec := { name := "fnExactModuliOk", fn := fun _ => fun
  | [d] => { results := [.lit (.bool false)], args := [d] }
  | _ => none }
def FnExactModuliOkWrongFalsely : Prop := fnExactModuliOkRow.holds Try.pinned (OpenSpec.ofChange fnExactModuliOkWrong)

/-- 'laws.FnExactResiduesOk': WHATEVER THE INPUT: true; the input reads as it did. -/
def fnExactResiduesOkSpec : ChangeSpec := { name := "fnExactResiduesOk", fn := fun _ => fun
  | [d1, d2] => { results := [.lit (.bool true)], args := [d1, d2] }
  | _ => none }
def fnExactResiduesOkRow : OpenClaim := { program := "ytfdighaginmabaa", sum := "7036a5c99ee1b1a0dd1ca76949f7a541d21ac0daf8e35e0eba2cd8a9adc0e0ab", func := "loop.example/g03203/laws.FnExactResiduesOk", spec := "fnExactResiduesOk", unfollowed := true, recurses := true, apart := false }
def FnExactResiduesOkSaid : Prop := fnExactResiduesOkRow.holds Try.pinned (OpenSpec.ofChange fnExactResiduesOkSpec)

/-- ITS FALSE NEIGHBOUR: 'it returns false'. Refute it at one input. -/
def fnExactResiduesOkWrong : ChangeSpec := { name := "fnExactResiduesOk", fn := fun _ => fun
  | [d1, d2] => { results := [.lit (.bool false)], args := [d1, d2] }
  | _ => none }
def FnExactResiduesOkWrongFalsely : Prop := fnExactResiduesOkRow.holds Try.pinned (OpenSpec.ofChange fnExactResiduesOkWrong)

/-- 'laws.FnExactResiduesOf': WHATEVER THE INPUT: true; the input reads as it did. -/
def fnExactResiduesOfSpec : ChangeSpec := { name := "fnExactResiduesOf", fn := fun _ => fun
  | [d1, d2] => { results := [.lit (.bool true)], args := [d1, d2] }
  | _ => none }
def fnExactResiduesOfRow : OpenClaim := { program := "ytfdighaginmabaa", sum := "7036a5c99ee1b1a0dd1ca76949f7a541d21ac0daf8e35e0eba2cd8a9adc0e0ab", func := "loop.example/g03203/laws.FnExactResiduesOf", spec := "fnExactResiduesOf", unfollowed := true, recurses := true, apart := false }
def FnExactResiduesOfSaid : Prop := fnExactResiduesOfRow.holds Try.pinned (OpenSpec.ofChange fnExactResiduesOfSpec)

/-- ITS FALSE NEIGHBOUR: 'it returns false'. Refute it at one input. -/
def fnExactResiduesOfWrong : ChangeSpec := { name := "fnExactResiduesOf", fn := fun _ => fun
  | [d1, d2] => { results := [.lit (.bool false)], args := [d1, d2] }
  | _ => none }
def FnExactResiduesOfWrongFalsely : Prop := fnExactResiduesOfRow.holds Try.pinned (OpenSpec.ofChange fnExactResiduesOfWrong)

/-- 'laws.FnExactResiduesAdd': WHATEVER THE INPUT: true; the input reads as it did. -/
def fnExactResiduesAddSpec : ChangeSpec := { name := "fnExactResiduesAdd", fn := fun _ => fun
  | [d1, d2, d3] => { results := [.lit (.bool true)], args := [d1, d2, d3] }
  | _ => none }
def fnExactResiduesAddRow : OpenClaim := { program := "ytfdighaginmabaa", sum := "7036a5c99ee1b1a0dd1ca76949f7a541d21ac0daf8e35e0eba2cd8a9adc0e0ab", func := "loop.example/g03203/laws.FnExactResiduesAdd", spec := "fnExactResiduesAdd", unfollowed := true, recurses := true, apart := false }
def FnExactResiduesAddSaid : Prop := fnExactResiduesAddRow.holds Try.pinned (OpenSpec.ofChange fnExactResiduesAddSpec)

/-- ITS FALSE NEIGHBOUR: 'it returns false'. Refute it at one input. -/
def fnExactResiduesAddWrong : ChangeSpec := { name := "fnExactResiduesAdd", fn := fun _ => fun
  | [d1, d2, d3] => { results := [.lit (.bool false)], args := [d1, d2, d3] }
  | _ => none }
def FnExactResiduesAddWrongFalsely : Prop := fnExactResiduesAddRow.holds Try.pinned (OpenSpec.ofChange fnExactResiduesAddWrong)

/-- 'laws.FnExactResiduesTimes': WHATEVER THE INPUT: true; the input reads as it did. -/
def fnExactResiduesTimesSpec : ChangeSpec := { name := "fnExactResiduesTimes", fn := fun _ => fun
  | [d1, d2, d3] => { results := [.lit (.bool true)], args := [d1, d2, d3] }
  | _ => none }
def fnExactResiduesTimesRow : OpenClaim := { program := "ytfdighaginmabaa", sum := "7036a5c99ee1b1a0dd1ca76949f7a541d21ac0daf8e35e0eba2cd8a9adc0e0ab", func := "loop.example/g03203/laws.FnExactResiduesTimes", spec := "fnExactResiduesTimes", unfollowed := true, recurses := true, apart := false }
def FnExactResiduesTimesSaid : Prop := fnExactResiduesTimesRow.holds Try.pinned (OpenSpec.ofChange fnExactResiduesTimesSpec)

/-- ITS FALSE NEIGHBOUR: 'it returns false'. Refute it at one input. -/
def fnExactResiduesTimesWrong : ChangeSpec := { name := "fnExactResiduesTimes", fn := fun _ => fun
  | [d1, d2, d3] => { results := [.lit (.bool false)], args := [d1, d2, d3] }
  | _ => none }
def FnExactResiduesTimesWrongFalsely : Prop := fnExactResiduesTimesRow.holds Try.pinned (OpenSpec.ofChange fnExactResiduesTimesWrong)

/-- 'laws.FnExactFromResidues': WHATEVER THE INPUT: true; the input reads as it did. -/
def fnExactFromResiduesSpec : ChangeSpec := { name := "fnExactFromResidues", fn := fun _ => fun
  | [d1, d2] => { results := [.lit (.bool true)], args := [d1, d2] }
  | _ => none }
def fnExactFromResiduesRow : OpenClaim := { program := "ytfdighaginmabaa", sum := "7036a5c99ee1b1a0dd1ca76949f7a541d21ac0daf8e35e0eba2cd8a9adc0e0ab", func := "loop.example/g03203/laws.FnExactFromResidues", spec := "fnExactFromResidues", unfollowed := true, recurses := true, apart := false }
def FnExactFromResiduesSaid : Prop := fnExactFromResiduesRow.holds Try.pinned (OpenSpec.ofChange fnExactFromResiduesSpec)

/-- ITS FALSE NEIGHBOUR: 'it returns false'. Refute it at one input. -/
def fnExactFromResiduesWrong : ChangeSpec := { name := "fnExactFromResidues", fn := fun _ => fun
  | [d1, d2] => { results := [.lit (.bool false)], args := [d1, d2] }
  | _ => none }
def FnExactFromResiduesWrongFalsely : Prop := fnExactFromResiduesRow.holds Try.pinned (OpenSpec.ofChange fnExactFromResiduesWrong)

/-- 'laws.FnExactGarnerDigits': WHATEVER THE INPUT: true; the input reads as it did. -/
def fnExactGarnerDigitsSpec : ChangeSpec := { name := "fnExactGarnerDigits", fn := fun _ => fun
  | [d1, d2] => { results := [.lit (.bool true)], args := [d1, d2] }
  | _ => none }
def fnExactGarnerDigitsRow : OpenClaim := { program := "ytfdighaginmabaa", sum := "7036a5c99ee1b1a0dd1ca76949f7a541d21ac0daf8e35e0eba2cd8a9adc0e0ab", func := "loop.example/g03203/laws.FnExactGarnerDigits", spec := "fnExactGarnerDigits", unfollowed := true, recurses := true, apart := false }
def FnExactGarnerDigitsSaid : Prop := fnExactGarnerDigitsRow.holds Try.pinned (OpenSpec.ofChange fnExactGarnerDigitsSpec)

/-- ITS FALSE NEIGHBOUR: 'it returns false'. Refute it at one input. -/
def fnExactGarnerDigitsWrong : ChangeSpec := { name := "fnExactGarnerDigits", fn := fun _ => fun
  | [d1, d2] => { results := [.lit (.bool false)], args := [d1, d2] }
  | _ => none }
def FnExactGarnerDigitsWrongFalsely : Prop := fnExactGarnerDigitsRow.holds Try.pinned (OpenSpec.ofChange fnExactGarnerDigitsWrong)

/-- 'laws.FnExactExtendResidues': WHATEVER THE INPUT: true; the input reads as it did. -/
def fnExactExtendResiduesSpec : ChangeSpec := { name := "fnExactExtendResidues", fn := fun _ => fun
  | [d1, d2, d3] => { results := [.lit (.bool true)], args := [d1, d2, d3] }
  | _ => none }
def fnExactExtendResiduesRow : OpenClaim := { program := "ytfdighaginmabaa", sum := "7036a5c99ee1b1a0dd1ca76949f7a541d21ac0daf8e35e0eba2cd8a9adc0e0ab", func := "loop.example/g03203/laws.FnExactExtendResidues", spec := "fnExactExtendResidues", unfollowed := true, recurses := true, apart := false }
def FnExactExtendResiduesSaid : Prop := fnExactExtendResiduesRow.holds Try.pinned (OpenSpec.ofChange fnExactExtendResiduesSpec)

/-- ITS FALSE NEIGHBOUR: 'it returns false'. Refute it at one input. -/
def fnExactExtendResiduesWrong : ChangeSpec := { name := "fnExactExtendResidues", fn := fun _ => fun
  | [d1, d2, d3] => { results := [.lit (.bool false)], args := [d1, d2, d3] }
  | _ => none }
def FnExactExtendResiduesWrongFalsely : Prop := fnExactExtendResiduesRow.holds Try.pinned (OpenSpec.ofChange fnExactExtendResiduesWrong)

/-- 'laws.FnExactResiduesCompare': WHATEVER THE INPUT: true; the input reads as it did. -/
def fnExactResiduesCompareSpec : ChangeSpec := { name := "fnExactResiduesCompare", fn := fun _ => fun
  | [d1, d2, d3] => { results := [.lit (.bool true)], args := [d1, d2, d3] }
  | _ => none }
def fnExactResiduesCompareRow : OpenClaim := { program := "ytfdighaginmabaa", sum := "7036a5c99ee1b1a0dd1ca76949f7a541d21ac0daf8e35e0eba2cd8a9adc0e0ab", func := "loop.example/g03203/laws.FnExactResiduesCompare", spec := "fnExactResiduesCompare", unfollowed := true, recurses := true, apart := false }
def FnExactResiduesCompareSaid : Prop := fnExactResiduesCompareRow.holds Try.pinned (OpenSpec.ofChange fnExactResiduesCompareSpec)

/-- ITS FALSE NEIGHBOUR: 'it returns false'. Refute it at one input. -/
def fnExactResiduesCompareWrong : ChangeSpec := { name := "fnExactResiduesCompare", fn := fun _ => fun
  | [d1, d2, d3] => { results := [.lit (.bool false)], args := [d1, d2, d3] }
  | _ => none }
def FnExactResiduesCompareWrongFalsely : Prop := fnExactResiduesCompareRow.holds Try.pinned (OpenSpec.ofChange fnExactResiduesCompareWrong)

/-- 'laws.FnResidues': WHATEVER THE INPUT: true; the input reads as it did. -/
def fnResiduesSpec : ChangeSpec := { name := "fnResidues", fn := fun _ => fun
  | [d] => { results := [.lit (.bool true)], args := [d] }
  | _ => none }
def fnResiduesRow : OpenClaim := { program := "ytfdighaginmabaa", sum := "7036a5c99ee1b1a0dd1ca76949f7a541d21ac0daf8e35e0eba2cd8a9adc0e0ab", func := "loop.example/g03203/laws.FnResidues", spec := "fnResidues", unfollowed := true, recurses := true, apart := false }
def FnResiduesSaid : Prop := fnResiduesRow.holds Try.pinned (OpenSpec.ofChange fnResiduesSpec)

/-- ITS FALSE NEIGHBOUR: 'it returns false'. Refute it at one input. -/
def fnResiduesWrong : ChangeSpec := { name := "fnResidues", fn := fun _ => fun
  | [d] => { results := [.lit (.bool false)], args := [d] }
  | _ => none }
def FnResiduesWrongFalsely : Prop := fnResiduesRow.holds Try.pinned (OpenSpec.ofChange fnResiduesWrong)

/- THE SECOND FORM. 'bulk': how many values and letters a reading holds, each counted each time it is reached (what is shared counts as often as it is met; a slice's spare places count too). A statement '..UptoSaid' is the law's where the arguments, and the package variables that the reading takes, are together of bulk at most 1048576: NARROWER than '..Said'. Prove '..Said' where nothing that the law and all that it calls make is longer than what came in: it says more and counts as full. Else prove '..UptoSaid'. A law counts once. -/
mutual
def uptoBulk {H : Type} : DataW H → Nat
  | .lit (.string bytes) => bytes.length + 1
  | .lit _ => 1
  | .nil => 1
  | .ptr d => uptoBulk d + 1
  | .slice elems spare => uptoBulkAll elems + uptoBulkAll spare + 1
  | .agg parts => uptoBulkAll parts + 1
  | .iface _ d => uptoBulk d + 1
  | .map entries => uptoBulkEntries entries + 1
  | .held _ => 1
def uptoBulkAll {H : Type} : List (DataW H) → Nat
  | [] => 0
  | d :: r => uptoBulk d + uptoBulkAll r
def uptoBulkEntries {H : Type} : List (Lit × DataW H) → Nat
  | [] => 0
  | x :: r => uptoBulkEntry x + uptoBulkEntries r
def uptoBulkEntry {H : Type} : Lit × DataW H → Nat
  | (.string bytes, d) => bytes.length + uptoBulk d + 1
  | (_, d) => uptoBulk d + 1
 end
def uptoSmall : (H : Type) → List (DataW H) → Bool := fun _ ds => decide (uptoBulkAll ds ≤ 1048576)
def OpenSpec.upto (s : _root_.Go.ChangeSpec) : _root_.Go.OpenSpec := { _root_.Go.OpenSpec.ofChange s with cond := some uptoSmall }

/-- 'laws.FnExactGcd', WHERE WHAT IT READS IS OF BULK AT MOST 1048576: true; the input reads as it did. -/
def fnExactGcdUptoRow : OpenClaim := { program := "ytfdighaginmabaa", sum := "7036a5c99ee1b1a0dd1ca76949f7a541d21ac0daf8e35e0eba2cd8a9adc0e0ab", func := "loop.example/g03203/laws.FnExactGcd", spec := "fnExactGcd", apart := false, narrowed := true }
def FnExactGcdUptoSaid : Prop := fnExactGcdUptoRow.holds Try.pinned (OpenSpec.upto fnExactGcdSpec)

/-- 'laws.FnExactInverseOf', WHERE WHAT IT READS IS OF BULK AT MOST 1048576: true; the input reads as it did. -/
def fnExactInverseOfUptoRow : OpenClaim := { program := "ytfdighaginmabaa", sum := "7036a5c99ee1b1a0dd1ca76949f7a541d21ac0daf8e35e0eba2cd8a9adc0e0ab", func := "loop.example/g03203/laws.FnExactInverseOf", spec := "fnExactInverseOf", apart := false, narrowed := true }
def FnExactInverseOfUptoSaid : Prop := fnExactInverseOfUptoRow.holds Try.pinned (OpenSpec.upto fnExactInverseOfSpec)

/-- 'laws.FnExactModuliOk', WHERE WHAT IT READS IS OF BULK AT MOST 1048576: true; the input reads as it did. -/
def fnExactModuliOkUptoRow : OpenClaim := { program := "ytfdighaginmabaa", sum := "7036a5c99ee1b1a0dd1ca76949f7a541d21ac0daf8e35e0eba2cd8a9adc0e0ab", func := "loop.example/g03203/laws.FnExactModuliOk", spec := "fnExactModuliOk", unfollowed := true, recurses := true, apart := false, narrowed := true }
def FnExactModuliOkUptoSaid : Prop := fnExactModuliOkUptoRow.holds Try.pinned (OpenSpec.upto fnExactModuliOkSpec)

/-- 'laws.FnExactResiduesOk', WHERE WHAT IT READS IS OF BULK AT MOST 1048576: true; the input reads as it did. -/
def fnExactResiduesOkUptoRow : OpenClaim := { program := "ytfdighaginmabaa", sum := "7036a5c99ee1b1a0dd1ca76949f7a541d21ac0daf8e35e0eba2cd8a9adc0e0ab", func := "loop.example/g03203/laws.FnExactResiduesOk", spec := "fnExactResiduesOk", unfollowed := true, recurses := true, apart := false, narrowed := true }
def FnExactResiduesOkUptoSaid : Prop := fnExactResiduesOkUptoRow.holds Try.pinned (OpenSpec.upto fnExactResiduesOkSpec)

/-- 'laws.FnExactResiduesOf', WHERE WHAT IT READS IS OF BULK AT MOST 1048576: true; the input reads as it did. -/
def fnExactResiduesOfUptoRow : OpenClaim := { program := "ytfdighaginmabaa", sum := "7036a5c99ee1b1a0dd1ca76949f7a541d21ac0daf8e35e0eba2cd8a9adc0e0ab", func := "loop.example/g03203/laws.FnExactResiduesOf", spec := "fnExactResiduesOf", unfollowed := true, recurses := true, apart := false, narrowed := true }
def FnExactResiduesOfUptoSaid : Prop := fnExactResiduesOfUptoRow.holds Try.pinned (OpenSpec.upto fnExactResiduesOfSpec)

/-- 'laws.FnExactResiduesAdd', WHERE WHAT IT READS IS OF BULK AT MOST 1048576: true; the input reads as it did. -/
def fnExactResiduesAddUptoRow : OpenClaim := { program := "ytfdighaginmabaa", sum := "7036a5c99ee1b1a0dd1ca76949f7a541d21ac0daf8e35e0eba2cd8a9adc0e0ab", func := "loop.example/g03203/laws.FnExactResiduesAdd", spec := "fnExactResiduesAdd", unfollowed := true, recurses := true, apart := false, narrowed := true }
def FnExactResiduesAddUptoSaid : Prop := fnExactResiduesAddUptoRow.holds Try.pinned (OpenSpec.upto fnExactResiduesAddSpec)

/-- 'laws.FnExactResiduesTimes', WHERE WHAT IT READS IS OF BULK AT MOST 1048576: true; the input reads as it did. -/
def fnExactResiduesTimesUptoRow : OpenClaim := { program := "ytfdighaginmabaa", sum := "7036a5c99ee1b1a0dd1ca76949f7a541d21ac0daf8e35e0eba2cd8a9adc0e0ab", func := "loop.example/g03203/laws.FnExactResiduesTimes", spec := "fnExactResiduesTimes", unfollowed := true, recurses := true, apart := false, narrowed := true }
def FnExactResiduesTimesUptoSaid : Prop := fnExactResiduesTimesUptoRow.holds Try.pinned (OpenSpec.upto fnExactResiduesTimesSpec)

/-- 'laws.FnExactFromResidues', WHERE WHAT IT READS IS OF BULK AT MOST 1048576: true; the input reads as it did. -/
def fnExactFromResiduesUptoRow : OpenClaim := { program := "ytfdighaginmabaa", sum := "7036a5c99ee1b1a0dd1ca76949f7a541d21ac0daf8e35e0eba2cd8a9adc0e0ab", func := "loop.example/g03203/laws.FnExactFromResidues", spec := "fnExactFromResidues", unfollowed := true, recurses := true, apart := false, narrowed := true }
def FnExactFromResiduesUptoSaid : Prop := fnExactFromResiduesUptoRow.holds Try.pinned (OpenSpec.upto fnExactFromResiduesSpec)

/-- 'laws.FnExactGarnerDigits', WHERE WHAT IT READS IS OF BULK AT MOST 1048576: true; the input reads as it did. -/
def fnExactGarnerDigitsUptoRow : OpenClaim := { program := "ytfdighaginmabaa", sum := "7036a5c99ee1b1a0dd1ca76949f7a541d21ac0daf8e35e0eba2cd8a9adc0e0ab", func := "loop.example/g03203/laws.FnExactGarnerDigits", spec := "fnExactGarnerDigits", unfollowed := true, recurses := true, apart := false, narrowed := true }
def FnExactGarnerDigitsUptoSaid : Prop := fnExactGarnerDigitsUptoRow.holds Try.pinned (OpenSpec.upto fnExactGarnerDigitsSpec)

/-- 'laws.FnExactExtendResidues', WHERE WHAT IT READS IS OF BULK AT MOST 1048576: true; the input reads as it did. -/
def fnExactExtendResiduesUptoRow : OpenClaim := { program := "ytfdighaginmabaa", sum := "7036a5c99ee1b1a0dd1ca76949f7a541d21ac0daf8e35e0eba2cd8a9adc0e0ab", func := "loop.example/g03203/laws.FnExactExtendResidues", spec := "fnExactExtendResidues", unfollowed := true, recurses := true, apart := false, narrowed := true }
def FnExactExtendResiduesUptoSaid : Prop := fnExactExtendResiduesUptoRow.holds Try.pinned (OpenSpec.upto fnExactExtendResiduesSpec)

/-- 'laws.FnExactResiduesCompare', WHERE WHAT IT READS IS OF BULK AT MOST 1048576: true; the input reads as it did. -/
def fnExactResiduesCompareUptoRow : OpenClaim := { program := "ytfdighaginmabaa", sum := "7036a5c99ee1b1a0dd1ca76949f7a541d21ac0daf8e35e0eba2cd8a9adc0e0ab", func := "loop.example/g03203/laws.FnExactResiduesCompare", spec := "fnExactResiduesCompare", unfollowed := true, recurses := true, apart := false, narrowed := true }
def FnExactResiduesCompareUptoSaid : Prop := fnExactResiduesCompareUptoRow.holds Try.pinned (OpenSpec.upto fnExactResiduesCompareSpec)

/-- 'laws.FnResidues', WHERE WHAT IT READS IS OF BULK AT MOST 1048576: true; the input reads as it did. -/
def fnResiduesUptoRow : OpenClaim := { program := "ytfdighaginmabaa", sum := "7036a5c99ee1b1a0dd1ca76949f7a541d21ac0daf8e35e0eba2cd8a9adc0e0ab", func := "loop.example/g03203/laws.FnResidues", spec := "fnResidues", unfollowed := true, recurses := true, apart := false, narrowed := true }
def FnResiduesUptoSaid : Prop := fnResiduesUptoRow.holds Try.pinned (OpenSpec.upto fnResiduesSpec)

end Rows
end Go.Proofs.Ytfdighaginmabaa
