/-
  No cell of these rows narrows 'for every input' (looked for: loops, veiled, ifaces, maps, wideKeys, modest, calm, conditions, laid).
  DERIVED. THE GIVEN ROWS OF THIS SEAT. 8 by the template 'for every input the law returns true; each argument reads behind the call as it read before'; 0 by the template 'total and deterministic' (their statements: YthnpobbpmgjhjaaTotals.lean).
  GIVEN WITH THE SEED: the statements are not yours to turn. If you find one false, say at which input.
  Laid BY PROGRAM, IN A SANDBOX (cutbox-rows.mjs): the forced cells as the released guide's own fill.sh prints them over the translation 1626d12519f9a313… (all of the seat's roots in one cut). By AI agents, Wed Nov 11 2026. No macro, syntax, notation, axiom, sorry.
-/
import Derived.Test.YthnpobbpmgjhjaaChecked
import GoSem.Claim
import GoSem.ClaimJoined
import GoSem.ClaimMapViews
import Derived.JoinedTies
import Derived.KernelRfl
namespace Go.Proofs.Ythnpobbpmgjhjaa
/- THE CELL 'sum', in the pinned program and in every row, IS THE sha256 OF THE DUMP (.gsa) THAT YthnpobbpmgjhjaaProg.lean LOADS. Nothing in Lean hashes anything: it is a label: what it is worth is what the hold of that sum in a sandbox is worth. -/
noncomputable def Try.pinned : Pinned := { name := "ythnpobbpmgjhjaa", sum := "1626d12519f9a3134572be74b988d93b29a2c4d8327320b036f2ec80ed07378e", checked := Try.checked }
namespace Rows
def none {H : Type} : Left H := { results := [], args := [] }

/-- 'laws.FnExactGrayOf': WHATEVER THE INPUT: true; the input reads as it did. -/
def fnExactGrayOfSpec : ChangeSpec := { name := "fnExactGrayOf", fn := fun _ => fun
  | [d] => { results := [.lit (.bool true)], args := [d] }
  | _ => none }
def fnExactGrayOfRow : OpenClaim := { program := "ythnpobbpmgjhjaa", sum := "1626d12519f9a3134572be74b988d93b29a2c4d8327320b036f2ec80ed07378e", func := "loop.example/g03203/laws.FnExactGrayOf", spec := "fnExactGrayOf", apart := false }
def FnExactGrayOfSaid : Prop := fnExactGrayOfRow.holds Try.pinned (OpenSpec.ofChange fnExactGrayOfSpec)

/-- ITS FALSE NEIGHBOUR: 'it returns false'. Refute it at one input. -/
def fnExactGrayOfWrong : ChangeSpec := { name := "fnExactGrayOf", fn := fun _ => fun
  | [d] => { results := [.lit (.bool false)], args := [d] }
  | _ => none }
def FnExactGrayOfWrongFalsely : Prop := fnExactGrayOfRow.holds Try.pinned (OpenSpec.ofChange fnExactGrayOfWrong)

/-- 'laws.FnExactFromGray': WHATEVER THE INPUT: true; the input reads as it did. -/
def fnExactFromGraySpec : ChangeSpec := { name := "fnExactFromGray", fn := fun _ => fun
  | [d] => { results := [.lit (.bool true)], args := [d] }
  | _ => none }
def fnExactFromGrayRow : OpenClaim := { program := "ythnpobbpmgjhjaa", sum := "1626d12519f9a3134572be74b988d93b29a2c4d8327320b036f2ec80ed07378e", func := "loop.example/g03203/laws.FnExactFromGray", spec := "fnExactFromGray", apart := false }
def FnExactFromGraySaid : Prop := fnExactFromGrayRow.holds Try.pinned (OpenSpec.ofChange fnExactFromGraySpec)

/-- ITS FALSE NEIGHBOUR: 'it returns false'. Refute it at one input. -/
def fnExactFromGrayWrong : ChangeSpec := { name := "fnExactFromGray", fn := fun _ => fun
  | [d] => { results := [.lit (.bool false)], args := [d] }
  | _ => none }
def FnExactFromGrayWrongFalsely : Prop := fnExactFromGrayRow.holds Try.pinned (OpenSpec.ofChange fnExactFromGrayWrong)

/-- 'laws.FnExactRingSteps': WHATEVER THE INPUT: true; the input reads as it did. -/
def fnExactRingStepsSpec : ChangeSpec := { name := "fnExactRingSteps", fn := fun _ => fun
  | [d1, d2] => { results := [.lit (.bool true)], args := [d1, d2] }
  | _ => none }
def fnExactRingStepsRow : OpenClaim := { program := "ythnpobbpmgjhjaa", sum := "1626d12519f9a3134572be74b988d93b29a2c4d8327320b036f2ec80ed07378e", func := "loop.example/g03203/laws.FnExactRingSteps", spec := "fnExactRingSteps", apart := false }
def FnExactRingStepsSaid : Prop := fnExactRingStepsRow.holds Try.pinned (OpenSpec.ofChange fnExactRingStepsSpec)

/-- ITS FALSE NEIGHBOUR: 'it returns false'. Refute it at one input. -/
def fnExactRingStepsWrong : ChangeSpec := { name := "fnExactRingSteps", fn := fun _ => fun
  | [d1, d2] => { results := [.lit (.bool false)], args := [d1, d2] }
  | _ => none }
def FnExactRingStepsWrongFalsely : Prop := fnExactRingStepsRow.holds Try.pinned (OpenSpec.ofChange fnExactRingStepsWrong)

/-- 'laws.FnExactCountDifferent': WHATEVER THE INPUT: true; the input reads as it did. -/
def fnExactCountDifferentSpec : ChangeSpec := { name := "fnExactCountDifferent", fn := fun _ => fun
  | [d1, d2] => { results := [.lit (.bool true)], args := [d1, d2] }
  | _ => none }
def fnExactCountDifferentRow : OpenClaim := { program := "ythnpobbpmgjhjaa", sum := "1626d12519f9a3134572be74b988d93b29a2c4d8327320b036f2ec80ed07378e", func := "loop.example/g03203/laws.FnExactCountDifferent", spec := "fnExactCountDifferent", apart := false }
def FnExactCountDifferentSaid : Prop := fnExactCountDifferentRow.holds Try.pinned (OpenSpec.ofChange fnExactCountDifferentSpec)

/-- ITS FALSE NEIGHBOUR: 'it returns false'. Refute it at one input. -/
def fnExactCountDifferentWrong : ChangeSpec := { name := "fnExactCountDifferent", fn := fun _ => fun
  | [d1, d2] => { results := [.lit (.bool false)], args := [d1, d2] }
  | _ => none }
def FnExactCountDifferentWrongFalsely : Prop := fnExactCountDifferentRow.holds Try.pinned (OpenSpec.ofChange fnExactCountDifferentWrong)

/-- 'laws.FnExactGrayCycle': WHATEVER THE INPUT: true; the input reads as it did. -/
def fnExactGrayCycleSpec : ChangeSpec := { name := "fnExactGrayCycle", fn := fun _ => fun
  | [d] => { results := [.lit (.bool true)], args := [d] }
  | _ => none }
def fnExactGrayCycleRow : OpenClaim := { program := "ythnpobbpmgjhjaa", sum := "1626d12519f9a3134572be74b988d93b29a2c4d8327320b036f2ec80ed07378e", func := "loop.example/g03203/laws.FnExactGrayCycle", spec := "fnExactGrayCycle", apart := false }
def FnExactGrayCycleSaid : Prop := fnExactGrayCycleRow.holds Try.pinned (OpenSpec.ofChange fnExactGrayCycleSpec)

/-- ITS FALSE NEIGHBOUR: 'it returns false'. Refute it at one input. -/
def fnExactGrayCycleWrong : ChangeSpec := { name := "fnExactGrayCycle", fn := fun _ => fun
  | [d] => { results := [.lit (.bool false)], args := [d] }
  | _ => none }
def FnExactGrayCycleWrongFalsely : Prop := fnExactGrayCycleRow.holds Try.pinned (OpenSpec.ofChange fnExactGrayCycleWrong)

/-- 'laws.FnExactIsGrayCycle': WHATEVER THE INPUT: true; the input reads as it did. -/
def fnExactIsGrayCycleSpec : ChangeSpec := { name := "fnExactIsGrayCycle", fn := fun _ => fun
  | [d1, d2] => { results := [.lit (.bool true)], args := [d1, d2] }
  | _ => none }
def fnExactIsGrayCycleRow : OpenClaim := { program := "ythnpobbpmgjhjaa", sum := "1626d12519f9a3134572be74b988d93b29a2c4d8327320b036f2ec80ed07378e", func := "loop.example/g03203/laws.FnExactIsGrayCycle", spec := "fnExactIsGrayCycle", apart := false }
def FnExactIsGrayCycleSaid : Prop := fnExactIsGrayCycleRow.holds Try.pinned (OpenSpec.ofChange fnExactIsGrayCycleSpec)

/-- ITS FALSE NEIGHBOUR: 'it returns false'. Refute it at one input. -/
def fnExactIsGrayCycleWrong : ChangeSpec := { name := "fnExactIsGrayCycle", fn := fun _ => fun
  | [d1, d2] => { results := [.lit (.bool false)], args := [d1, d2] }
  | _ => none }
def FnExactIsGrayCycleWrongFalsely : Prop := fnExactIsGrayCycleRow.holds Try.pinned (OpenSpec.ofChange fnExactIsGrayCycleWrong)

/-- 'laws.FnExactGrayDigits': WHATEVER THE INPUT: true; the input reads as it did. -/
def fnExactGrayDigitsSpec : ChangeSpec := { name := "fnExactGrayDigits", fn := fun _ => fun
  | [d1, d2] => { results := [.lit (.bool true)], args := [d1, d2] }
  | _ => none }
def fnExactGrayDigitsRow : OpenClaim := { program := "ythnpobbpmgjhjaa", sum := "1626d12519f9a3134572be74b988d93b29a2c4d8327320b036f2ec80ed07378e", func := "loop.example/g03203/laws.FnExactGrayDigits", spec := "fnExactGrayDigits", unfollowed := true, recurses := true, apart := false }
def FnExactGrayDigitsSaid : Prop := fnExactGrayDigitsRow.holds Try.pinned (OpenSpec.ofChange fnExactGrayDigitsSpec)

/-- ITS FALSE NEIGHBOUR: 'it returns false'. Refute it at one input. -/
def fnExactGrayDigitsWrong : ChangeSpec := { name := "fnExactGrayDigits", fn := fun _ => fun
  | [d1, d2] => { results := [.lit (.bool false)], args := [d1, d2] }
  | _ => none }
def FnExactGrayDigitsWrongFalsely : Prop := fnExactGrayDigitsRow.holds Try.pinned (OpenSpec.ofChange fnExactGrayDigitsWrong)

/-- 'laws.FnExactFromGrayDigits': WHATEVER THE INPUT: true; the input reads as it did. -/
def fnExactFromGrayDigitsSpec : ChangeSpec := { name := "fnExactFromGrayDigits", fn := fun _ => fun
  | [d1, d2] => { results := [.lit (.bool true)], args := [d1, d2] }
  | _ => none }
def fnExactFromGrayDigitsRow : OpenClaim := { program := "ythnpobbpmgjhjaa", sum := "1626d12519f9a3134572be74b988d93b29a2c4d8327320b036f2ec80ed07378e", func := "loop.example/g03203/laws.FnExactFromGrayDigits", spec := "fnExactFromGrayDigits", unfollowed := true, recurses := true, apart := false }
def FnExactFromGrayDigitsSaid : Prop := fnExactFromGrayDigitsRow.holds Try.pinned (OpenSpec.ofChange fnExactFromGrayDigitsSpec)

/-- ITS FALSE NEIGHBOUR: 'it returns false'. Refute it at one input. -/
def fnExactFromGrayDigitsWrong : ChangeSpec := { name := "fnExactFromGrayDigits", fn := fun _ => fun
  | [d1, d2] => { results := [.lit (.bool false)], args := [d1, d2] }
  | _ => none }
def FnExactFromGrayDigitsWrongFalsely : Prop := fnExactFromGrayDigitsRow.holds Try.pinned (OpenSpec.ofChange fnExactFromGrayDigitsWrong)

/- THE SECOND FORM. 'bulk': how many values and letters a reading holds, each counted each time it is reached (what is shared counts as often as it is met; a slice's spare places count too). A statement '..UptoSaid' is the law's where the arguments, and the package variables that the reading takes, are together of bulk at most 1048576: NARROWER than '..Said'. Prove '..Said' where nothing that the law and all that it calls make is longer than what came in: it says more and counts as full. Else prove '..UptoSaid'. A law counts once. -/
mutual
def uptoBulk {H : Type} : DataW H → Nat
  | .lit (.string bytes) => bytes.length + 1
  | .lit _ => 1
  | .nil => 1
  | .ptr d => uptoBulk d + 1
  | .slice elems spare => uptoBulkAll elems + uptoBulkAll spare + 1
  | .agg parts => uptoBulkAll parts + 1
  | .iface _ d => uptoBulk d + 1
  | .map entries => uptoBulkEntries entries + 1
  | .held _ => 1
def uptoBulkAll {H : Type} : List (DataW H) → Nat
  | [] => 0
  | d :: r => uptoBulk d + uptoBulkAll r
def uptoBulkEntries {H : Type} : List (Lit × DataW H) → Nat
  | [] => 0
  | x :: r => uptoBulkEntry x + uptoBulkEntries r
def uptoBulkEntry {H : Type} : Lit × DataW H → Nat
  | (.string bytes, d) => bytes.length + uptoBulk d + 1
  | (_, d) => uptoBulk d + 1
 end
def uptoSmall : (H : Type) → List (DataW H) → Bool := fun _ ds => decide (uptoBulkAll ds ≤ 1048576)
def OpenSpec.upto (s : _root_.Go.ChangeSpec) : _root_.Go.OpenSpec := { _root_.Go.OpenSpec.ofChange s with cond := some uptoSmall }

/-- 'laws.FnExactGrayOf', WHERE WHAT IT READS IS OF BULK AT MOST 1048576: true; the input reads as it did. -/
def fnExactGrayOfUptoRow : OpenClaim := { program := "ythnpobbpmgjhjaa", sum := "1626d12519f9a3134572be74b988d93b29a2c4d8327320b036f2ec80ed07378e", func := "loop.example/g03203/laws.FnExactGrayOf", spec := "fnExactGrayOf", apart := false, narrowed := true }
def FnExactGrayOfUptoSaid : Prop := fnExactGrayOfUptoRow.holds Try.pinned (OpenSpec.upto fnExactGrayOfSpec)

/-- 'laws.FnExactFromGray', WHERE WHAT IT READS IS OF BULK AT MOST 1048576: true; the input reads as it did. -/
def fnExactFromGrayUptoRow : OpenClaim := { program := "ythnpobbpmgjhjaa", sum := "1626d12519f9a3134572be74b988d93b29a2c4d8327320b036f2ec80ed07378e", func := "loop.example/g03203/laws.FnExactFromGray", spec := "fnExactFromGray", apart := false, narrowed := true }
def FnExactFromGrayUptoSaid : Prop := fnExactFromGrayUptoRow.holds Try.pinned (OpenSpec.upto fnExactFromGraySpec)

/-- 'laws.FnExactRingSteps', WHERE WHAT IT READS IS OF BULK AT MOST 1048576: true; the input reads as it did. -/
def fnExactRingStepsUptoRow : OpenClaim := { program := "ythnpobbpmgjhjaa", sum := "1626d12519f9a3134572be74b988d93b29a2c4d8327320b036f2ec80ed07378e", func := "loop.example/g03203/laws.FnExactRingSteps", spec := "fnExactRingSteps", apart := false, narrowed := true }
def FnExactRingStepsUptoSaid : Prop := fnExactRingStepsUptoRow.holds Try.pinned (OpenSpec.upto fnExactRingStepsSpec)

/-- 'laws.FnExactCountDifferent', WHERE WHAT IT READS IS OF BULK AT MOST 1048576: true; the input reads as it did. -/
def fnExactCountDifferentUptoRow : OpenClaim := { program := "ythnpobbpmgjhjaa", sum := "1626d12519f9a3134572be74b988d93b29a2c4d8327320b036f2ec80ed07378e", func := "loop.example/g03203/laws.FnExactCountDifferent", spec := "fnExactCountDifferent", apart := false, narrowed := true }
def FnExactCountDifferentUptoSaid : Prop := fnExactCountDifferentUptoRow.holds Try.pinned (OpenSpec.upto fnExactCountDifferentSpec)

/-- 'laws.FnExactGrayCycle', WHERE WHAT IT READS IS OF BULK AT MOST 1048576: true; the input reads as it did. -/
def fnExactGrayCycleUptoRow : OpenClaim := { program := "ythnpobbpmgjhjaa", sum := "1626d12519f9a3134572be74b988d93b29a2c4d8327320b036f2ec80ed07378e", func := "loop.example/g03203/laws.FnExactGrayCycle", spec := "fnExactGrayCycle", apart := false, narrowed := true }
def FnExactGrayCycleUptoSaid : Prop := fnExactGrayCycleUptoRow.holds Try.pinned (OpenSpec.upto fnExactGrayCycleSpec)

/-- 'laws.FnExactIsGrayCycle', WHERE WHAT IT READS IS OF BULK AT MOST 1048576: true; the input reads as it did. -/
def fnExactIsGrayCycleUptoRow : OpenClaim := { program := "ythnpobbpmgjhjaa", sum := "1626d12519f9a3134572be74b988d93b29a2c4d8327320b036f2ec80ed07378e", func := "loop.example/g03203/laws.FnExactIsGrayCycle", spec := "fnExactIsGrayCycle", apart := false, narrowed := true }
def FnExactIsGrayCycleUptoSaid : Prop := fnExactIsGrayCycleUptoRow.holds Try.pinned (OpenSpec.upto fnExactIsGrayCycleSpec)

/-- 'laws.FnExactGrayDigits', WHERE WHAT IT READS IS OF BULK AT MOST 1048576: true; the input reads as it did. -/
def fnExactGrayDigitsUptoRow : OpenClaim := { program := "ythnpobbpmgjhjaa", sum := "1626d12519f9a3134572be74b988d93b29a2c4d8327320b036f2ec80ed07378e", func := "loop.example/g03203/laws.FnExactGrayDigits", spec := "fnExactGrayDigits", unfollowed := true, recurses := true, apart := false, narrowed := true }
def FnExactGrayDigitsUptoSaid : Prop := fnExactGrayDigitsUptoRow.holds Try.pinned (OpenSpec.upto fnExactGrayDigitsSpec)

/-- 'laws.FnExactFromGrayDigits', WHERE WHAT IT READS IS OF BULK AT MOST 1048576: true; the input reads as it did. -/
def fnExactFromGrayDigitsUptoRow : OpenClaim := { program := "ythnpobbpmgjhjaa", sum := "1626d12519f9a3134572be74b988d93b29a2c4d8327320b036f2ec80ed07378e", func := "loop.example/g03203/laws.FnExactFromGrayDigits", spec := "fnExactFromGrayDigits", unfollowed := true, recurses := true, apart := false, narrowed := true }
def FnExactFromGrayDigitsUptoSaid : Prop := fnExactFromGrayDigitsUptoRow.holds Try.pinned (OpenSpec.upto fnExactFromGrayDigitsSpec)

end Rows
end Go.Proofs.Ythnpobbpmgjhjaa
