/-
  No cell of these rows narrows 'for every input' (looked for: loops, veiled, ifaces, maps, wideKeys, modest, calm, conditions, laid).
  DERIVED. THE GIVEN ROWS OF THIS SEAT. 9 by the template 'for every input the law returns true; each argument reads behind the call as it read before'; 0 by the template 'total and deterministic' (their statements: YtepjmlcleggnnaaTotals.lean).
  GIVEN WITH THE SEED: the statements are not yours to turn. If you find one false, say at which input.
  Laid BY PROGRAM, IN A SANDBOX (cutbox-rows.mjs): the forced cells as the released guide's own fill.sh prints them over the translation 1b22d9cee77a2b95… (all of the seat's roots in one cut). By AI agents, Wed Nov 11 2026. No macro, syntax, notation, axiom, sorry.
-/
import Derived.Test.YtepjmlcleggnnaaChecked
import GoSem.Claim
import GoSem.ClaimJoined
import GoSem.ClaimMapViews
import Derived.JoinedTies
import Derived.KernelRfl
namespace Go.Proofs.Ytepjmlcleggnnaa
/- THE CELL 'sum', in the pinned program and in every row, IS THE sha256 OF THE DUMP (.gsa) THAT YtepjmlcleggnnaaProg.lean LOADS. Nothing in Lean hashes anything: it is a label: what it is worth is what the hold of that sum in a sandbox is worth. -/
noncomputable def Try.pinned : Pinned := { name := "ytepjmlcleggnnaa", sum := "1b22d9cee77a2b952d5104531e2932ac497eb4be2a48abdb16b4c591c1eb1dd1", checked := Try.checked }
namespace Rows
def none {H : Type} : Left H := { results := [], args := [] }

/-- 'laws.FnExactOrderOf': WHATEVER THE INPUT: true; the input reads as it did. -/
def fnExactOrderOfSpec : ChangeSpec := { name := "fnExactOrderOf", fn := fun _ => fun
  | [d1, d2] => { results := [.lit (.bool true)], args := [d1, d2] }
  | _ => none }
def fnExactOrderOfRow : OpenClaim := { program := "ytepjmlcleggnnaa", sum := "1b22d9cee77a2b952d5104531e2932ac497eb4be2a48abdb16b4c591c1eb1dd1", func := "loop.example/g03203/laws.FnExactOrderOf", spec := "fnExactOrderOf", apart := false }
def FnExactOrderOfSaid : Prop := fnExactOrderOfRow.holds Try.pinned (OpenSpec.ofChange fnExactOrderOfSpec)

/-- ITS FALSE NEIGHBOUR: 'it returns false'. Refute it at one input. -/
def fnExactOrderOfWrong : ChangeSpec := { name := "fnExactOrderOf", fn := fun _ => fun
  | [d1, d2] => { results := [.lit (.bool false)], args := [d1, d2] }
  | _ => none }
def FnExactOrderOfWrongFalsely : Prop := fnExactOrderOfRow.holds Try.pinned (OpenSpec.ofChange fnExactOrderOfWrong)

/-- 'laws.FnExactMaskOf': WHATEVER THE INPUT: true; the input reads as it did. -/
def fnExactMaskOfSpec : ChangeSpec := { name := "fnExactMaskOf", fn := fun _ => fun
  | [d] => { results := [.lit (.bool true)], args := [d] }
  | _ => none }
def fnExactMaskOfRow : OpenClaim := { program := "ytepjmlcleggnnaa", sum := "1b22d9cee77a2b952d5104531e2932ac497eb4be2a48abdb16b4c591c1eb1dd1", func := "loop.example/g03203/laws.FnExactMaskOf", spec := "fnExactMaskOf", apart := false }
def FnExactMaskOfSaid : Prop := fnExactMaskOfRow.holds Try.pinned (OpenSpec.ofChange fnExactMaskOfSpec)

/-- ITS FALSE NEIGHBOUR: 'it returns false'. Refute it at one input. -/
def fnExactMaskOfWrong : ChangeSpec := { name := "fnExactMaskOf", fn := fun _ => fun
  | [d] => { results := [.lit (.bool false)], args := [d] }
  | _ => none }
def FnExactMaskOfWrongFalsely : Prop := fnExactMaskOfRow.holds Try.pinned (OpenSpec.ofChange fnExactMaskOfWrong)

/-- 'laws.FnExactPointDigits': WHATEVER THE INPUT: true; the input reads as it did. -/
def fnExactPointDigitsSpec : ChangeSpec := { name := "fnExactPointDigits", fn := fun _ => fun
  | [d1, d2, d3, d4] => { results := [.lit (.bool true)], args := [d1, d2, d3, d4] }
  | _ => none }
def fnExactPointDigitsRow : OpenClaim := { program := "ytepjmlcleggnnaa", sum := "1b22d9cee77a2b952d5104531e2932ac497eb4be2a48abdb16b4c591c1eb1dd1", func := "loop.example/g03203/laws.FnExactPointDigits", spec := "fnExactPointDigits", apart := false }
def FnExactPointDigitsSaid : Prop := fnExactPointDigitsRow.holds Try.pinned (OpenSpec.ofChange fnExactPointDigitsSpec)

/-- ITS FALSE NEIGHBOUR: 'it returns false'. Refute it at one input. -/
def fnExactPointDigitsWrong : ChangeSpec := { name := "fnExactPointDigits", fn := fun _ => fun
  | [d1, d2, d3, d4] => { results := [.lit (.bool false)], args := [d1, d2, d3, d4] }
  | _ => none }
def FnExactPointDigitsWrongFalsely : Prop := fnExactPointDigitsRow.holds Try.pinned (OpenSpec.ofChange fnExactPointDigitsWrong)

/-- 'laws.FnExactSplitAny': WHATEVER THE INPUT: true; the input reads as it did. -/
def fnExactSplitAnySpec : ChangeSpec := { name := "fnExactSplitAny", fn := fun _ => fun
  | [d1, d2] => { results := [.lit (.bool true)], args := [d1, d2] }
  | _ => none }
def fnExactSplitAnyRow : OpenClaim := { program := "ytepjmlcleggnnaa", sum := "1b22d9cee77a2b952d5104531e2932ac497eb4be2a48abdb16b4c591c1eb1dd1", func := "loop.example/g03203/laws.FnExactSplitAny", spec := "fnExactSplitAny", inPlace := ["internal/bytealg.IndexByteString"], apart := false }
def FnExactSplitAnySaid : Prop := fnExactSplitAnyRow.holds Try.pinned (OpenSpec.ofChange fnExactSplitAnySpec)

/-- ITS FALSE NEIGHBOUR: 'it returns false'. Refute it at one input. -/
def fnExactSplitAnyWrong : ChangeSpec := { name := "fnExactSplitAny", fn := fun _ => fun
  | [d1, d2] => { results := [.lit (.bool false)], args := [d1, d2] }
  | _ => none }
def FnExactSplitAnyWrongFalsely : Prop := fnExactSplitAnyRow.holds Try.pinned (OpenSpec.ofChange fnExactSplitAnyWrong)

/-- 'laws.FnExactSubsetRank': WHATEVER THE INPUT: true; the input reads as it did. -/
def fnExactSubsetRankSpec : ChangeSpec := { name := "fnExactSubsetRank", fn := fun _ => fun
  | [d] => { results := [.lit (.bool true)], args := [d] }
  | _ => none }
def fnExactSubsetRankRow : OpenClaim := { program := "ytepjmlcleggnnaa", sum := "1b22d9cee77a2b952d5104531e2932ac497eb4be2a48abdb16b4c591c1eb1dd1", func := "loop.example/g03203/laws.FnExactSubsetRank", spec := "fnExactSubsetRank", apart := false }
def FnExactSubsetRankSaid : Prop := fnExactSubsetRankRow.holds Try.pinned (OpenSpec.ofChange fnExactSubsetRankSpec)

/-- ITS FALSE NEIGHBOUR: 'it returns false'. Refute it at one input. -/
def fnExactSubsetRankWrong : ChangeSpec := { name := "fnExactSubsetRank", fn := fun _ => fun
  | [d] => { results := [.lit (.bool false)], args := [d] }
  | _ => none }
def FnExactSubsetRankWrongFalsely : Prop := fnExactSubsetRankRow.holds Try.pinned (OpenSpec.ofChange fnExactSubsetRankWrong)

/-- 'laws.FnExactSubsetAt': WHATEVER THE INPUT: true; the input reads as it did. -/
def fnExactSubsetAtSpec : ChangeSpec := { name := "fnExactSubsetAt", fn := fun _ => fun
  | [d1, d2] => { results := [.lit (.bool true)], args := [d1, d2] }
  | _ => none }
def fnExactSubsetAtRow : OpenClaim := { program := "ytepjmlcleggnnaa", sum := "1b22d9cee77a2b952d5104531e2932ac497eb4be2a48abdb16b4c591c1eb1dd1", func := "loop.example/g03203/laws.FnExactSubsetAt", spec := "fnExactSubsetAt", apart := false }
def FnExactSubsetAtSaid : Prop := fnExactSubsetAtRow.holds Try.pinned (OpenSpec.ofChange fnExactSubsetAtSpec)

/-- ITS FALSE NEIGHBOUR: 'it returns false'. Refute it at one input. -/
def fnExactSubsetAtWrong : ChangeSpec := { name := "fnExactSubsetAt", fn := fun _ => fun
  | [d1, d2] => { results := [.lit (.bool false)], args := [d1, d2] }
  | _ => none }
def FnExactSubsetAtWrongFalsely : Prop := fnExactSubsetAtRow.holds Try.pinned (OpenSpec.ofChange fnExactSubsetAtWrong)

/-- 'laws.FnExactOtherSubset': WHATEVER THE INPUT: true; the input reads as it did. -/
def fnExactOtherSubsetSpec : ChangeSpec := { name := "fnExactOtherSubset", fn := fun _ => fun
  | [d1, d2] => { results := [.lit (.bool true)], args := [d1, d2] }
  | _ => none }
def fnExactOtherSubsetRow : OpenClaim := { program := "ytepjmlcleggnnaa", sum := "1b22d9cee77a2b952d5104531e2932ac497eb4be2a48abdb16b4c591c1eb1dd1", func := "loop.example/g03203/laws.FnExactOtherSubset", spec := "fnExactOtherSubset", apart := false }
def FnExactOtherSubsetSaid : Prop := fnExactOtherSubsetRow.holds Try.pinned (OpenSpec.ofChange fnExactOtherSubsetSpec)

/-- ITS FALSE NEIGHBOUR: 'it returns false'. Refute it at one input. -/
def fnExactOtherSubsetWrong : ChangeSpec := { name := "fnExactOtherSubset", fn := fun _ => fun
  | [d1, d2] => { results := [.lit (.bool false)], args := [d1, d2] }
  | _ => none }
def FnExactOtherSubsetWrongFalsely : Prop := fnExactOtherSubsetRow.holds Try.pinned (OpenSpec.ofChange fnExactOtherSubsetWrong)

/-- 'laws.FnExactNextSubset': WHATEVER THE INPUT: true; the input reads as it did. -/
def fnExactNextSubsetSpec : ChangeSpec := { name := "fnExactNextSubset", fn := fun _ => fun
  | [d] => { results := [.lit (.bool true)], args := [d] }
  | _ => none }
def fnExactNextSubsetRow : OpenClaim := { program := "ytepjmlcleggnnaa", sum := "1b22d9cee77a2b952d5104531e2932ac497eb4be2a48abdb16b4c591c1eb1dd1", func := "loop.example/g03203/laws.FnExactNextSubset", spec := "fnExactNextSubset", apart := false }
def FnExactNextSubsetSaid : Prop := fnExactNextSubsetRow.holds Try.pinned (OpenSpec.ofChange fnExactNextSubsetSpec)

/-- ITS FALSE NEIGHBOUR: 'it returns false'. Refute it at one input. -/
def fnExactNextSubsetWrong : ChangeSpec := { name := "fnExactNextSubset", fn := fun _ => fun
  | [d] => { results := [.lit (.bool false)], args := [d] }
  | _ => none }
def FnExactNextSubsetWrongFalsely : Prop := fnExactNextSubsetRow.holds Try.pinned (OpenSpec.ofChange fnExactNextSubsetWrong)

/-- 'laws.FnSubsets': WHATEVER THE INPUT: true; the input reads as it did. -/
def fnSubsetsSpec : ChangeSpec := { name := "fnSubsets", fn := fun _ => fun
  | [d] => { results := [.lit (.bool true)], args := [d] }
  | _ => none }
def fnSubsetsRow : OpenClaim := { program := "ytepjmlcleggnnaa", sum := "1b22d9cee77a2b952d5104531e2932ac497eb4be2a48abdb16b4c591c1eb1dd1", func := "loop.example/g03203/laws.FnSubsets", spec := "fnSubsets", apart := false }
def FnSubsetsSaid : Prop := fnSubsetsRow.holds Try.pinned (OpenSpec.ofChange fnSubsetsSpec)

/-- ITS FALSE NEIGHBOUR: 'it returns false'. Refute it at one input. -/
def fnSubsetsWrong : ChangeSpec := { name := "fnSubsets", fn := fun _ => fun
  | [d] => { results := [.lit (.bool false)], args := [d] }
  | _ => none }
def FnSubsetsWrongFalsely : Prop := fnSubsetsRow.holds Try.pinned (OpenSpec.ofChange fnSubsetsWrong)

/- THE SECOND FORM. 'bulk': how many values and letters a reading holds, each counted each time it is reached (what is shared counts as often as it is met; a slice's spare places count too). A statement '..UptoSaid' is the law's where the arguments, and the package variables that the reading takes, are together of bulk at most 1048576: NARROWER than '..Said'. Prove '..Said' where nothing that the law and all that it calls make is longer than what came in: it says more and counts as full. Else prove '..UptoSaid'. A law counts once. -/
mutual
def uptoBulk {H : Type} : DataW H → Nat
  | .lit (.string bytes) => bytes.length + 1
  | .lit _ => 1
  | .nil => 1
  | .ptr d => uptoBulk d + 1
  | .slice elems spare => uptoBulkAll elems + uptoBulkAll spare + 1
  | .agg parts => uptoBulkAll parts + 1
  | .iface _ d => uptoBulk d + 1
  | .map entries => uptoBulkEntries entries + 1
  | .held _ => 1
def uptoBulkAll {H : Type} : List (DataW H) → Nat
  | [] => 0
  | d :: r => uptoBulk d + uptoBulkAll r
def uptoBulkEntries {H : Type} : List (Lit × DataW H) → Nat
  | [] => 0
  | x :: r => uptoBulkEntry x + uptoBulkEntries r
def uptoBulkEntry {H : Type} : Lit × DataW H → Nat
  | (.string bytes, d) => bytes.length + uptoBulk d + 1
  | (_, d) => uptoBulk d + 1
 end
def uptoSmall : (H : Type) → List (DataW H) → Bool := fun _ ds => decide (uptoBulkAll ds ≤ 1048576)
def OpenSpec.upto (s : _root_.Go.ChangeSpec) : _root_.Go.OpenSpec := { _root_.Go.OpenSpec.ofChange s with cond := some uptoSmall }

/-- 'laws.FnExactOrderOf', WHERE WHAT IT READS IS OF BULK AT MOST 1048576: true; the input reads as it did. -/
def fnExactOrderOfUptoRow : OpenClaim := { program := "ytepjmlcleggnnaa", sum := "1b22d9cee77a2b952d5104531e2932ac497eb4be2a48abdb16b4c591c1eb1dd1", func := "loop.example/g03203/laws.FnExactOrderOf", spec := "fnExactOrderOf", apart := false, narrowed := true }
def FnExactOrderOfUptoSaid : Prop := fnExactOrderOfUptoRow.holds Try.pinned (OpenSpec.upto fnExactOrderOfSpec)

/-- 'laws.FnExactMaskOf', WHERE WHAT IT READS IS OF BULK AT MOST 1048576: true; the input reads as it did. -/
def fnExactMaskOfUptoRow : OpenClaim := { program := "ytepjmlcleggnnaa", sum := "1b22d9cee77a2b952d5104531e2932ac497eb4be2a48abdb16b4c591c1eb1dd1", func := "loop.example/g03203/laws.FnExactMaskOf", spec := "fnExactMaskOf", apart := false, narrowed := true }
def FnExactMaskOfUptoSaid : Prop := fnExactMaskOfUptoRow.holds Try.pinned (OpenSpec.upto fnExactMaskOfSpec)

/-- 'laws.FnExactPointDigits', WHERE WHAT IT READS IS OF BULK AT MOST 1048576: true; the input reads as it did. -/
def fnExactPointDigitsUptoRow : OpenClaim := { program := "ytepjmlcleggnnaa", sum := "1b22d9cee77a2b952d5104531e2932ac497eb4be2a48abdb16b4c591c1eb1dd1", func := "loop.example/g03203/laws.FnExactPointDigits", spec := "fnExactPointDigits", apart := false, narrowed := true }
def FnExactPointDigitsUptoSaid : Prop := fnExactPointDigitsUptoRow.holds Try.pinned (OpenSpec.upto fnExactPointDigitsSpec)

/-- 'laws.FnExactSplitAny', WHERE WHAT IT READS IS OF BULK AT MOST 1048576: true; the input reads as it did. -/
def fnExactSplitAnyUptoRow : OpenClaim := { program := "ytepjmlcleggnnaa", sum := "1b22d9cee77a2b952d5104531e2932ac497eb4be2a48abdb16b4c591c1eb1dd1", func := "loop.example/g03203/laws.FnExactSplitAny", spec := "fnExactSplitAny", inPlace := ["internal/bytealg.IndexByteString"], apart := false, narrowed := true }
def FnExactSplitAnyUptoSaid : Prop := fnExactSplitAnyUptoRow.holds Try.pinned (OpenSpec.upto fnExactSplitAnySpec)

/-- 'laws.FnExactSubsetRank', WHERE WHAT IT READS IS OF BULK AT MOST 1048576: true; the input reads as it did. -/
def fnExactSubsetRankUptoRow : OpenClaim := { program := "ytepjmlcleggnnaa", sum := "1b22d9cee77a2b952d5104531e2932ac497eb4be2a48abdb16b4c591c1eb1dd1", func := "loop.example/g03203/laws.FnExactSubsetRank", spec := "fnExactSubsetRank", apart := false, narrowed := true }
def FnExactSubsetRankUptoSaid : Prop := fnExactSubsetRankUptoRow.holds Try.pinned (OpenSpec.upto fnExactSubsetRankSpec)

/-- 'laws.FnExactSubsetAt', WHERE WHAT IT READS IS OF BULK AT MOST 1048576: true; the input reads as it did. -/
def fnExactSubsetAtUptoRow : OpenClaim := { program := "ytepjmlcleggnnaa", sum := "1b22d9cee77a2b952d5104531e2932ac497eb4be2a48abdb16b4c591c1eb1dd1", func := "loop.example/g03203/laws.FnExactSubsetAt", spec := "fnExactSubsetAt", apart := false, narrowed := true }
def FnExactSubsetAtUptoSaid : Prop := fnExactSubsetAtUptoRow.holds Try.pinned (OpenSpec.upto fnExactSubsetAtSpec)

/-- 'laws.FnExactOtherSubset', WHERE WHAT IT READS IS OF BULK AT MOST 1048576: true; the input reads as it did. -/
def fnExactOtherSubsetUptoRow : OpenClaim := { program := "ytepjmlcleggnnaa", sum := "1b22d9cee77a2b952d5104531e2932ac497eb4be2a48abdb16b4c591c1eb1dd1", func := "loop.example/g03203/laws.FnExactOtherSubset", spec := "fnExactOtherSubset", apart := false, narrowed := true }
def FnExactOtherSubsetUptoSaid : Prop := fnExactOtherSubsetUptoRow.holds Try.pinned (OpenSpec.upto fnExactOtherSubsetSpec)

/-- 'laws.FnExactNextSubset', WHERE WHAT IT READS IS OF BULK AT MOST 1048576: true; the input reads as it did. -/
def fnExactNextSubsetUptoRow : OpenClaim := { program := "ytepjmlcleggnnaa", sum := "1b22d9cee77a2b952d5104531e2932ac497eb4be2a48abdb16b4c591c1eb1dd1", func := "loop.example/g03203/laws.FnExactNextSubset", spec := "fnExactNextSubset", apart := false, narrowed := true }
def FnExactNextSubsetUptoSaid : Prop := fnExactNextSubsetUptoRow.holds Try.pinned (OpenSpec.upto fnExactNextSubsetSpec)

/-- 'laws.FnSubsets', WHERE WHAT IT READS IS OF BULK AT MOST 1048576: true; the input reads as it did. -/
def fnSubsetsUptoRow : OpenClaim := { program := "ytepjmlcleggnnaa", sum := "1b22d9cee77a2b952d5104531e2932ac497eb4be2a48abdb16b4c591c1eb1dd1", func := "loop.example/g03203/laws.FnSubsets", spec := "fnSubsets", apart := false, narrowed := true }
def FnSubsetsUptoSaid : Prop := fnSubsetsUptoRow.holds Try.pinned (OpenSpec.upto fnSubsetsSpec)

end Rows
end Go.Proofs.Ytepjmlcleggnnaa
