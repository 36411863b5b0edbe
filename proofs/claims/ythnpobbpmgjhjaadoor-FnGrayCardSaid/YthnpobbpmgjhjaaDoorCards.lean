/-
  DERIVED. GIVEN WITH THE SEED: THE CARDS: each row of YthnpobbpmgjhjaaDoorRows.lean that lists a variable, with what it lists TIED to the program's text (the seventh form; the later family's looks); each row that meets fmt, with fmt's text TOLD by the authors' own Lean function (tested against real Go, not proved from fmt's source: count such statements apart). THE CARD IS WHAT COUNTS. Prove the row's statement (the work); the ties are given (YthnpobbpmgjhjaaDoorTie.lean); close each card by the builder's one call (the guide's Derived/Test/ToyasCard.lean, 'card_holds'). Laid BY PROGRAM, IN A SANDBOX (cutbox-door.mjs). By AI agents, Wed Nov 11 2026. No macro, syntax, notation, axiom, sorry.
-/
import Derived.Test.YthnpobbpmgjhjaaDoorRows
import GoSem.ClaimSeven
namespace Go.Proofs.YthnpobbpmgjhjaaDoor
namespace Rows

/-- THE TIED CARD OF 'laws.FnExactFlipIndex'. -/
def fnExactFlipIndexCard : Claim7 := { stood := { row := fnExactFlipIndexRow, standIns := [], harness := (true, "ee0a13fef84145dff720c924375caad784d2eaae3139e8ad53fa26ca99880844"), looks := false }, kinds := [], alts := [], laidByText := true, laidKinds := [.data, .data], laidTests := true, laidLooks := .later }
def FnExactFlipIndexCardSaid : Prop := Claim7.holds Tryd.pinned (.plain (OpenSpec.ofChange fnExactFlipIndexSpec)) fnExactFlipIndexCard

/-- THE TIED CARD OF 'laws.FnGray'. -/
def fnGrayCard : Claim7 := { stood := { row := fnGrayRow, standIns := [], harness := (true, "ee0a13fef84145dff720c924375caad784d2eaae3139e8ad53fa26ca99880844"), looks := false }, kinds := [], alts := [], laidByText := true, laidKinds := [.data, .data], laidTests := true, laidLooks := .later }
def FnGrayCardSaid : Prop := Claim7.holds Tryd.pinned (.plain (OpenSpec.ofChange fnGraySpec)) fnGrayCard

/-- THE SECOND FORM's CARD OF 'laws.FnExactFlipIndex'. -/
def fnExactFlipIndexUptoCard : Claim7 := { stood := { row := fnExactFlipIndexUptoRow, standIns := [], harness := (true, "ee0a13fef84145dff720c924375caad784d2eaae3139e8ad53fa26ca99880844"), looks := false }, kinds := [], alts := [], laidByText := true, laidKinds := [.data, .data], laidTests := true, laidLooks := .later }
def FnExactFlipIndexUptoCardSaid : Prop := Claim7.holds Tryd.pinned (.plain (OpenSpec.upto fnExactFlipIndexSpec)) fnExactFlipIndexUptoCard

/-- THE SECOND FORM's CARD OF 'laws.FnGray'. -/
def fnGrayUptoCard : Claim7 := { stood := { row := fnGrayUptoRow, standIns := [], harness := (true, "ee0a13fef84145dff720c924375caad784d2eaae3139e8ad53fa26ca99880844"), looks := false }, kinds := [], alts := [], laidByText := true, laidKinds := [.data, .data], laidTests := true, laidLooks := .later }
def FnGrayUptoCardSaid : Prop := Claim7.holds Tryd.pinned (.plain (OpenSpec.upto fnGraySpec)) fnGrayUptoCard
end Rows
end Go.Proofs.YthnpobbpmgjhjaaDoor
