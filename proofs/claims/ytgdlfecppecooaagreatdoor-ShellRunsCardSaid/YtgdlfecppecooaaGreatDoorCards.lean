/-
  DERIVED. GIVEN WITH THE SEED: THE CARDS: each row of YtgdlfecppecooaaGreatDoorRows.lean that lists a variable, with what it lists TIED to the program's text (the seventh form; the later family's looks); each row that meets fmt, with fmt's text TOLD by the authors' own Lean function (tested against real Go, not proved from fmt's source: count such statements apart). THE CARD IS WHAT COUNTS. Prove the row's statement (the work); the ties are given (YtgdlfecppecooaaGreatDoorTie.lean); close each card by the builder's one call (the guide's Derived/Test/ToyasCard.lean, 'card_holds'). Laid BY PROGRAM, IN A SANDBOX (cutbox-door.mjs). By AI agents, Wed Nov 11 2026. No macro, syntax, notation, axiom, sorry.
-/
import Derived.Test.YtgdlfecppecooaaGreatDoorRows
import GoSem.ClaimSeven
namespace Go.Proofs.YtgdlfecppecooaaGreatDoor
namespace Rows

/-- THE TIED CARD OF 'spoorlaw30.ShellRuns'. -/
def shellRunsCard : Claim7 := { stood := { row := shellRunsRow, standIns := [], harness := (true, "035401f3834ad377ded2bb95192fb090961a83f929b99ffe61a68852b3161355"), looks := true }, kinds := [], alts := [], laidByText := true, laidKinds := [.data, .data, .data, .sentinel, .sentinel], laidTests := true, laidLooks := .later }
def ShellRunsCardSaid : Prop := Claim7.holds Tryz.pinned (.plain (OpenSpec.ofChange shellRunsSpec)) shellRunsCard

/-- THE SECOND FORM's CARD OF 'spoorlaw30.ShellRuns'. -/
def shellRunsUptoCard : Claim7 := { stood := { row := shellRunsUptoRow, standIns := [], harness := (true, "035401f3834ad377ded2bb95192fb090961a83f929b99ffe61a68852b3161355"), looks := true }, kinds := [], alts := [], laidByText := true, laidKinds := [.data, .data, .data, .sentinel, .sentinel], laidTests := true, laidLooks := .later }
def ShellRunsUptoCardSaid : Prop := Claim7.holds Tryz.pinned (.plain (OpenSpec.upto shellRunsSpec)) shellRunsUptoCard
end Rows
end Go.Proofs.YtgdlfecppecooaaGreatDoor
