/-
  DERIVED. GIVEN WITH THE SEED: THE CARDS: each row of YtooockbfagkknaaDoorRows.lean that lists a variable, with what it lists TIED to the program's text (the seventh form; the later family's looks); each row that meets fmt, with fmt's text TOLD by the authors' own Lean function (tested against real Go, not proved from fmt's source: count such statements apart). THE CARD IS WHAT COUNTS. Prove the row's statement (the work); the ties are given (YtooockbfagkknaaDoorTie.lean); close each card by the builder's one call (the guide's Derived/Test/ToyasCard.lean, 'card_holds'). Laid BY PROGRAM, IN A SANDBOX (cutbox-door.mjs). By AI agents, Wed Nov 11 2026. No macro, syntax, notation, axiom, sorry.
-/
import Derived.Test.YtooockbfagkknaaDoorRows
import GoSem.ClaimSeven
namespace Go.Proofs.YtooockbfagkknaaDoor
namespace Rows

/-- THE TIED CARD OF 'spoorlaw10.SyntaxRuns'. -/
def syntaxRunsCard : Claim7 := { stood := { row := syntaxRunsRow, standIns := [], harness := (true, "e64d2f3541bbf43b2a9e9f50d990387c1f6ed9e33c37aa8d711867513abcfe07"), looks := false }, kinds := [], alts := [], laidByText := true, laidKinds := [.data, .data, .data], laidTests := true, laidLooks := .later }
def SyntaxRunsCardSaid : Prop := Claim7.holds Tryd.pinned (.plain (OpenSpec.ofChange syntaxRunsSpec)) syntaxRunsCard

/-- THE TIED CARD OF 'spoorlaw10.SyntaxBack'. -/
def syntaxBackCard : Claim7 := { stood := { row := syntaxBackRow, standIns := [], harness := (true, "e64d2f3541bbf43b2a9e9f50d990387c1f6ed9e33c37aa8d711867513abcfe07"), looks := false }, kinds := [], alts := [], laidByText := true, laidKinds := [.data, .data, .data], laidTests := true, laidLooks := .later }
def SyntaxBackCardSaid : Prop := Claim7.holds Tryd.pinned (.plain (OpenSpec.ofChange syntaxBackSpec)) syntaxBackCard

/-- THE TIED CARD OF 'spoorlaw10.SyntaxWords'. -/
def syntaxWordsCard : Claim7 := { stood := { row := syntaxWordsRow, standIns := [], harness := (true, "e64d2f3541bbf43b2a9e9f50d990387c1f6ed9e33c37aa8d711867513abcfe07"), looks := false }, kinds := [], alts := [], laidByText := true, laidKinds := [.data, .data, .data], laidTests := true, laidLooks := .later }
def SyntaxWordsCardSaid : Prop := Claim7.holds Tryd.pinned (.plain (OpenSpec.ofChange syntaxWordsSpec)) syntaxWordsCard

/-- THE TIED CARD OF 'spoorlaw10.SyntaxKept'. -/
def syntaxKeptCard : Claim7 := { stood := { row := syntaxKeptRow, standIns := [], harness := (true, "e64d2f3541bbf43b2a9e9f50d990387c1f6ed9e33c37aa8d711867513abcfe07"), looks := false }, kinds := [], alts := [], laidByText := true, laidKinds := [.data, .data, .data], laidTests := true, laidLooks := .later }
def SyntaxKeptCardSaid : Prop := Claim7.holds Tryd.pinned (.plain (OpenSpec.ofChange syntaxKeptSpec)) syntaxKeptCard

/-- THE TIED CARD OF 'spoorlaw10.SyntaxNested'. -/
def syntaxNestedCard : Claim7 := { stood := { row := syntaxNestedRow, standIns := [], harness := (true, "e64d2f3541bbf43b2a9e9f50d990387c1f6ed9e33c37aa8d711867513abcfe07"), looks := false }, kinds := [], alts := [], laidByText := true, laidKinds := [.data, .data, .data], laidTests := true, laidLooks := .later }
def SyntaxNestedCardSaid : Prop := Claim7.holds Tryd.pinned (.plain (OpenSpec.ofChange syntaxNestedSpec)) syntaxNestedCard

/-- THE SECOND FORM's CARD OF 'spoorlaw10.SyntaxRuns'. -/
def syntaxRunsUptoCard : Claim7 := { stood := { row := syntaxRunsUptoRow, standIns := [], harness := (true, "e64d2f3541bbf43b2a9e9f50d990387c1f6ed9e33c37aa8d711867513abcfe07"), looks := false }, kinds := [], alts := [], laidByText := true, laidKinds := [.data, .data, .data], laidTests := true, laidLooks := .later }
def SyntaxRunsUptoCardSaid : Prop := Claim7.holds Tryd.pinned (.plain (OpenSpec.upto syntaxRunsSpec)) syntaxRunsUptoCard

/-- THE SECOND FORM's CARD OF 'spoorlaw10.SyntaxBack'. -/
def syntaxBackUptoCard : Claim7 := { stood := { row := syntaxBackUptoRow, standIns := [], harness := (true, "e64d2f3541bbf43b2a9e9f50d990387c1f6ed9e33c37aa8d711867513abcfe07"), looks := false }, kinds := [], alts := [], laidByText := true, laidKinds := [.data, .data, .data], laidTests := true, laidLooks := .later }
def SyntaxBackUptoCardSaid : Prop := Claim7.holds Tryd.pinned (.plain (OpenSpec.upto syntaxBackSpec)) syntaxBackUptoCard

/-- THE SECOND FORM's CARD OF 'spoorlaw10.SyntaxWords'. -/
def syntaxWordsUptoCard : Claim7 := { stood := { row := syntaxWordsUptoRow, standIns := [], harness := (true, "e64d2f3541bbf43b2a9e9f50d990387c1f6ed9e33c37aa8d711867513abcfe07"), looks := false }, kinds := [], alts := [], laidByText := true, laidKinds := [.data, .data, .data], laidTests := true, laidLooks := .later }
def SyntaxWordsUptoCardSaid : Prop := Claim7.holds Tryd.pinned (.plain (OpenSpec.upto syntaxWordsSpec)) syntaxWordsUptoCard

/-- THE SECOND FORM's CARD OF 'spoorlaw10.SyntaxKept'. -/
def syntaxKeptUptoCard : Claim7 := { stood := { row := syntaxKeptUptoRow, standIns := [], harness := (true, "e64d2f3541bbf43b2a9e9f50d990387c1f6ed9e33c37aa8d711867513abcfe07"), looks := false }, kinds := [], alts := [], laidByText := true, laidKinds := [.data, .data, .data], laidTests := true, laidLooks := .later }
def SyntaxKeptUptoCardSaid : Prop := Claim7.holds Tryd.pinned (.plain (OpenSpec.upto syntaxKeptSpec)) syntaxKeptUptoCard

/-- THE SECOND FORM's CARD OF 'spoorlaw10.SyntaxNested'. -/
def syntaxNestedUptoCard : Claim7 := { stood := { row := syntaxNestedUptoRow, standIns := [], harness := (true, "e64d2f3541bbf43b2a9e9f50d990387c1f6ed9e33c37aa8d711867513abcfe07"), looks := false }, kinds := [], alts := [], laidByText := true, laidKinds := [.data, .data, .data], laidTests := true, laidLooks := .later }
def SyntaxNestedUptoCardSaid : Prop := Claim7.holds Tryd.pinned (.plain (OpenSpec.upto syntaxNestedSpec)) syntaxNestedUptoCard
end Rows
end Go.Proofs.YtooockbfagkknaaDoor
