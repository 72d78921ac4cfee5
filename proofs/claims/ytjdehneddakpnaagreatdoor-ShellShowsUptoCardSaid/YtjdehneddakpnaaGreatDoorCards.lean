/-
  DERIVED. GIVEN WITH THE SEED: THE CARDS: each row of YtjdehneddakpnaaGreatDoorRows.lean that lists a variable, with what it lists TIED to the program's text (the seventh form; the later family's looks); each row that meets fmt, with fmt's text TOLD by the authors' own Lean function (tested against real Go, not proved from fmt's source: count such statements apart). THE CARD IS WHAT COUNTS. Prove the row's statement (the work); the ties are given (YtjdehneddakpnaaGreatDoorTie.lean); close each card by the builder's one call (the guide's Derived/Test/ToyasCard.lean, 'card_holds'). Laid BY PROGRAM, IN A SANDBOX (cutbox-door.mjs). By AI agents, Wed Nov 11 2026. No macro, syntax, notation, axiom, sorry.
-/
import Derived.Test.YtjdehneddakpnaaGreatDoorRows
import GoSem.ClaimSeven
namespace Go.Proofs.YtjdehneddakpnaaGreatDoor
namespace Rows

/-- THE TIED CARD OF 'spoorlaw30.ShellParses'. -/
def shellParsesCard : Claim7 := { stood := { row := shellParsesRow, standIns := [], harness := (true, "5f63d3edbe65eccd325fbde1bae161f277b2df37a97aa5e791d98137f1c0c4b4"), looks := true }, kinds := [], alts := [], laidByText := true, laidKinds := [.data, .data, .data, .sentinel, .sentinel], laidTests := true, laidLooks := .later }
def ShellParsesCardSaid : Prop := Claim7.holds Tryz.pinned (.plain (OpenSpec.ofChange shellParsesSpec)) shellParsesCard

/-- THE TIED CARD OF 'spoorlaw30.ShellLines'. -/
def shellLinesCard : Claim7 := { stood := { row := shellLinesRow, standIns := [], harness := (true, "5f63d3edbe65eccd325fbde1bae161f277b2df37a97aa5e791d98137f1c0c4b4"), looks := true }, kinds := [], alts := [], laidByText := true, laidKinds := [.data, .data, .data, .sentinel, .sentinel], laidTests := true, laidLooks := .later }
def ShellLinesCardSaid : Prop := Claim7.holds Tryz.pinned (.plain (OpenSpec.ofChange shellLinesSpec)) shellLinesCard

/-- THE TIED CARD OF 'spoorlaw30.ShellShows'. -/
def shellShowsCard : Claim7 := { stood := { row := shellShowsRow, standIns := [], harness := (true, "5f63d3edbe65eccd325fbde1bae161f277b2df37a97aa5e791d98137f1c0c4b4"), looks := true }, kinds := [], alts := [], laidByText := true, laidKinds := [.data, .data, .data, .sentinel, .sentinel], laidTests := true, laidLooks := .later }
def ShellShowsCardSaid : Prop := Claim7.holds Tryz.pinned (.plain (OpenSpec.ofChange shellShowsSpec)) shellShowsCard

/-- THE TIED CARD OF 'spoorlaw30.ShellBack'. -/
def shellBackCard : Claim7 := { stood := { row := shellBackRow, standIns := [], harness := (true, "5f63d3edbe65eccd325fbde1bae161f277b2df37a97aa5e791d98137f1c0c4b4"), looks := true }, kinds := [], alts := [], laidByText := true, laidKinds := [.data, .data, .data, .sentinel, .sentinel], laidTests := true, laidLooks := .later }
def ShellBackCardSaid : Prop := Claim7.holds Tryz.pinned (.plain (OpenSpec.ofChange shellBackSpec)) shellBackCard

/-- THE TIED CARD OF 'spoorlaw30.ShellBytes'. -/
def shellBytesCard : Claim7 := { stood := { row := shellBytesRow, standIns := [], harness := (true, "5f63d3edbe65eccd325fbde1bae161f277b2df37a97aa5e791d98137f1c0c4b4"), looks := true }, kinds := [], alts := [], laidByText := true, laidKinds := [.data, .data, .data, .sentinel, .sentinel], laidTests := true, laidLooks := .later }
def ShellBytesCardSaid : Prop := Claim7.holds Tryz.pinned (.plain (OpenSpec.ofChange shellBytesSpec)) shellBytesCard

/-- THE SECOND FORM's CARD OF 'spoorlaw30.ShellParses'. -/
def shellParsesUptoCard : Claim7 := { stood := { row := shellParsesUptoRow, standIns := [], harness := (true, "5f63d3edbe65eccd325fbde1bae161f277b2df37a97aa5e791d98137f1c0c4b4"), looks := true }, kinds := [], alts := [], laidByText := true, laidKinds := [.data, .data, .data, .sentinel, .sentinel], laidTests := true, laidLooks := .later }
def ShellParsesUptoCardSaid : Prop := Claim7.holds Tryz.pinned (.plain (OpenSpec.upto shellParsesSpec)) shellParsesUptoCard

/-- THE SECOND FORM's CARD OF 'spoorlaw30.ShellLines'. -/
def shellLinesUptoCard : Claim7 := { stood := { row := shellLinesUptoRow, standIns := [], harness := (true, "5f63d3edbe65eccd325fbde1bae161f277b2df37a97aa5e791d98137f1c0c4b4"), looks := true }, kinds := [], alts := [], laidByText := true, laidKinds := [.data, .data, .data, .sentinel, .sentinel], laidTests := true, laidLooks := .later }
def ShellLinesUptoCardSaid : Prop := Claim7.holds Tryz.pinned (.plain (OpenSpec.upto shellLinesSpec)) shellLinesUptoCard

/-- THE SECOND FORM's CARD OF 'spoorlaw30.ShellShows'. -/
def shellShowsUptoCard : Claim7 := { stood := { row := shellShowsUptoRow, standIns := [], harness := (true, "5f63d3edbe65eccd325fbde1bae161f277b2df37a97aa5e791d98137f1c0c4b4"), looks := true }, kinds := [], alts := [], laidByText := true, laidKinds := [.data, .data, .data, .sentinel, .sentinel], laidTests := true, laidLooks := .later }
def ShellShowsUptoCardSaid : Prop := Claim7.holds Tryz.pinned (.plain (OpenSpec.upto shellShowsSpec)) shellShowsUptoCard

/-- THE SECOND FORM's CARD OF 'spoorlaw30.ShellBack'. -/
def shellBackUptoCard : Claim7 := { stood := { row := shellBackUptoRow, standIns := [], harness := (true, "5f63d3edbe65eccd325fbde1bae161f277b2df37a97aa5e791d98137f1c0c4b4"), looks := true }, kinds := [], alts := [], laidByText := true, laidKinds := [.data, .data, .data, .sentinel, .sentinel], laidTests := true, laidLooks := .later }
def ShellBackUptoCardSaid : Prop := Claim7.holds Tryz.pinned (.plain (OpenSpec.upto shellBackSpec)) shellBackUptoCard

/-- THE SECOND FORM's CARD OF 'spoorlaw30.ShellBytes'. -/
def shellBytesUptoCard : Claim7 := { stood := { row := shellBytesUptoRow, standIns := [], harness := (true, "5f63d3edbe65eccd325fbde1bae161f277b2df37a97aa5e791d98137f1c0c4b4"), looks := true }, kinds := [], alts := [], laidByText := true, laidKinds := [.data, .data, .data, .sentinel, .sentinel], laidTests := true, laidLooks := .later }
def ShellBytesUptoCardSaid : Prop := Claim7.holds Tryz.pinned (.plain (OpenSpec.upto shellBytesSpec)) shellBytesUptoCard
end Rows
end Go.Proofs.YtjdehneddakpnaaGreatDoor
