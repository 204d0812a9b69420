/-
  DERIVED. GIVEN WITH THE SEED: THE CARDS: each row of YtplbncajfignlaaGreatDoorRows.lean that lists a variable, with what it lists TIED to the program's text (the seventh form; the later family's looks); each row that meets fmt, with fmt's text TOLD by the authors' own Lean function (tested against real Go, not proved from fmt's source: count such statements apart). THE CARD IS WHAT COUNTS. Prove the row's statement (the work); the ties are given (YtplbncajfignlaaGreatDoorTie.lean); close each card by the builder's one call (the guide's Derived/Test/ToyasCard.lean, 'card_holds'). Laid BY PROGRAM, IN A SANDBOX (cutbox-door.mjs). By AI agents, Wed Nov 11 2026. No macro, syntax, notation, axiom, sorry.
-/
import Derived.Test.YtplbncajfignlaaGreatDoorRows
import GoSem.ClaimSeven
namespace Go.Proofs.YtplbncajfignlaaGreatDoor
namespace Rows

/-- THE TIED CARD OF 'bolterlaw35.CliMay'. -/
def cliMayCard : Claim7 := { stood := { row := cliMayRow, standIns := [], harness := (true, "f41a4afa38f6517077732f4b8c50fe62cf6098d0ba2971e02b0cdf5b8465a7cc"), looks := true }, kinds := [], alts := [], laidByText := true, laidKinds := [.data, .pinned], laidTests := true, laidLooks := .later }
def CliMayCardSaid : Prop := Claim7.holds Tryz.pinned (.plain (OpenSpec.ofChange cliMaySpec)) cliMayCard

/-- THE TIED CARD OF 'bolterlaw35.CliLetters'. -/
def cliLettersCard : Claim7 := { stood := { row := cliLettersRow, standIns := [], harness := (true, "f41a4afa38f6517077732f4b8c50fe62cf6098d0ba2971e02b0cdf5b8465a7cc"), looks := true }, kinds := [], alts := [], laidByText := true, laidKinds := [.data, .pinned], laidTests := true, laidLooks := .later }
def CliLettersCardSaid : Prop := Claim7.holds Tryz.pinned (.plain (OpenSpec.ofChange cliLettersSpec)) cliLettersCard

/-- THE TIED CARD OF 'bolterlaw35.CliOnce'. -/
def cliOnceCard : Claim7 := { stood := { row := cliOnceRow, standIns := [], harness := (true, "f41a4afa38f6517077732f4b8c50fe62cf6098d0ba2971e02b0cdf5b8465a7cc"), looks := true }, kinds := [], alts := [], laidByText := true, laidKinds := [.data, .pinned], laidTests := true, laidLooks := .later }
def CliOnceCardSaid : Prop := Claim7.holds Tryz.pinned (.plain (OpenSpec.ofChange cliOnceSpec)) cliOnceCard

/-- THE TIED CARD OF 'bolterlaw35.CliVars'. -/
def cliVarsCard : Claim7 := { stood := { row := cliVarsRow, standIns := [], harness := (true, "f41a4afa38f6517077732f4b8c50fe62cf6098d0ba2971e02b0cdf5b8465a7cc"), looks := true }, kinds := [], alts := [], laidByText := true, laidKinds := [.data, .pinned], laidTests := true, laidLooks := .later }
def CliVarsCardSaid : Prop := Claim7.holds Tryz.pinned (.plain (OpenSpec.ofChange cliVarsSpec)) cliVarsCard

/-- THE TIED CARD OF 'bolterlaw35.CliBack'. -/
def cliBackCard : Claim7 := { stood := { row := cliBackRow, standIns := [], harness := (true, "f41a4afa38f6517077732f4b8c50fe62cf6098d0ba2971e02b0cdf5b8465a7cc"), looks := true }, kinds := [], alts := [], laidByText := true, laidKinds := [.data, .pinned], laidTests := true, laidLooks := .later }
def CliBackCardSaid : Prop := Claim7.holds Tryz.pinned (.plain (OpenSpec.ofChange cliBackSpec)) cliBackCard

/-- THE TIED CARD OF 'bolterlaw25.CodeBack'. -/
def codeBackCard : Claim7 := { stood := { row := codeBackRow, standIns := [], harness := (true, "f41a4afa38f6517077732f4b8c50fe62cf6098d0ba2971e02b0cdf5b8465a7cc"), looks := true }, kinds := [], alts := [], laidByText := true, laidKinds := [.data, .listed, .data, .pinned], laidTests := true, laidLooks := .later }
def CodeBackCardSaid : Prop := Claim7.holds Tryz.pinned (.plain (OpenSpec.ofChange codeBackSpec)) codeBackCard

/-- THE TIED CARD OF 'bolterlaw25.CodeMay'. -/
def codeMayCard : Claim7 := { stood := { row := codeMayRow, standIns := [], harness := (true, "f41a4afa38f6517077732f4b8c50fe62cf6098d0ba2971e02b0cdf5b8465a7cc"), looks := true }, kinds := [], alts := [], laidByText := true, laidKinds := [.data, .listed, .data, .pinned], laidTests := true, laidLooks := .later }
def CodeMayCardSaid : Prop := Claim7.holds Tryz.pinned (.plain (OpenSpec.ofChange codeMaySpec)) codeMayCard

/-- THE TIED CARD OF 'bolterlaw25.CodeNames'. -/
def codeNamesCard : Claim7 := { stood := { row := codeNamesRow, standIns := [], harness := (true, "f41a4afa38f6517077732f4b8c50fe62cf6098d0ba2971e02b0cdf5b8465a7cc"), looks := true }, kinds := [], alts := [], laidByText := true, laidKinds := [.data, .listed, .data, .pinned], laidTests := true, laidLooks := .later }
def CodeNamesCardSaid : Prop := Claim7.holds Tryz.pinned (.plain (OpenSpec.ofChange codeNamesSpec)) codeNamesCard

/-- THE TIED CARD OF 'bolterlaw25.CodeOwn'. -/
def codeOwnCard : Claim7 := { stood := { row := codeOwnRow, standIns := [], harness := (true, "f41a4afa38f6517077732f4b8c50fe62cf6098d0ba2971e02b0cdf5b8465a7cc"), looks := true }, kinds := [], alts := [], laidByText := true, laidKinds := [.data, .listed, .data, .pinned], laidTests := true, laidLooks := .later }
def CodeOwnCardSaid : Prop := Claim7.holds Tryz.pinned (.plain (OpenSpec.ofChange codeOwnSpec)) codeOwnCard

/-- THE TIED CARD OF 'bolterlaw25.CodeTells'. -/
def codeTellsCard : Claim7 := { stood := { row := codeTellsRow, standIns := [], harness := (true, "f41a4afa38f6517077732f4b8c50fe62cf6098d0ba2971e02b0cdf5b8465a7cc"), looks := true }, kinds := [], alts := [], laidByText := true, laidKinds := [.data, .listed, .data, .pinned], laidTests := true, laidLooks := .later }
def CodeTellsCardSaid : Prop := Claim7.holds Tryz.pinned (.plain (OpenSpec.ofChange codeTellsSpec)) codeTellsCard

/-- THE SECOND FORM's CARD OF 'bolterlaw35.CliMay'. -/
def cliMayUptoCard : Claim7 := { stood := { row := cliMayUptoRow, standIns := [], harness := (true, "f41a4afa38f6517077732f4b8c50fe62cf6098d0ba2971e02b0cdf5b8465a7cc"), looks := true }, kinds := [], alts := [], laidByText := true, laidKinds := [.data, .pinned], laidTests := true, laidLooks := .later }
def CliMayUptoCardSaid : Prop := Claim7.holds Tryz.pinned (.plain (OpenSpec.upto cliMaySpec)) cliMayUptoCard

/-- THE SECOND FORM's CARD OF 'bolterlaw35.CliLetters'. -/
def cliLettersUptoCard : Claim7 := { stood := { row := cliLettersUptoRow, standIns := [], harness := (true, "f41a4afa38f6517077732f4b8c50fe62cf6098d0ba2971e02b0cdf5b8465a7cc"), looks := true }, kinds := [], alts := [], laidByText := true, laidKinds := [.data, .pinned], laidTests := true, laidLooks := .later }
def CliLettersUptoCardSaid : Prop := Claim7.holds Tryz.pinned (.plain (OpenSpec.upto cliLettersSpec)) cliLettersUptoCard

/-- THE SECOND FORM's CARD OF 'bolterlaw35.CliOnce'. -/
def cliOnceUptoCard : Claim7 := { stood := { row := cliOnceUptoRow, standIns := [], harness := (true, "f41a4afa38f6517077732f4b8c50fe62cf6098d0ba2971e02b0cdf5b8465a7cc"), looks := true }, kinds := [], alts := [], laidByText := true, laidKinds := [.data, .pinned], laidTests := true, laidLooks := .later }
def CliOnceUptoCardSaid : Prop := Claim7.holds Tryz.pinned (.plain (OpenSpec.upto cliOnceSpec)) cliOnceUptoCard

/-- THE SECOND FORM's CARD OF 'bolterlaw35.CliVars'. -/
def cliVarsUptoCard : Claim7 := { stood := { row := cliVarsUptoRow, standIns := [], harness := (true, "f41a4afa38f6517077732f4b8c50fe62cf6098d0ba2971e02b0cdf5b8465a7cc"), looks := true }, kinds := [], alts := [], laidByText := true, laidKinds := [.data, .pinned], laidTests := true, laidLooks := .later }
def CliVarsUptoCardSaid : Prop := Claim7.holds Tryz.pinned (.plain (OpenSpec.upto cliVarsSpec)) cliVarsUptoCard

/-- THE SECOND FORM's CARD OF 'bolterlaw35.CliBack'. -/
def cliBackUptoCard : Claim7 := { stood := { row := cliBackUptoRow, standIns := [], harness := (true, "f41a4afa38f6517077732f4b8c50fe62cf6098d0ba2971e02b0cdf5b8465a7cc"), looks := true }, kinds := [], alts := [], laidByText := true, laidKinds := [.data, .pinned], laidTests := true, laidLooks := .later }
def CliBackUptoCardSaid : Prop := Claim7.holds Tryz.pinned (.plain (OpenSpec.upto cliBackSpec)) cliBackUptoCard

/-- THE SECOND FORM's CARD OF 'bolterlaw25.CodeBack'. -/
def codeBackUptoCard : Claim7 := { stood := { row := codeBackUptoRow, standIns := [], harness := (true, "f41a4afa38f6517077732f4b8c50fe62cf6098d0ba2971e02b0cdf5b8465a7cc"), looks := true }, kinds := [], alts := [], laidByText := true, laidKinds := [.data, .listed, .data, .pinned], laidTests := true, laidLooks := .later }
def CodeBackUptoCardSaid : Prop := Claim7.holds Tryz.pinned (.plain (OpenSpec.upto codeBackSpec)) codeBackUptoCard

/-- THE SECOND FORM's CARD OF 'bolterlaw25.CodeMay'. -/
def codeMayUptoCard : Claim7 := { stood := { row := codeMayUptoRow, standIns := [], harness := (true, "f41a4afa38f6517077732f4b8c50fe62cf6098d0ba2971e02b0cdf5b8465a7cc"), looks := true }, kinds := [], alts := [], laidByText := true, laidKinds := [.data, .listed, .data, .pinned], laidTests := true, laidLooks := .later }
def CodeMayUptoCardSaid : Prop := Claim7.holds Tryz.pinned (.plain (OpenSpec.upto codeMaySpec)) codeMayUptoCard

/-- THE SECOND FORM's CARD OF 'bolterlaw25.CodeNames'. -/
def codeNamesUptoCard : Claim7 := { stood := { row := codeNamesUptoRow, standIns := [], harness := (true, "f41a4afa38f6517077732f4b8c50fe62cf6098d0ba2971e02b0cdf5b8465a7cc"), looks := true }, kinds := [], alts := [], laidByText := true, laidKinds := [.data, .listed, .data, .pinned], laidTests := true, laidLooks := .later }
def CodeNamesUptoCardSaid : Prop := Claim7.holds Tryz.pinned (.plain (OpenSpec.upto codeNamesSpec)) codeNamesUptoCard

/-- THE SECOND FORM's CARD OF 'bolterlaw25.CodeOwn'. -/
def codeOwnUptoCard : Claim7 := { stood := { row := codeOwnUptoRow, standIns := [], harness := (true, "f41a4afa38f6517077732f4b8c50fe62cf6098d0ba2971e02b0cdf5b8465a7cc"), looks := true }, kinds := [], alts := [], laidByText := true, laidKinds := [.data, .listed, .data, .pinned], laidTests := true, laidLooks := .later }
def CodeOwnUptoCardSaid : Prop := Claim7.holds Tryz.pinned (.plain (OpenSpec.upto codeOwnSpec)) codeOwnUptoCard

/-- THE SECOND FORM's CARD OF 'bolterlaw25.CodeTells'. -/
def codeTellsUptoCard : Claim7 := { stood := { row := codeTellsUptoRow, standIns := [], harness := (true, "f41a4afa38f6517077732f4b8c50fe62cf6098d0ba2971e02b0cdf5b8465a7cc"), looks := true }, kinds := [], alts := [], laidByText := true, laidKinds := [.data, .listed, .data, .pinned], laidTests := true, laidLooks := .later }
def CodeTellsUptoCardSaid : Prop := Claim7.holds Tryz.pinned (.plain (OpenSpec.upto codeTellsSpec)) codeTellsUptoCard
end Rows
end Go.Proofs.YtplbncajfignlaaGreatDoor
