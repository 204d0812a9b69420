/-
  DERIVED. GIVEN WITH THE SEED: THE CARDS: each row of YtegdndonafbcdaaGreatDoorRows.lean that lists a variable, with what it lists TIED to the program's text (the seventh form; the later family's looks); each row that meets fmt, with fmt's text TOLD by the authors' own Lean function (tested against real Go, not proved from fmt's source: count such statements apart). THE CARD IS WHAT COUNTS. Prove the row's statement (the work); the ties are given (YtegdndonafbcdaaGreatDoorTie.lean); close each card by the builder's one call (the guide's Derived/Test/ToyasCard.lean, 'card_holds'). Laid BY PROGRAM, IN A SANDBOX (cutbox-door.mjs). By AI agents, Wed Nov 11 2026. No macro, syntax, notation, axiom, sorry.
-/
import Derived.Test.YtegdndonafbcdaaGreatDoorRows
import GoSem.ClaimSeven
namespace Go.Proofs.YtegdndonafbcdaaGreatDoor
namespace Rows

/-- THE TIED CARD OF 'bolterlaw12.KindsFlat'. -/
def kindsFlatCard : Claim7 := { stood := { row := kindsFlatRow, standIns := [], harness := (true, "6c243ba0988adfb9f58a67248babe4e8a6fedd3ea7667420bf884ebfd944461a"), looks := true }, kinds := [], alts := [], laidByText := true, laidKinds := [.data, .pinned], laidTests := true, laidLooks := .later }
def KindsFlatCardSaid : Prop := Claim7.holds Tryz.pinned (.plain (OpenSpec.ofChange kindsFlatSpec)) kindsFlatCard

/-- THE TIED CARD OF 'bolterlaw12.KindsKeys'. -/
def kindsKeysCard : Claim7 := { stood := { row := kindsKeysRow, standIns := [], harness := (true, "6c243ba0988adfb9f58a67248babe4e8a6fedd3ea7667420bf884ebfd944461a"), looks := true }, kinds := [], alts := [], laidByText := true, laidKinds := [.data, .pinned], laidTests := true, laidLooks := .later }
def KindsKeysCardSaid : Prop := Claim7.holds Tryz.pinned (.plain (OpenSpec.ofChange kindsKeysSpec)) kindsKeysCard

/-- THE TIED CARD OF 'bolterlaw12.KindsOwn'. -/
def kindsOwnCard : Claim7 := { stood := { row := kindsOwnRow, standIns := [], harness := (true, "6c243ba0988adfb9f58a67248babe4e8a6fedd3ea7667420bf884ebfd944461a"), looks := true }, kinds := [], alts := [], laidByText := true, laidKinds := [.data, .pinned], laidTests := true, laidLooks := .later }
def KindsOwnCardSaid : Prop := Claim7.holds Tryz.pinned (.plain (OpenSpec.ofChange kindsOwnSpec)) kindsOwnCard

/-- THE TIED CARD OF 'bolterlaw12.KindsContains'. -/
def kindsContainsCard : Claim7 := { stood := { row := kindsContainsRow, standIns := [], harness := (true, "6c243ba0988adfb9f58a67248babe4e8a6fedd3ea7667420bf884ebfd944461a"), looks := true }, kinds := [], alts := [], laidByText := true, laidKinds := [.data, .pinned], laidTests := true, laidLooks := .later }
def KindsContainsCardSaid : Prop := Claim7.holds Tryz.pinned (.plain (OpenSpec.ofChange kindsContainsSpec)) kindsContainsCard

/-- THE TIED CARD OF 'bolterlaw12.KindsTells'. -/
def kindsTellsCard : Claim7 := { stood := { row := kindsTellsRow, standIns := [], harness := (true, "6c243ba0988adfb9f58a67248babe4e8a6fedd3ea7667420bf884ebfd944461a"), looks := true }, kinds := [], alts := [], laidByText := true, laidKinds := [.data, .pinned], laidTests := true, laidLooks := .later }
def KindsTellsCardSaid : Prop := Claim7.holds Tryz.pinned (.plain (OpenSpec.ofChange kindsTellsSpec)) kindsTellsCard

/-- THE TIED CARD OF 'bolterlaw12.KindsBack'. -/
def kindsBackCard : Claim7 := { stood := { row := kindsBackRow, standIns := [], harness := (true, "6c243ba0988adfb9f58a67248babe4e8a6fedd3ea7667420bf884ebfd944461a"), looks := true }, kinds := [], alts := [], laidByText := true, laidKinds := [.data, .pinned], laidTests := true, laidLooks := .later }
def KindsBackCardSaid : Prop := Claim7.holds Tryz.pinned (.plain (OpenSpec.ofChange kindsBackSpec)) kindsBackCard

/-- THE TIED CARD OF 'bolterlaw12.KindsTurns'. -/
def kindsTurnsCard : Claim7 := { stood := { row := kindsTurnsRow, standIns := [], harness := (true, "6c243ba0988adfb9f58a67248babe4e8a6fedd3ea7667420bf884ebfd944461a"), looks := true }, kinds := [], alts := [], laidByText := true, laidKinds := [.data, .pinned], laidTests := true, laidLooks := .later }
def KindsTurnsCardSaid : Prop := Claim7.holds Tryz.pinned (.plain (OpenSpec.ofChange kindsTurnsSpec)) kindsTurnsCard

/-- THE TIED CARD OF 'bolterlaw12.KindsReads'. -/
def kindsReadsCard : Claim7 := { stood := { row := kindsReadsRow, standIns := [], harness := (true, "6c243ba0988adfb9f58a67248babe4e8a6fedd3ea7667420bf884ebfd944461a"), looks := true }, kinds := [], alts := [], laidByText := true, laidKinds := [.data, .pinned], laidTests := true, laidLooks := .later }
def KindsReadsCardSaid : Prop := Claim7.holds Tryz.pinned (.plain (OpenSpec.ofChange kindsReadsSpec)) kindsReadsCard

/-- THE SECOND FORM's CARD OF 'bolterlaw12.KindsFlat'. -/
def kindsFlatUptoCard : Claim7 := { stood := { row := kindsFlatUptoRow, standIns := [], harness := (true, "6c243ba0988adfb9f58a67248babe4e8a6fedd3ea7667420bf884ebfd944461a"), looks := true }, kinds := [], alts := [], laidByText := true, laidKinds := [.data, .pinned], laidTests := true, laidLooks := .later }
def KindsFlatUptoCardSaid : Prop := Claim7.holds Tryz.pinned (.plain (OpenSpec.upto kindsFlatSpec)) kindsFlatUptoCard

/-- THE SECOND FORM's CARD OF 'bolterlaw12.KindsKeys'. -/
def kindsKeysUptoCard : Claim7 := { stood := { row := kindsKeysUptoRow, standIns := [], harness := (true, "6c243ba0988adfb9f58a67248babe4e8a6fedd3ea7667420bf884ebfd944461a"), looks := true }, kinds := [], alts := [], laidByText := true, laidKinds := [.data, .pinned], laidTests := true, laidLooks := .later }
def KindsKeysUptoCardSaid : Prop := Claim7.holds Tryz.pinned (.plain (OpenSpec.upto kindsKeysSpec)) kindsKeysUptoCard

/-- THE SECOND FORM's CARD OF 'bolterlaw12.KindsOwn'. -/
def kindsOwnUptoCard : Claim7 := { stood := { row := kindsOwnUptoRow, standIns := [], harness := (true, "6c243ba0988adfb9f58a67248babe4e8a6fedd3ea7667420bf884ebfd944461a"), looks := true }, kinds := [], alts := [], laidByText := true, laidKinds := [.data, .pinned], laidTests := true, laidLooks := .later }
def KindsOwnUptoCardSaid : Prop := Claim7.holds Tryz.pinned (.plain (OpenSpec.upto kindsOwnSpec)) kindsOwnUptoCard

/-- THE SECOND FORM's CARD OF 'bolterlaw12.KindsContains'. -/
def kindsContainsUptoCard : Claim7 := { stood := { row := kindsContainsUptoRow, standIns := [], harness := (true, "6c243ba0988adfb9f58a67248babe4e8a6fedd3ea7667420bf884ebfd944461a"), looks := true }, kinds := [], alts := [], laidByText := true, laidKinds := [.data, .pinned], laidTests := true, laidLooks := .later }
def KindsContainsUptoCardSaid : Prop := Claim7.holds Tryz.pinned (.plain (OpenSpec.upto kindsContainsSpec)) kindsContainsUptoCard

/-- THE SECOND FORM's CARD OF 'bolterlaw12.KindsTells'. -/
def kindsTellsUptoCard : Claim7 := { stood := { row := kindsTellsUptoRow, standIns := [], harness := (true, "6c243ba0988adfb9f58a67248babe4e8a6fedd3ea7667420bf884ebfd944461a"), looks := true }, kinds := [], alts := [], laidByText := true, laidKinds := [.data, .pinned], laidTests := true, laidLooks := .later }
def KindsTellsUptoCardSaid : Prop := Claim7.holds Tryz.pinned (.plain (OpenSpec.upto kindsTellsSpec)) kindsTellsUptoCard

/-- THE SECOND FORM's CARD OF 'bolterlaw12.KindsBack'. -/
def kindsBackUptoCard : Claim7 := { stood := { row := kindsBackUptoRow, standIns := [], harness := (true, "6c243ba0988adfb9f58a67248babe4e8a6fedd3ea7667420bf884ebfd944461a"), looks := true }, kinds := [], alts := [], laidByText := true, laidKinds := [.data, .pinned], laidTests := true, laidLooks := .later }
def KindsBackUptoCardSaid : Prop := Claim7.holds Tryz.pinned (.plain (OpenSpec.upto kindsBackSpec)) kindsBackUptoCard

/-- THE SECOND FORM's CARD OF 'bolterlaw12.KindsTurns'. -/
def kindsTurnsUptoCard : Claim7 := { stood := { row := kindsTurnsUptoRow, standIns := [], harness := (true, "6c243ba0988adfb9f58a67248babe4e8a6fedd3ea7667420bf884ebfd944461a"), looks := true }, kinds := [], alts := [], laidByText := true, laidKinds := [.data, .pinned], laidTests := true, laidLooks := .later }
def KindsTurnsUptoCardSaid : Prop := Claim7.holds Tryz.pinned (.plain (OpenSpec.upto kindsTurnsSpec)) kindsTurnsUptoCard

/-- THE SECOND FORM's CARD OF 'bolterlaw12.KindsReads'. -/
def kindsReadsUptoCard : Claim7 := { stood := { row := kindsReadsUptoRow, standIns := [], harness := (true, "6c243ba0988adfb9f58a67248babe4e8a6fedd3ea7667420bf884ebfd944461a"), looks := true }, kinds := [], alts := [], laidByText := true, laidKinds := [.data, .pinned], laidTests := true, laidLooks := .later }
def KindsReadsUptoCardSaid : Prop := Claim7.holds Tryz.pinned (.plain (OpenSpec.upto kindsReadsSpec)) kindsReadsUptoCard
end Rows
end Go.Proofs.YtegdndonafbcdaaGreatDoor
