/-
  DERIVED. GIVEN WITH THE SEED: THE CARDS: each row of YtpefhoohfkeflacGreatDoorRows.lean that lists a variable, with what it lists TIED to the program's text (the seventh form; the later family's looks); each row that meets fmt, with fmt's text TOLD by the authors' own Lean function (tested against real Go, not proved from fmt's source: count such statements apart). THE CARD IS WHAT COUNTS. Prove the row's statement (the work); the ties are given (YtpefhoohfkeflacGreatDoorTie.lean); close each card by the builder's one call (the guide's Derived/Test/ToyasCard.lean, 'card_holds'). Laid BY PROGRAM, IN A SANDBOX (cutbox-door.mjs). By AI agents, Wed Nov 11 2026. No macro, syntax, notation, axiom, sorry.
-/
import Derived.Test.YtpefhoohfkeflacGreatDoorRows
import GoSem.ClaimSeven
namespace Go.Proofs.YtpefhoohfkeflacGreatDoor
namespace Rows

/-- THE TIED CARD OF 'laws.FnExecuteTwo'. -/
def fnExecuteTwoCard : Claim7 := { stood := { row := fnExecuteTwoRow, standIns := [], harness := (true, "e9b4968a033d33a8cafb263c5f2c4eb59e2b7017aa17db2a24d895c92b257dea"), looks := true }, kinds := [], alts := [], laidByText := true, laidKinds := [.data, .data, .data, .data, .sentinel, .sentinel, .sentinel, .pinned], laidTests := true, laidLooks := .later }
def FnExecuteTwoCardSaid : Prop := Claim7.holds Tryz.pinned (.plain (OpenSpec.ofChange fnExecuteTwoSpec)) fnExecuteTwoCard

/-- THE TIED CARD OF 'laws.FnExecuteIncomplete'. -/
def fnExecuteIncompleteCard : Claim7 := { stood := { row := fnExecuteIncompleteRow, standIns := [], harness := (true, "e9b4968a033d33a8cafb263c5f2c4eb59e2b7017aa17db2a24d895c92b257dea"), looks := true }, kinds := [], alts := [], laidByText := true, laidKinds := [.data, .data, .data, .data, .sentinel, .sentinel, .sentinel, .pinned], laidTests := true, laidLooks := .later }
def FnExecuteIncompleteCardSaid : Prop := Claim7.holds Tryz.pinned (.plain (OpenSpec.ofChange fnExecuteIncompleteSpec)) fnExecuteIncompleteCard

/-- THE TIED CARD OF 'laws.FnExecuteLines'. -/
def fnExecuteLinesCard : Claim7 := { stood := { row := fnExecuteLinesRow, standIns := [], harness := (true, "e9b4968a033d33a8cafb263c5f2c4eb59e2b7017aa17db2a24d895c92b257dea"), looks := true }, kinds := [], alts := [], laidByText := true, laidKinds := [.data, .data, .data, .data, .sentinel, .sentinel, .sentinel, .pinned], laidTests := true, laidLooks := .later }
def FnExecuteLinesCardSaid : Prop := Claim7.holds Tryz.pinned (.plain (OpenSpec.ofChange fnExecuteLinesSpec)) fnExecuteLinesCard

/-- THE SECOND FORM's CARD OF 'laws.FnExecuteTwo'. -/
def fnExecuteTwoUptoCard : Claim7 := { stood := { row := fnExecuteTwoUptoRow, standIns := [], harness := (true, "e9b4968a033d33a8cafb263c5f2c4eb59e2b7017aa17db2a24d895c92b257dea"), looks := true }, kinds := [], alts := [], laidByText := true, laidKinds := [.data, .data, .data, .data, .sentinel, .sentinel, .sentinel, .pinned], laidTests := true, laidLooks := .later }
def FnExecuteTwoUptoCardSaid : Prop := Claim7.holds Tryz.pinned (.plain (OpenSpec.upto fnExecuteTwoSpec)) fnExecuteTwoUptoCard

/-- THE SECOND FORM's CARD OF 'laws.FnExecuteIncomplete'. -/
def fnExecuteIncompleteUptoCard : Claim7 := { stood := { row := fnExecuteIncompleteUptoRow, standIns := [], harness := (true, "e9b4968a033d33a8cafb263c5f2c4eb59e2b7017aa17db2a24d895c92b257dea"), looks := true }, kinds := [], alts := [], laidByText := true, laidKinds := [.data, .data, .data, .data, .sentinel, .sentinel, .sentinel, .pinned], laidTests := true, laidLooks := .later }
def FnExecuteIncompleteUptoCardSaid : Prop := Claim7.holds Tryz.pinned (.plain (OpenSpec.upto fnExecuteIncompleteSpec)) fnExecuteIncompleteUptoCard

/-- THE SECOND FORM's CARD OF 'laws.FnExecuteLines'. -/
def fnExecuteLinesUptoCard : Claim7 := { stood := { row := fnExecuteLinesUptoRow, standIns := [], harness := (true, "e9b4968a033d33a8cafb263c5f2c4eb59e2b7017aa17db2a24d895c92b257dea"), looks := true }, kinds := [], alts := [], laidByText := true, laidKinds := [.data, .data, .data, .data, .sentinel, .sentinel, .sentinel, .pinned], laidTests := true, laidLooks := .later }
def FnExecuteLinesUptoCardSaid : Prop := Claim7.holds Tryz.pinned (.plain (OpenSpec.upto fnExecuteLinesSpec)) fnExecuteLinesUptoCard
end Rows
end Go.Proofs.YtpefhoohfkeflacGreatDoor
