/-
  DERIVED. GIVEN WITH THE SEED: THE CARDS: each row of YtpefhoohfkeflaaGreatDoorRows.lean that lists a variable, with what it lists TIED to the program's text (the seventh form; the later family's looks); each row that meets fmt, with fmt's text TOLD by the authors' own Lean function (tested against real Go, not proved from fmt's source: count such statements apart). THE CARD IS WHAT COUNTS. Prove the row's statement (the work); the ties are given (YtpefhoohfkeflaaGreatDoorTie.lean); close each card by the builder's one call (the guide's Derived/Test/ToyasCard.lean, 'card_holds'). Laid BY PROGRAM, IN A SANDBOX (cutbox-door.mjs). By AI agents, Wed Nov 11 2026. No macro, syntax, notation, axiom, sorry.
-/
import Derived.Test.YtpefhoohfkeflaaGreatDoorRows
import GoSem.ClaimSeven
namespace Go.Proofs.YtpefhoohfkeflaaGreatDoor
namespace Rows

/-- THE TIED CARD OF 'laws.FnExactExecute'. -/
def fnExactExecuteCard : Claim7 := { stood := { row := fnExactExecuteRow, standIns := [], harness := (true, "7745c60f2b841a1e3e0ed497c835e10f14cbcf9316b39fd2794a18a7cc6d23e0"), looks := true }, kinds := [], alts := [], laidByText := true, laidKinds := [.data, .data, .data, .data, .sentinel, .sentinel, .sentinel, .pinned], laidTests := true, laidLooks := .later }
def FnExactExecuteCardSaid : Prop := Claim7.holds Tryz.pinned (.plain (OpenSpec.ofChange fnExactExecuteSpec)) fnExactExecuteCard

/-- THE TIED CARD OF 'laws.FnExecuteAgree'. -/
def fnExecuteAgreeCard : Claim7 := { stood := { row := fnExecuteAgreeRow, standIns := [], harness := (true, "7745c60f2b841a1e3e0ed497c835e10f14cbcf9316b39fd2794a18a7cc6d23e0"), looks := true }, kinds := [], alts := [], laidByText := true, laidKinds := [.data, .data, .data, .data, .sentinel, .sentinel, .sentinel, .pinned], laidTests := true, laidLooks := .later }
def FnExecuteAgreeCardSaid : Prop := Claim7.holds Tryz.pinned (.plain (OpenSpec.ofChange fnExecuteAgreeSpec)) fnExecuteAgreeCard

/-- THE TIED CARD OF 'laws.FnExecuteList'. -/
def fnExecuteListCard : Claim7 := { stood := { row := fnExecuteListRow, standIns := [], harness := (true, "7745c60f2b841a1e3e0ed497c835e10f14cbcf9316b39fd2794a18a7cc6d23e0"), looks := true }, kinds := [], alts := [], laidByText := true, laidKinds := [.data, .data, .data, .data, .sentinel, .sentinel, .sentinel, .pinned], laidTests := true, laidLooks := .later }
def FnExecuteListCardSaid : Prop := Claim7.holds Tryz.pinned (.plain (OpenSpec.ofChange fnExecuteListSpec)) fnExecuteListCard

/-- THE SECOND FORM's CARD OF 'laws.FnExactExecute'. -/
def fnExactExecuteUptoCard : Claim7 := { stood := { row := fnExactExecuteUptoRow, standIns := [], harness := (true, "7745c60f2b841a1e3e0ed497c835e10f14cbcf9316b39fd2794a18a7cc6d23e0"), looks := true }, kinds := [], alts := [], laidByText := true, laidKinds := [.data, .data, .data, .data, .sentinel, .sentinel, .sentinel, .pinned], laidTests := true, laidLooks := .later }
def FnExactExecuteUptoCardSaid : Prop := Claim7.holds Tryz.pinned (.plain (OpenSpec.upto fnExactExecuteSpec)) fnExactExecuteUptoCard

/-- THE SECOND FORM's CARD OF 'laws.FnExecuteAgree'. -/
def fnExecuteAgreeUptoCard : Claim7 := { stood := { row := fnExecuteAgreeUptoRow, standIns := [], harness := (true, "7745c60f2b841a1e3e0ed497c835e10f14cbcf9316b39fd2794a18a7cc6d23e0"), looks := true }, kinds := [], alts := [], laidByText := true, laidKinds := [.data, .data, .data, .data, .sentinel, .sentinel, .sentinel, .pinned], laidTests := true, laidLooks := .later }
def FnExecuteAgreeUptoCardSaid : Prop := Claim7.holds Tryz.pinned (.plain (OpenSpec.upto fnExecuteAgreeSpec)) fnExecuteAgreeUptoCard

/-- THE SECOND FORM's CARD OF 'laws.FnExecuteList'. -/
def fnExecuteListUptoCard : Claim7 := { stood := { row := fnExecuteListUptoRow, standIns := [], harness := (true, "7745c60f2b841a1e3e0ed497c835e10f14cbcf9316b39fd2794a18a7cc6d23e0"), looks := true }, kinds := [], alts := [], laidByText := true, laidKinds := [.data, .data, .data, .data, .sentinel, .sentinel, .sentinel, .pinned], laidTests := true, laidLooks := .later }
def FnExecuteListUptoCardSaid : Prop := Claim7.holds Tryz.pinned (.plain (OpenSpec.upto fnExecuteListSpec)) fnExecuteListUptoCard
end Rows
end Go.Proofs.YtpefhoohfkeflaaGreatDoor
