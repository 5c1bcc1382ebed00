/-
  DERIVED. GIVEN WITH THE SEED: THE CARDS: each row of YtpefhoohfkeflabGreatDoorRows.lean that lists a variable, with what it lists TIED to the program's text (the seventh form; the later family's looks); each row that meets fmt, with fmt's text TOLD by the authors' own Lean function (tested against real Go, not proved from fmt's source: count such statements apart). THE CARD IS WHAT COUNTS. Prove the row's statement (the work); the ties are given (YtpefhoohfkeflabGreatDoorTie.lean); close each card by the builder's one call (the guide's Derived/Test/ToyasCard.lean, 'card_holds'). Laid BY PROGRAM, IN A SANDBOX (cutbox-door.mjs). By AI agents, Wed Nov 11 2026. No macro, syntax, notation, axiom, sorry.
-/
import Derived.Test.YtpefhoohfkeflabGreatDoorRows
import GoSem.ClaimSeven
namespace Go.Proofs.YtpefhoohfkeflabGreatDoor
namespace Rows

/-- THE TIED CARD OF 'laws.FnExecuteUnknown'. -/
def fnExecuteUnknownCard : Claim7 := { stood := { row := fnExecuteUnknownRow, standIns := [], harness := (true, "15de823a3729f3b303fcfa19292f4753d820a7614ab2c51ef737a0ab4aaddcf3"), looks := true }, kinds := [], alts := [], laidByText := true, laidKinds := [.data, .data, .data, .data, .sentinel, .sentinel, .sentinel, .pinned], laidTests := true, laidLooks := .later }
def FnExecuteUnknownCardSaid : Prop := Claim7.holds Tryz.pinned (.plain (OpenSpec.ofChange fnExecuteUnknownSpec)) fnExecuteUnknownCard

/-- THE TIED CARD OF 'laws.FnExecuteCalm'. -/
def fnExecuteCalmCard : Claim7 := { stood := { row := fnExecuteCalmRow, standIns := [], harness := (true, "15de823a3729f3b303fcfa19292f4753d820a7614ab2c51ef737a0ab4aaddcf3"), looks := true }, kinds := [], alts := [], laidByText := true, laidKinds := [.data, .data, .data, .data, .sentinel, .sentinel, .sentinel, .pinned], laidTests := true, laidLooks := .later }
def FnExecuteCalmCardSaid : Prop := Claim7.holds Tryz.pinned (.plain (OpenSpec.ofChange fnExecuteCalmSpec)) fnExecuteCalmCard

/-- THE TIED CARD OF 'laws.FnExecuteEmpty'. -/
def fnExecuteEmptyCard : Claim7 := { stood := { row := fnExecuteEmptyRow, standIns := [], harness := (true, "15de823a3729f3b303fcfa19292f4753d820a7614ab2c51ef737a0ab4aaddcf3"), looks := true }, kinds := [], alts := [], laidByText := true, laidKinds := [.data, .data, .data, .data, .sentinel, .sentinel, .sentinel, .pinned], laidTests := true, laidLooks := .later }
def FnExecuteEmptyCardSaid : Prop := Claim7.holds Tryz.pinned (.plain (OpenSpec.ofChange fnExecuteEmptySpec)) fnExecuteEmptyCard

/-- THE SECOND FORM's CARD OF 'laws.FnExecuteUnknown'. -/
def fnExecuteUnknownUptoCard : Claim7 := { stood := { row := fnExecuteUnknownUptoRow, standIns := [], harness := (true, "15de823a3729f3b303fcfa19292f4753d820a7614ab2c51ef737a0ab4aaddcf3"), looks := true }, kinds := [], alts := [], laidByText := true, laidKinds := [.data, .data, .data, .data, .sentinel, .sentinel, .sentinel, .pinned], laidTests := true, laidLooks := .later }
def FnExecuteUnknownUptoCardSaid : Prop := Claim7.holds Tryz.pinned (.plain (OpenSpec.upto fnExecuteUnknownSpec)) fnExecuteUnknownUptoCard

/-- THE SECOND FORM's CARD OF 'laws.FnExecuteCalm'. -/
def fnExecuteCalmUptoCard : Claim7 := { stood := { row := fnExecuteCalmUptoRow, standIns := [], harness := (true, "15de823a3729f3b303fcfa19292f4753d820a7614ab2c51ef737a0ab4aaddcf3"), looks := true }, kinds := [], alts := [], laidByText := true, laidKinds := [.data, .data, .data, .data, .sentinel, .sentinel, .sentinel, .pinned], laidTests := true, laidLooks := .later }
def FnExecuteCalmUptoCardSaid : Prop := Claim7.holds Tryz.pinned (.plain (OpenSpec.upto fnExecuteCalmSpec)) fnExecuteCalmUptoCard

/-- THE SECOND FORM's CARD OF 'laws.FnExecuteEmpty'. -/
def fnExecuteEmptyUptoCard : Claim7 := { stood := { row := fnExecuteEmptyUptoRow, standIns := [], harness := (true, "15de823a3729f3b303fcfa19292f4753d820a7614ab2c51ef737a0ab4aaddcf3"), looks := true }, kinds := [], alts := [], laidByText := true, laidKinds := [.data, .data, .data, .data, .sentinel, .sentinel, .sentinel, .pinned], laidTests := true, laidLooks := .later }
def FnExecuteEmptyUptoCardSaid : Prop := Claim7.holds Tryz.pinned (.plain (OpenSpec.upto fnExecuteEmptySpec)) fnExecuteEmptyUptoCard
end Rows
end Go.Proofs.YtpefhoohfkeflabGreatDoor
