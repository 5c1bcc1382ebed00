/-
  DERIVED. GIVEN WITH THE SEED: THE CARDS: each row of YthmfppknagbkeaaGreatDoorRows.lean that lists a variable, with what it lists TIED to the program's text (the seventh form; the later family's looks); each row that meets fmt, with fmt's text TOLD by the authors' own Lean function (tested against real Go, not proved from fmt's source: count such statements apart). THE CARD IS WHAT COUNTS. Prove the row's statement (the work); the ties are given (YthmfppknagbkeaaGreatDoorTie.lean); close each card by the builder's one call (the guide's Derived/Test/ToyasCard.lean, 'card_holds'). Laid BY PROGRAM, IN A SANDBOX (cutbox-door.mjs). By AI agents, Wed Nov 11 2026. No macro, syntax, notation, axiom, sorry.
-/
import Derived.Test.YthmfppknagbkeaaGreatDoorRows
import GoSem.ClaimSeven
namespace Go.Proofs.YthmfppknagbkeaaGreatDoor
namespace Rows

/-- THE TIED CARD OF 'laws.FnExactWorldOrder'. -/
def fnExactWorldOrderCard : Claim7 := { stood := { row := fnExactWorldOrderRow, standIns := [], harness := (true, "ec3ece1cf2b85bae85a216483acab2ede4fb2e51c7b0ea5a47be3452cfeb8a68"), looks := true }, kinds := [], alts := [], laidByText := true, laidKinds := [.sentinel, .sentinel, .sentinel], laidTests := true, laidLooks := .later }
def FnExactWorldOrderCardSaid : Prop := Claim7.holds Tryz.pinned (.plain (OpenSpec.ofChange fnExactWorldOrderSpec)) fnExactWorldOrderCard

/-- THE TIED CARD OF 'laws.FnWorldAgreement'. -/
def fnWorldAgreementCard : Claim7 := { stood := { row := fnWorldAgreementRow, standIns := [], harness := (true, "ec3ece1cf2b85bae85a216483acab2ede4fb2e51c7b0ea5a47be3452cfeb8a68"), looks := true }, kinds := [], alts := [], laidByText := true, laidKinds := [.sentinel, .sentinel, .sentinel], laidTests := true, laidLooks := .later }
def FnWorldAgreementCardSaid : Prop := Claim7.holds Tryz.pinned (.plain (OpenSpec.ofChange fnWorldAgreementSpec)) fnWorldAgreementCard

/-- THE TIED CARD OF 'laws.FnWorldAvailable'. -/
def fnWorldAvailableCard : Claim7 := { stood := { row := fnWorldAvailableRow, standIns := [], harness := (true, "ec3ece1cf2b85bae85a216483acab2ede4fb2e51c7b0ea5a47be3452cfeb8a68"), looks := true }, kinds := [], alts := [], laidByText := true, laidKinds := [.sentinel, .sentinel, .sentinel], laidTests := true, laidLooks := .later }
def FnWorldAvailableCardSaid : Prop := Claim7.holds Tryz.pinned (.plain (OpenSpec.ofChange fnWorldAvailableSpec)) fnWorldAvailableCard

/-- THE TIED CARD OF 'laws.FnWorldStable'. -/
def fnWorldStableCard : Claim7 := { stood := { row := fnWorldStableRow, standIns := [], harness := (true, "ec3ece1cf2b85bae85a216483acab2ede4fb2e51c7b0ea5a47be3452cfeb8a68"), looks := true }, kinds := [], alts := [], laidByText := true, laidKinds := [.sentinel, .sentinel, .sentinel], laidTests := true, laidLooks := .later }
def FnWorldStableCardSaid : Prop := Claim7.holds Tryz.pinned (.plain (OpenSpec.ofChange fnWorldStableSpec)) fnWorldStableCard

/-- THE TIED CARD OF 'laws.FnWorldCalmKeeps'. -/
def fnWorldCalmKeepsCard : Claim7 := { stood := { row := fnWorldCalmKeepsRow, standIns := [], harness := (true, "ec3ece1cf2b85bae85a216483acab2ede4fb2e51c7b0ea5a47be3452cfeb8a68"), looks := true }, kinds := [], alts := [], laidByText := true, laidKinds := [.sentinel, .sentinel, .sentinel], laidTests := true, laidLooks := .later }
def FnWorldCalmKeepsCardSaid : Prop := Claim7.holds Tryz.pinned (.plain (OpenSpec.ofChange fnWorldCalmKeepsSpec)) fnWorldCalmKeepsCard

/-- THE SECOND FORM's CARD OF 'laws.FnExactWorldOrder'. -/
def fnExactWorldOrderUptoCard : Claim7 := { stood := { row := fnExactWorldOrderUptoRow, standIns := [], harness := (true, "ec3ece1cf2b85bae85a216483acab2ede4fb2e51c7b0ea5a47be3452cfeb8a68"), looks := true }, kinds := [], alts := [], laidByText := true, laidKinds := [.sentinel, .sentinel, .sentinel], laidTests := true, laidLooks := .later }
def FnExactWorldOrderUptoCardSaid : Prop := Claim7.holds Tryz.pinned (.plain (OpenSpec.upto fnExactWorldOrderSpec)) fnExactWorldOrderUptoCard

/-- THE SECOND FORM's CARD OF 'laws.FnWorldAgreement'. -/
def fnWorldAgreementUptoCard : Claim7 := { stood := { row := fnWorldAgreementUptoRow, standIns := [], harness := (true, "ec3ece1cf2b85bae85a216483acab2ede4fb2e51c7b0ea5a47be3452cfeb8a68"), looks := true }, kinds := [], alts := [], laidByText := true, laidKinds := [.sentinel, .sentinel, .sentinel], laidTests := true, laidLooks := .later }
def FnWorldAgreementUptoCardSaid : Prop := Claim7.holds Tryz.pinned (.plain (OpenSpec.upto fnWorldAgreementSpec)) fnWorldAgreementUptoCard

/-- THE SECOND FORM's CARD OF 'laws.FnWorldAvailable'. -/
def fnWorldAvailableUptoCard : Claim7 := { stood := { row := fnWorldAvailableUptoRow, standIns := [], harness := (true, "ec3ece1cf2b85bae85a216483acab2ede4fb2e51c7b0ea5a47be3452cfeb8a68"), looks := true }, kinds := [], alts := [], laidByText := true, laidKinds := [.sentinel, .sentinel, .sentinel], laidTests := true, laidLooks := .later }
def FnWorldAvailableUptoCardSaid : Prop := Claim7.holds Tryz.pinned (.plain (OpenSpec.upto fnWorldAvailableSpec)) fnWorldAvailableUptoCard

/-- THE SECOND FORM's CARD OF 'laws.FnWorldStable'. -/
def fnWorldStableUptoCard : Claim7 := { stood := { row := fnWorldStableUptoRow, standIns := [], harness := (true, "ec3ece1cf2b85bae85a216483acab2ede4fb2e51c7b0ea5a47be3452cfeb8a68"), looks := true }, kinds := [], alts := [], laidByText := true, laidKinds := [.sentinel, .sentinel, .sentinel], laidTests := true, laidLooks := .later }
def FnWorldStableUptoCardSaid : Prop := Claim7.holds Tryz.pinned (.plain (OpenSpec.upto fnWorldStableSpec)) fnWorldStableUptoCard

/-- THE SECOND FORM's CARD OF 'laws.FnWorldCalmKeeps'. -/
def fnWorldCalmKeepsUptoCard : Claim7 := { stood := { row := fnWorldCalmKeepsUptoRow, standIns := [], harness := (true, "ec3ece1cf2b85bae85a216483acab2ede4fb2e51c7b0ea5a47be3452cfeb8a68"), looks := true }, kinds := [], alts := [], laidByText := true, laidKinds := [.sentinel, .sentinel, .sentinel], laidTests := true, laidLooks := .later }
def FnWorldCalmKeepsUptoCardSaid : Prop := Claim7.holds Tryz.pinned (.plain (OpenSpec.upto fnWorldCalmKeepsSpec)) fnWorldCalmKeepsUptoCard
end Rows
end Go.Proofs.YthmfppknagbkeaaGreatDoor
