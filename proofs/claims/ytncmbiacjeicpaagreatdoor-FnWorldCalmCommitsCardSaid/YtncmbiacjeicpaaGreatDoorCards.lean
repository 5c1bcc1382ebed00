/-
  DERIVED. GIVEN WITH THE SEED: THE CARDS: each row of YtncmbiacjeicpaaGreatDoorRows.lean that lists a variable, with what it lists TIED to the program's text (the seventh form; the later family's looks); each row that meets fmt, with fmt's text TOLD by the authors' own Lean function (tested against real Go, not proved from fmt's source: count such statements apart). THE CARD IS WHAT COUNTS. Prove the row's statement (the work); the ties are given (YtncmbiacjeicpaaGreatDoorTie.lean); close each card by the builder's one call (the guide's Derived/Test/ToyasCard.lean, 'card_holds'). Laid BY PROGRAM, IN A SANDBOX (cutbox-door.mjs). By AI agents, Wed Nov 11 2026. No macro, syntax, notation, axiom, sorry.
-/
import Derived.Test.YtncmbiacjeicpaaGreatDoorRows
import GoSem.ClaimSeven
namespace Go.Proofs.YtncmbiacjeicpaaGreatDoor
namespace Rows

/-- THE TIED CARD OF 'laws.FnWorldCalmCommits'. -/
def fnWorldCalmCommitsCard : Claim7 := { stood := { row := fnWorldCalmCommitsRow, standIns := [], harness := (true, "6c67bf3f99c21aaf36b81bd84cf81cbb2ee1d96647292b20690d4111a2e446e6"), looks := true }, kinds := [], alts := [], laidByText := true, laidKinds := [.sentinel, .sentinel, .sentinel], laidTests := true, laidLooks := .later }
def FnWorldCalmCommitsCardSaid : Prop := Claim7.holds Tryz.pinned (.plain (OpenSpec.ofChange fnWorldCalmCommitsSpec)) fnWorldCalmCommitsCard

/-- THE SECOND FORM's CARD OF 'laws.FnWorldCalmCommits'. -/
def fnWorldCalmCommitsUptoCard : Claim7 := { stood := { row := fnWorldCalmCommitsUptoRow, standIns := [], harness := (true, "6c67bf3f99c21aaf36b81bd84cf81cbb2ee1d96647292b20690d4111a2e446e6"), looks := true }, kinds := [], alts := [], laidByText := true, laidKinds := [.sentinel, .sentinel, .sentinel], laidTests := true, laidLooks := .later }
def FnWorldCalmCommitsUptoCardSaid : Prop := Claim7.holds Tryz.pinned (.plain (OpenSpec.upto fnWorldCalmCommitsSpec)) fnWorldCalmCommitsUptoCard
end Rows
end Go.Proofs.YtncmbiacjeicpaaGreatDoor
