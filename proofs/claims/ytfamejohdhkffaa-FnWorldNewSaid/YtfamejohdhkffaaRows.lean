/-
  No cell of these rows narrows 'for every input' (looked for: loops, veiled, ifaces, maps, wideKeys, modest, calm, conditions, laid).
  DERIVED. THE GIVEN ROWS OF THIS SEAT. 4 by the template 'for every input the law returns true; each argument reads behind the call as it read before'; 0 by the template 'total and deterministic' (their statements: YtfamejohdhkffaaTotals.lean).
  GIVEN WITH THE SEED: the statements are not yours to turn. If you find one false, say at which input.
  Laid BY PROGRAM, IN A SANDBOX (cutbox-rows.mjs): the forced cells as the released guide's own fill.sh prints them over the translation 935227995d8811b6… (all of the seat's roots in one cut). By AI agents, Wed Nov 11 2026. No macro, syntax, notation, axiom, sorry.
-/
import Derived.Test.YtfamejohdhkffaaChecked
import GoSem.Claim
import GoSem.ClaimJoined
import GoSem.ClaimMapViews
import Derived.JoinedTies
import Derived.KernelRfl
namespace Go.Proofs.Ytfamejohdhkffaa
/- THE CELL 'sum', in the pinned program and in every row, IS THE sha256 OF THE DUMP (.gsa) THAT YtfamejohdhkffaaProg.lean LOADS. Nothing in Lean hashes anything: it is a label: what it is worth is what the hold of that sum in a sandbox is worth. -/
noncomputable def Try.pinned : Pinned := { name := "ytfamejohdhkffaa", sum := "935227995d8811b6c7d2ab4b863d9d3cb60569d7e3ba9bd6caad7bab1eaa7d59", checked := Try.checked }
namespace Rows
def none {H : Type} : Left H := { results := [], args := [] }

/-- 'laws.FnWorldNew': WHATEVER THE INPUT: true; the input reads as it did. -/
def fnWorldNewSpec : ChangeSpec := { name := "fnWorldNew", fn := fun _ => fun
  | [d] => { results := [.lit (.bool true)], args := [d] }
  | _ => none }
def fnWorldNewRow : OpenClaim := { program := "ytfamejohdhkffaa", sum := "935227995d8811b6c7d2ab4b863d9d3cb60569d7e3ba9bd6caad7bab1eaa7d59", func := "loop.example/dagconsensus/laws.FnWorldNew", spec := "fnWorldNew", unfollowed := true, recurses := true, apart := false }
def FnWorldNewSaid : Prop := fnWorldNewRow.holds Try.pinned (OpenSpec.ofChange fnWorldNewSpec)

/-- ITS FALSE NEIGHBOUR: 'it returns false'. Refute it at one input. -/
def fnWorldNewWrong : ChangeSpec := { name := "fnWorldNew", fn := fun _ => fun
  | [d] => { results := [.lit (.bool false)], args := [d] }
  | _ => none }
def FnWorldNewWrongFalsely : Prop := fnWorldNewRow.holds Try.pinned (OpenSpec.ofChange fnWorldNewWrong)

/-- 'laws.FnExactWorldNew': WHATEVER THE INPUT: true; the input reads as it did. -/
def fnExactWorldNewSpec : ChangeSpec := { name := "fnExactWorldNew", fn := fun _ => fun
  | [d1, d2, d3] => { results := [.lit (.bool true)], args := [d1, d2, d3] }
  | _ => none }
def fnExactWorldNewRow : OpenClaim := { program := "ytfamejohdhkffaa", sum := "935227995d8811b6c7d2ab4b863d9d3cb60569d7e3ba9bd6caad7bab1eaa7d59", func := "loop.example/dagconsensus/laws.FnExactWorldNew", spec := "fnExactWorldNew", unfollowed := true, recurses := true, apart := false }
def FnExactWorldNewSaid : Prop := fnExactWorldNewRow.holds Try.pinned (OpenSpec.ofChange fnExactWorldNewSpec)

/-- ITS FALSE NEIGHBOUR: 'it returns false'. Refute it at one input. -/
def fnExactWorldNewWrong : ChangeSpec := { name := "fnExactWorldNew", fn := fun _ => fun
  | [d1, d2, d3] => { results := [.lit (.bool false)], args := [d1, d2, d3] }
  | _ => none }
def FnExactWorldNewWrongFalsely : Prop := fnExactWorldNewRow.holds Try.pinned (OpenSpec.ofChange fnExactWorldNewWrong)

/-- 'laws.FnExactWorldValid': WHATEVER THE INPUT: true; the input reads as it did. -/
def fnExactWorldValidSpec : ChangeSpec := { name := "fnExactWorldValid", fn := fun _ => fun
  | [d] => { results := [.lit (.bool true)], args := [d] }
  | _ => none }
def fnExactWorldValidRow : OpenClaim := { program := "ytfamejohdhkffaa", sum := "935227995d8811b6c7d2ab4b863d9d3cb60569d7e3ba9bd6caad7bab1eaa7d59", func := "loop.example/dagconsensus/laws.FnExactWorldValid", spec := "fnExactWorldValid", unfollowed := true, recurses := true, apart := false }
def FnExactWorldValidSaid : Prop := fnExactWorldValidRow.holds Try.pinned (OpenSpec.ofChange fnExactWorldValidSpec)

/-- ITS FALSE NEIGHBOUR: 'it returns false'. Refute it at one input. -/
def fnExactWorldValidWrong : ChangeSpec := { name := "fnExactWorldValid", fn := fun _ => fun
  | [d] => { results := [.lit (.bool false)], args := [d] }
  | _ => none }
def FnExactWorldValidWrongFalsely : Prop := fnExactWorldValidRow.holds Try.pinned (OpenSpec.ofChange fnExactWorldValidWrong)

/-- 'laws.FnExactWorldCertified': WHATEVER THE INPUT: true; the input reads as it did. -/
def fnExactWorldCertifiedSpec : ChangeSpec := { name := "fnExactWorldCertified", fn := fun _ => fun
  | [d] => { results := [.lit (.bool true)], args := [d] }
  | _ => none }
def fnExactWorldCertifiedRow : OpenClaim := { program := "ytfamejohdhkffaa", sum := "935227995d8811b6c7d2ab4b863d9d3cb60569d7e3ba9bd6caad7bab1eaa7d59", func := "loop.example/dagconsensus/laws.FnExactWorldCertified", spec := "fnExactWorldCertified", unfollowed := true, recurses := true, apart := false }
def FnExactWorldCertifiedSaid : Prop := fnExactWorldCertifiedRow.holds Try.pinned (OpenSpec.ofChange fnExactWorldCertifiedSpec)

/-- ITS FALSE NEIGHBOUR: 'it returns false'. Refute it at one input. -/
def fnExactWorldCertifiedWrong : ChangeSpec := { name := "fnExactWorldCertified", fn := fun _ => fun
  | [d] => { results := [.lit (.bool false)], args := [d] }
  | _ => none }
def FnExactWorldCertifiedWrongFalsely : Prop := fnExactWorldCertifiedRow.holds Try.pinned (OpenSpec.ofChange fnExactWorldCertifiedWrong)

/- THE SECOND FORM. 'bulk': how many values and letters a reading holds, each counted each time it is reached (what is shared counts as often as it is met; a slice's spare places count too). A statement '..UptoSaid' is the law's where the arguments, and the package variables that the reading takes, are together of bulk at most 1048576: NARROWER than '..Said'. Prove '..Said' where nothing that the law and all that it calls make is longer than what came in: it says more and counts as full. Else prove '..UptoSaid'. A law counts once. -/
mutual
def uptoBulk {H : Type} : DataW H → Nat
  | .lit (.string bytes) => bytes.length + 1
  | .lit _ => 1
  | .nil => 1
  | .ptr d => uptoBulk d + 1
  | .slice elems spare => uptoBulkAll elems + uptoBulkAll spare + 1
  | .agg parts => uptoBulkAll parts + 1
  | .iface _ d => uptoBulk d + 1
  | .map entries => uptoBulkEntries entries + 1
  | .held _ => 1
def uptoBulkAll {H : Type} : List (DataW H) → Nat
  | [] => 0
  | d :: r => uptoBulk d + uptoBulkAll r
def uptoBulkEntries {H : Type} : List (Lit × DataW H) → Nat
  | [] => 0
  | x :: r => uptoBulkEntry x + uptoBulkEntries r
def uptoBulkEntry {H : Type} : Lit × DataW H → Nat
  | (.string bytes, d) => bytes.length + uptoBulk d + 1
  | (_, d) => uptoBulk d + 1
 end
def uptoSmall : (H : Type) → List (DataW H) → Bool := fun _ ds => decide (uptoBulkAll ds ≤ 1048576)
def OpenSpec.upto (s : _root_.Go.ChangeSpec) : _root_.Go.OpenSpec := { _root_.Go.OpenSpec.ofChange s with cond := some uptoSmall }

/-- 'laws.FnWorldNew', WHERE WHAT IT READS IS OF BULK AT MOST 1048576: true; the input reads as it did. -/
def fnWorldNewUptoRow : OpenClaim := { program := "ytfamejohdhkffaa", sum := "935227995d8811b6c7d2ab4b863d9d3cb60569d7e3ba9bd6caad7bab1eaa7d59", func := "loop.example/dagconsensus/laws.FnWorldNew", spec := "fnWorldNew", unfollowed := true, recurses := true, apart := false, narrowed := true }
def FnWorldNewUptoSaid : Prop := fnWorldNewUptoRow.holds Try.pinned (OpenSpec.upto fnWorldNewSpec)

/-- 'laws.FnExactWorldNew', WHERE WHAT IT READS IS OF BULK AT MOST 1048576: true; the input reads as it did. -/
def fnExactWorldNewUptoRow : OpenClaim := { program := "ytfamejohdhkffaa", sum := "935227995d8811b6c7d2ab4b863d9d3cb60569d7e3ba9bd6caad7bab1eaa7d59", func := "loop.example/dagconsensus/laws.FnExactWorldNew", spec := "fnExactWorldNew", unfollowed := true, recurses := true, apart := false, narrowed := true }
def FnExactWorldNewUptoSaid : Prop := fnExactWorldNewUptoRow.holds Try.pinned (OpenSpec.upto fnExactWorldNewSpec)

/-- 'laws.FnExactWorldValid', WHERE WHAT IT READS IS OF BULK AT MOST 1048576: true; the input reads as it did. -/
def fnExactWorldValidUptoRow : OpenClaim := { program := "ytfamejohdhkffaa", sum := "935227995d8811b6c7d2ab4b863d9d3cb60569d7e3ba9bd6caad7bab1eaa7d59", func := "loop.example/dagconsensus/laws.FnExactWorldValid", spec := "fnExactWorldValid", unfollowed := true, recurses := true, apart := false, narrowed := true }
def FnExactWorldValidUptoSaid : Prop := fnExactWorldValidUptoRow.holds Try.pinned (OpenSpec.upto fnExactWorldValidSpec)

/-- 'laws.FnExactWorldCertified', WHERE WHAT IT READS IS OF BULK AT MOST 1048576: true; the input reads as it did. -/
def fnExactWorldCertifiedUptoRow : OpenClaim := { program := "ytfamejohdhkffaa", sum := "935227995d8811b6c7d2ab4b863d9d3cb60569d7e3ba9bd6caad7bab1eaa7d59", func := "loop.example/dagconsensus/laws.FnExactWorldCertified", spec := "fnExactWorldCertified", unfollowed := true, recurses := true, apart := false, narrowed := true }
def FnExactWorldCertifiedUptoSaid : Prop := fnExactWorldCertifiedUptoRow.holds Try.pinned (OpenSpec.upto fnExactWorldCertifiedSpec)

end Rows
end Go.Proofs.Ytfamejohdhkffaa
