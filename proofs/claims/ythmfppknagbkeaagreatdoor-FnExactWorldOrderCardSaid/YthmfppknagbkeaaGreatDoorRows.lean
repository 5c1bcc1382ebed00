/-
  NARROWER THAN 'FOR EVERY INPUT', by the rows' own cells (each row's printed sentence says how): FnExactWorldOrder: ifaces, laid · FnWorldAgreement: ifaces, laid · FnWorldAvailable: ifaces, laid · FnWorldStable: ifaces, laid · FnWorldCalmKeeps: ifaces, laid.
  DERIVED. THE GIVEN ROWS OF THIS SEAT. 5 by the template 'for every input the law returns true; each argument reads behind the call as it read before'; 0 by the template 'total and deterministic' (their statements: YthmfppknagbkeaaGreatDoorTotals.lean).
  GIVEN WITH THE SEED: the statements are not yours to turn. If you find one false, say at which input.
  Laid BY PROGRAM, IN A SANDBOX (cutbox-rows.mjs): the forced cells as the released guide's own fill.sh prints them over the translation 830923805cf1c0fc… (all of the seat's roots in one cut). By AI agents, Wed Nov 11 2026. No macro, syntax, notation, axiom, sorry.
-/
import Derived.Test.YthmfppknagbkeaaGreatDoorChecked
import GoSem.Claim
import GoSem.ClaimJoined
import GoSem.ClaimMapViews
import Derived.JoinedTies
import Derived.KernelRfl
namespace Go.Proofs.YthmfppknagbkeaaGreatDoor
/- THE CELL 'sum', in the pinned program and in every row, IS THE sha256 OF THE DUMP (.gsa) THAT YthmfppknagbkeaaGreatDoorProg.lean LOADS. Nothing in Lean hashes anything: it is a label: what it is worth is what the hold of that sum in a sandbox is worth. -/
noncomputable def Tryz.pinned : Pinned := { name := "ythmfppknagbkeaagreatdoor", sum := "830923805cf1c0fc7f0a8ee20701da70a109d3da4fa4ab3a227a154d6930fdfa", checked := Tryz.checked }
namespace Rows
def none {H : Type} : Left H := { results := [], args := [] }

/- WHAT THE LISTED PACKAGE-LEVEL VARIABLES READ AS WHEN THE CALL BEGINS. Each datum BY PROGRAM (the guide's laid-datum.mjs) off the statement by which the dump's own 'gosem.cut.vars' lays the variable. In a bare row this is a premise. The card (YthmfppknagbkeaaGreatDoorCards.lean) ties it to the program's text. -/
def laid_loop_example_dagconsensus_impl_errInvalid {H : Type} : DataW H := .iface "*errors.errorString" (.ptr (.agg [.lit (.string [116, 104, 101, 32, 103, 114, 97, 112, 104, 32, 111, 114, 32, 116, 104, 101, 32, 108, 101, 97, 100, 101, 114, 115, 32, 97, 114, 101, 32, 105, 110, 118, 97, 108, 105, 100])]))
def laid_loop_example_dagconsensus_impl_errNoWave {H : Type} : DataW H := .iface "*errors.errorString" (.ptr (.agg [.lit (.string [116, 104, 101, 114, 101, 32, 105, 115, 32, 110, 111, 32, 115, 117, 99, 104, 32, 119, 97, 118, 101])]))
def laid_loop_example_dagconsensus_impl_errNoVertex {H : Type} : DataW H := .iface "*errors.errorString" (.ptr (.agg [.lit (.string [116, 104, 101, 32, 108, 101, 97, 100, 101, 114, 32, 104, 97, 115, 32, 110, 111, 32, 118, 101, 114, 116, 101, 120, 32, 105, 110, 32, 116, 104, 105, 115, 32, 119, 97, 118, 101])]))

/-- 'laws.FnExactWorldOrder': WHATEVER THE INPUT: true; the input reads as it did. -/
def fnExactWorldOrderSpec : ChangeSpec := { name := "fnExactWorldOrder", vars := ["loop.example/dagconsensus/impl.errInvalid", "loop.example/dagconsensus/impl.errNoWave", "loop.example/dagconsensus/impl.errNoVertex"], fn := fun _ => fun
  | [d1, d2, g1, g2, g3] => { results := [.lit (.bool true)], args := [d1, d2], vars := [g1, g2, g3] }
  | _ => none }
def fnExactWorldOrderRow : OpenClaim := { program := "ythmfppknagbkeaagreatdoor", sum := "830923805cf1c0fc7f0a8ee20701da70a109d3da4fa4ab3a227a154d6930fdfa", func := "loop.example/dagconsensus/laws.FnExactWorldOrder", spec := "fnExactWorldOrder", inPlace := ["internal/reflectlite.TypeOf"], unfollowed := true, recurses := true, named := ["loop.example/dagconsensus/impl.errInvalid", "loop.example/dagconsensus/impl.errNoWave", "loop.example/dagconsensus/impl.errNoVertex"], ifaces := true, apart := false, laid := [("loop.example/dagconsensus/impl.errInvalid", laid_loop_example_dagconsensus_impl_errInvalid), ("loop.example/dagconsensus/impl.errNoWave", laid_loop_example_dagconsensus_impl_errNoWave), ("loop.example/dagconsensus/impl.errNoVertex", laid_loop_example_dagconsensus_impl_errNoVertex)] }
def FnExactWorldOrderSaid : Prop := fnExactWorldOrderRow.holds Tryz.pinned (OpenSpec.ofChange fnExactWorldOrderSpec)

/-- ITS FALSE NEIGHBOUR: 'it returns false'. Refute it at one input. -/
def fnExactWorldOrderWrong : ChangeSpec := { name := "fnExactWorldOrder", vars := ["loop.example/dagconsensus/impl.errInvalid", "loop.example/dagconsensus/impl.errNoWave", "loop.example/dagconsensus/impl.errNoVertex"], fn := fun _ => fun
  | [d1, d2, g1, g2, g3] => { results := [.lit (.bool false)], args := [d1, d2], vars := [g1, g2, g3] }
  | _ => none }
def FnExactWorldOrderWrongFalsely : Prop := fnExactWorldOrderRow.holds Tryz.pinned (OpenSpec.ofChange fnExactWorldOrderWrong)

/-- 'laws.FnWorldAgreement': WHATEVER THE INPUT: true; the input reads as it did. -/
def fnWorldAgreementSpec : ChangeSpec := { name := "fnWorldAgreement", vars := ["loop.example/dagconsensus/impl.errInvalid", "loop.example/dagconsensus/impl.errNoWave", "loop.example/dagconsensus/impl.errNoVertex"], fn := fun _ => fun
  | [d, g1, g2, g3] => { results := [.lit (.bool true)], args := [d], vars := [g1, g2, g3] }
  | _ => none }
def fnWorldAgreementRow : OpenClaim := { program := "ythmfppknagbkeaagreatdoor", sum := "830923805cf1c0fc7f0a8ee20701da70a109d3da4fa4ab3a227a154d6930fdfa", func := "loop.example/dagconsensus/laws.FnWorldAgreement", spec := "fnWorldAgreement", inPlace := ["(*internal/sync.Mutex).Lock", "internal/race.Disable", "sync/atomic.CompareAndSwapInt32", "internal/race.Enable", "internal/race.Acquire", "(*internal/sync.Mutex).lockSlow", "internal/sync.runtime_canSpin", "internal/sync.runtime_doSpin", "internal/sync.throw", "internal/sync.runtime_nanotime", "internal/sync.runtime_SemacquireMutex", "sync/atomic.AddInt32", "(*internal/sync.Mutex).Unlock", "internal/race.ReleaseMerge", "(*internal/sync.Mutex).unlockSlow", "internal/sync.fatal", "internal/sync.runtime_Semrelease", "slices.overlaps[int]", "internal/reflectlite.TypeOf"], unfollowed := true, recurses := true, named := ["loop.example/dagconsensus/impl.errInvalid", "loop.example/dagconsensus/impl.errNoWave", "loop.example/dagconsensus/impl.errNoVertex"], ifaces := true, apart := false, laid := [("loop.example/dagconsensus/impl.errInvalid", laid_loop_example_dagconsensus_impl_errInvalid), ("loop.example/dagconsensus/impl.errNoWave", laid_loop_example_dagconsensus_impl_errNoWave), ("loop.example/dagconsensus/impl.errNoVertex", laid_loop_example_dagconsensus_impl_errNoVertex)] }
def FnWorldAgreementSaid : Prop := fnWorldAgreementRow.holds Tryz.pinned (OpenSpec.ofChange fnWorldAgreementSpec)

/-- ITS FALSE NEIGHBOUR: 'it returns false'. Refute it at one input. -/
def fnWorldAgreementWrong : ChangeSpec := { name := "fnWorldAgreement", vars := ["loop.example/dagconsensus/impl.errInvalid", "loop.example/dagconsensus/impl.errNoWave", "loop.example/dagconsensus/impl.errNoVertex"], fn := fun _ => fun
  | [d, g1, g2, g3] => { results := [.lit (.bool false)], args := [d], vars := [g1, g2, g3] }
  | _ => none }
def FnWorldAgreementWrongFalsely : Prop := fnWorldAgreementRow.holds Tryz.pinned (OpenSpec.ofChange fnWorldAgreementWrong)

/-- 'laws.FnWorldAvailable': WHATEVER THE INPUT: true; the input reads as it did. -/
def fnWorldAvailableSpec : ChangeSpec := { name := "fnWorldAvailable", vars := ["loop.example/dagconsensus/impl.errInvalid", "loop.example/dagconsensus/impl.errNoWave", "loop.example/dagconsensus/impl.errNoVertex"], fn := fun _ => fun
  | [d, g1, g2, g3] => { results := [.lit (.bool true)], args := [d], vars := [g1, g2, g3] }
  | _ => none }
def fnWorldAvailableRow : OpenClaim := { program := "ythmfppknagbkeaagreatdoor", sum := "830923805cf1c0fc7f0a8ee20701da70a109d3da4fa4ab3a227a154d6930fdfa", func := "loop.example/dagconsensus/laws.FnWorldAvailable", spec := "fnWorldAvailable", inPlace := ["(*internal/sync.Mutex).Lock", "internal/race.Disable", "sync/atomic.CompareAndSwapInt32", "internal/race.Enable", "internal/race.Acquire", "(*internal/sync.Mutex).lockSlow", "internal/sync.runtime_canSpin", "internal/sync.runtime_doSpin", "internal/sync.throw", "internal/sync.runtime_nanotime", "internal/sync.runtime_SemacquireMutex", "sync/atomic.AddInt32", "(*internal/sync.Mutex).Unlock", "internal/race.ReleaseMerge", "(*internal/sync.Mutex).unlockSlow", "internal/sync.fatal", "internal/sync.runtime_Semrelease", "slices.overlaps[int]", "internal/reflectlite.TypeOf"], unfollowed := true, recurses := true, named := ["loop.example/dagconsensus/impl.errInvalid", "loop.example/dagconsensus/impl.errNoWave", "loop.example/dagconsensus/impl.errNoVertex"], ifaces := true, apart := false, laid := [("loop.example/dagconsensus/impl.errInvalid", laid_loop_example_dagconsensus_impl_errInvalid), ("loop.example/dagconsensus/impl.errNoWave", laid_loop_example_dagconsensus_impl_errNoWave), ("loop.example/dagconsensus/impl.errNoVertex", laid_loop_example_dagconsensus_impl_errNoVertex)] }
def FnWorldAvailableSaid : Prop := fnWorldAvailableRow.holds Tryz.pinned (OpenSpec.ofChange fnWorldAvailableSpec)

/-- ITS FALSE NEIGHBOUR: 'it returns false'. Refute it at one input. -/
def fnWorldAvailableWrong : ChangeSpec := { name := "fnWorldAvailable", vars := ["loop.example/dagconsensus/impl.errInvalid", "loop.example/dagconsensus/impl.errNoWave", "loop.example/dagconsensus/impl.errNoVertex"], fn := fun _ => fun
  | [d, g1, g2, g3] => { results := [.lit (.bool false)], args := [d], vars := [g1, g2, g3] }
  | _ => none }
def FnWorldAvailableWrongFalsely : Prop := fnWorldAvailableRow.holds Tryz.pinned (OpenSpec.ofChange fnWorldAvailableWrong)

/-- 'laws.FnWorldStable': WHATEVER THE INPUT: true; the input reads as it did. -/
def fnWorldStableSpec : ChangeSpec := { name := "fnWorldStable", vars := ["loop.example/dagconsensus/impl.errInvalid", "loop.example/dagconsensus/impl.errNoWave", "loop.example/dagconsensus/impl.errNoVertex"], fn := fun _ => fun
  | [d, g1, g2, g3] => { results := [.lit (.bool true)], args := [d], vars := [g1, g2, g3] }
  | _ => none }
def fnWorldStableRow : OpenClaim := { program := "ythmfppknagbkeaagreatdoor", sum := "830923805cf1c0fc7f0a8ee20701da70a109d3da4fa4ab3a227a154d6930fdfa", func := "loop.example/dagconsensus/laws.FnWorldStable", spec := "fnWorldStable", inPlace := ["(*internal/sync.Mutex).Lock", "internal/race.Disable", "sync/atomic.CompareAndSwapInt32", "internal/race.Enable", "internal/race.Acquire", "(*internal/sync.Mutex).lockSlow", "internal/sync.runtime_canSpin", "internal/sync.runtime_doSpin", "internal/sync.throw", "internal/sync.runtime_nanotime", "internal/sync.runtime_SemacquireMutex", "sync/atomic.AddInt32", "(*internal/sync.Mutex).Unlock", "internal/race.ReleaseMerge", "(*internal/sync.Mutex).unlockSlow", "internal/sync.fatal", "internal/sync.runtime_Semrelease", "slices.overlaps[int]", "internal/reflectlite.TypeOf"], unfollowed := true, recurses := true, named := ["loop.example/dagconsensus/impl.errInvalid", "loop.example/dagconsensus/impl.errNoWave", "loop.example/dagconsensus/impl.errNoVertex"], ifaces := true, apart := false, laid := [("loop.example/dagconsensus/impl.errInvalid", laid_loop_example_dagconsensus_impl_errInvalid), ("loop.example/dagconsensus/impl.errNoWave", laid_loop_example_dagconsensus_impl_errNoWave), ("loop.example/dagconsensus/impl.errNoVertex", laid_loop_example_dagconsensus_impl_errNoVertex)] }
def FnWorldStableSaid : Prop := fnWorldStableRow.holds Tryz.pinned (OpenSpec.ofChange fnWorldStableSpec)

/-- ITS FALSE NEIGHBOUR: 'it returns false'. Refute it at one input. -/
def fnWorldStableWrong : ChangeSpec := { name := "fnWorldStable", vars := ["loop.example/dagconsensus/impl.errInvalid", "loop.example/dagconsensus/impl.errNoWave", "loop.example/dagconsensus/impl.errNoVertex"], fn := fun _ => fun
  | [d, g1, g2, g3] => { results := [.lit (.bool false)], args := [d], vars := [g1, g2, g3] }
  | _ => none }
def FnWorldStableWrongFalsely : Prop := fnWorldStableRow.holds Tryz.pinned (OpenSpec.ofChange fnWorldStableWrong)

/-- 'laws.FnWorldCalmKeeps': WHATEVER THE INPUT: true; the input reads as it did. -/
def fnWorldCalmKeepsSpec : ChangeSpec := { name := "fnWorldCalmKeeps", vars := ["loop.example/dagconsensus/impl.errInvalid", "loop.example/dagconsensus/impl.errNoWave", "loop.example/dagconsensus/impl.errNoVertex"], fn := fun _ => fun
  | [d, g1, g2, g3] => { results := [.lit (.bool true)], args := [d], vars := [g1, g2, g3] }
  | _ => none }
def fnWorldCalmKeepsRow : OpenClaim := { program := "ythmfppknagbkeaagreatdoor", sum := "830923805cf1c0fc7f0a8ee20701da70a109d3da4fa4ab3a227a154d6930fdfa", func := "loop.example/dagconsensus/laws.FnWorldCalmKeeps", spec := "fnWorldCalmKeeps", inPlace := ["(*internal/sync.Mutex).Lock", "internal/race.Disable", "sync/atomic.CompareAndSwapInt32", "internal/race.Enable", "internal/race.Acquire", "(*internal/sync.Mutex).lockSlow", "internal/sync.runtime_canSpin", "internal/sync.runtime_doSpin", "internal/sync.throw", "internal/sync.runtime_nanotime", "internal/sync.runtime_SemacquireMutex", "sync/atomic.AddInt32", "(*internal/sync.Mutex).Unlock", "internal/race.ReleaseMerge", "(*internal/sync.Mutex).unlockSlow", "internal/sync.fatal", "internal/sync.runtime_Semrelease", "slices.overlaps[int]", "internal/reflectlite.TypeOf"], unfollowed := true, recurses := true, named := ["loop.example/dagconsensus/impl.errInvalid", "loop.example/dagconsensus/impl.errNoWave", "loop.example/dagconsensus/impl.errNoVertex"], ifaces := true, apart := false, laid := [("loop.example/dagconsensus/impl.errInvalid", laid_loop_example_dagconsensus_impl_errInvalid), ("loop.example/dagconsensus/impl.errNoWave", laid_loop_example_dagconsensus_impl_errNoWave), ("loop.example/dagconsensus/impl.errNoVertex", laid_loop_example_dagconsensus_impl_errNoVertex)] }
def FnWorldCalmKeepsSaid : Prop := fnWorldCalmKeepsRow.holds Tryz.pinned (OpenSpec.ofChange fnWorldCalmKeepsSpec)

/-- ITS FALSE NEIGHBOUR: 'it returns false'. Refute it at one input. -/
def fnWorldCalmKeepsWrong : ChangeSpec := { name := "fnWorldCalmKeeps", vars := ["loop.example/dagconsensus/impl.errInvalid", "loop.example/dagconsensus/impl.errNoWave", "loop.example/dagconsensus/impl.errNoVertex"], fn := fun _ => fun
  | [d, g1, g2, g3] => { results := [.lit (.bool false)], args := [d], vars := [g1, g2, g3] }
  | _ => none }
def FnWorldCalmKeepsWrongFalsely : Prop := fnWorldCalmKeepsRow.holds Tryz.pinned (OpenSpec.ofChange fnWorldCalmKeepsWrong)

/- THE SECOND FORM. 'bulk': how many values and letters a reading holds, each counted each time it is reached (what is shared counts as often as it is met; a slice's spare places count too). A statement '..UptoSaid' is the law's where the arguments, and the package variables that the reading takes, are together of bulk at most 1048576: NARROWER than '..Said'. Prove '..Said' where nothing that the law and all that it calls make is longer than what came in: it says more and counts as full. Else prove '..UptoSaid'. A law counts once. -/
mutual
def uptoBulk {H : Type} : DataW H → Nat
  | .lit (.string bytes) => bytes.length + 1
  | .lit _ => 1
  | .nil => 1
  | .ptr d => uptoBulk d + 1
  | .slice elems spare => uptoBulkAll elems + uptoBulkAll spare + 1
  | .agg parts => uptoBulkAll parts + 1
  | .iface _ d => uptoBulk d + 1
  | .map entries => uptoBulkEntries entries + 1
  | .held _ => 1
def uptoBulkAll {H : Type} : List (DataW H) → Nat
  | [] => 0
  | d :: r => uptoBulk d + uptoBulkAll r
def uptoBulkEntries {H : Type} : List (Lit × DataW H) → Nat
  | [] => 0
  | x :: r => uptoBulkEntry x + uptoBulkEntries r
def uptoBulkEntry {H : Type} : Lit × DataW H → Nat
  | (.string bytes, d) => bytes.length + uptoBulk d + 1
  | (_, d) => uptoBulk d + 1
 end
def uptoSmall : (H : Type) → List (DataW H) → Bool := fun _ ds => decide (uptoBulkAll ds ≤ 1048576)
def OpenSpec.upto (s : _root_.Go.ChangeSpec) : _root_.Go.OpenSpec := { _root_.Go.OpenSpec.ofChange s with cond := some uptoSmall }

/-- 'laws.FnExactWorldOrder', WHERE WHAT IT READS IS OF BULK AT MOST 1048576: true; the input reads as it did. -/
def fnExactWorldOrderUptoRow : OpenClaim := { program := "ythmfppknagbkeaagreatdoor", sum := "830923805cf1c0fc7f0a8ee20701da70a109d3da4fa4ab3a227a154d6930fdfa", func := "loop.example/dagconsensus/laws.FnExactWorldOrder", spec := "fnExactWorldOrder", inPlace := ["internal/reflectlite.TypeOf"], unfollowed := true, recurses := true, named := ["loop.example/dagconsensus/impl.errInvalid", "loop.example/dagconsensus/impl.errNoWave", "loop.example/dagconsensus/impl.errNoVertex"], ifaces := true, apart := false, laid := [("loop.example/dagconsensus/impl.errInvalid", laid_loop_example_dagconsensus_impl_errInvalid), ("loop.example/dagconsensus/impl.errNoWave", laid_loop_example_dagconsensus_impl_errNoWave), ("loop.example/dagconsensus/impl.errNoVertex", laid_loop_example_dagconsensus_impl_errNoVertex)], narrowed := true }
def FnExactWorldOrderUptoSaid : Prop := fnExactWorldOrderUptoRow.holds Tryz.pinned (OpenSpec.upto fnExactWorldOrderSpec)

/-- 'laws.FnWorldAgreement', WHERE WHAT IT READS IS OF BULK AT MOST 1048576: true; the input reads as it did. -/
def fnWorldAgreementUptoRow : OpenClaim := { program := "ythmfppknagbkeaagreatdoor", sum := "830923805cf1c0fc7f0a8ee20701da70a109d3da4fa4ab3a227a154d6930fdfa", func := "loop.example/dagconsensus/laws.FnWorldAgreement", spec := "fnWorldAgreement", inPlace := ["(*internal/sync.Mutex).Lock", "internal/race.Disable", "sync/atomic.CompareAndSwapInt32", "internal/race.Enable", "internal/race.Acquire", "(*internal/sync.Mutex).lockSlow", "internal/sync.runtime_canSpin", "internal/sync.runtime_doSpin", "internal/sync.throw", "internal/sync.runtime_nanotime", "internal/sync.runtime_SemacquireMutex", "sync/atomic.AddInt32", "(*internal/sync.Mutex).Unlock", "internal/race.ReleaseMerge", "(*internal/sync.Mutex).unlockSlow", "internal/sync.fatal", "internal/sync.runtime_Semrelease", "slices.overlaps[int]", "internal/reflectlite.TypeOf"], unfollowed := true, recurses := true, named := ["loop.example/dagconsensus/impl.errInvalid", "loop.example/dagconsensus/impl.errNoWave", "loop.example/dagconsensus/impl.errNoVertex"], ifaces := true, apart := false, laid := [("loop.example/dagconsensus/impl.errInvalid", laid_loop_example_dagconsensus_impl_errInvalid), ("loop.example/dagconsensus/impl.errNoWave", laid_loop_example_dagconsensus_impl_errNoWave), ("loop.example/dagconsensus/impl.errNoVertex", laid_loop_example_dagconsensus_impl_errNoVertex)], narrowed := true }
def FnWorldAgreementUptoSaid : Prop := fnWorldAgreementUptoRow.holds Tryz.pinned (OpenSpec.upto fnWorldAgreementSpec)

/-- 'laws.FnWorldAvailable', WHERE WHAT IT READS IS OF BULK AT MOST 1048576: true; the input reads as it did. -/
def fnWorldAvailableUptoRow : OpenClaim := { program := "ythmfppknagbkeaagreatdoor", sum := "830923805cf1c0fc7f0a8ee20701da70a109d3da4fa4ab3a227a154d6930fdfa", func := "loop.example/dagconsensus/laws.FnWorldAvailable", spec := "fnWorldAvailable", inPlace := ["(*internal/sync.Mutex).Lock", "internal/race.Disable", "sync/atomic.CompareAndSwapInt32", "internal/race.Enable", "internal/race.Acquire", "(*internal/sync.Mutex).lockSlow", "internal/sync.runtime_canSpin", "internal/sync.runtime_doSpin", "internal/sync.throw", "internal/sync.runtime_nanotime", "internal/sync.runtime_SemacquireMutex", "sync/atomic.AddInt32", "(*internal/sync.Mutex).Unlock", "internal/race.ReleaseMerge", "(*internal/sync.Mutex).unlockSlow", "internal/sync.fatal", "internal/sync.runtime_Semrelease", "slices.overlaps[int]", "internal/reflectlite.TypeOf"], unfollowed := true, recurses := true, named := ["loop.example/dagconsensus/impl.errInvalid", "loop.example/dagconsensus/impl.errNoWave", "loop.example/dagconsensus/impl.errNoVertex"], ifaces := true, apart := false, laid := [("loop.example/dagconsensus/impl.errInvalid", laid_loop_example_dagconsensus_impl_errInvalid), ("loop.example/dagconsensus/impl.errNoWave", laid_loop_example_dagconsensus_impl_errNoWave), ("loop.example/dagconsensus/impl.errNoVertex", laid_loop_example_dagconsensus_impl_errNoVertex)], narrowed := true }
def FnWorldAvailableUptoSaid : Prop := fnWorldAvailableUptoRow.holds Tryz.pinned (OpenSpec.upto fnWorldAvailableSpec)

/-- 'laws.FnWorldStable', WHERE WHAT IT READS IS OF BULK AT MOST 1048576: true; the input reads as it did. -/
def fnWorldStableUptoRow : OpenClaim := { program := "ythmfppknagbkeaagreatdoor", sum := "830923805cf1c0fc7f0a8ee20701da70a109d3da4fa4ab3a227a154d6930fdfa", func := "loop.example/dagconsensus/laws.FnWorldStable", spec := "fnWorldStable", inPlace := ["(*internal/sync.Mutex).Lock", "internal/race.Disable", "sync/atomic.CompareAndSwapInt32", "internal/race.Enable", "internal/race.Acquire", "(*internal/sync.Mutex).lockSlow", "internal/sync.runtime_canSpin", "internal/sync.runtime_doSpin", "internal/sync.throw", "internal/sync.runtime_nanotime", "internal/sync.runtime_SemacquireMutex", "sync/atomic.AddInt32", "(*internal/sync.Mutex).Unlock", "internal/race.ReleaseMerge", "(*internal/sync.Mutex).unlockSlow", "internal/sync.fatal", "internal/sync.runtime_Semrelease", "slices.overlaps[int]", "internal/reflectlite.TypeOf"], unfollowed := true, recurses := true, named := ["loop.example/dagconsensus/impl.errInvalid", "loop.example/dagconsensus/impl.errNoWave", "loop.example/dagconsensus/impl.errNoVertex"], ifaces := true, apart := false, laid := [("loop.example/dagconsensus/impl.errInvalid", laid_loop_example_dagconsensus_impl_errInvalid), ("loop.example/dagconsensus/impl.errNoWave", laid_loop_example_dagconsensus_impl_errNoWave), ("loop.example/dagconsensus/impl.errNoVertex", laid_loop_example_dagconsensus_impl_errNoVertex)], narrowed := true }
def FnWorldStableUptoSaid : Prop := fnWorldStableUptoRow.holds Tryz.pinned (OpenSpec.upto fnWorldStableSpec)

/-- 'laws.FnWorldCalmKeeps', WHERE WHAT IT READS IS OF BULK AT MOST 1048576: true; the input reads as it did. -/
def fnWorldCalmKeepsUptoRow : OpenClaim := { program := "ythmfppknagbkeaagreatdoor", sum := "830923805cf1c0fc7f0a8ee20701da70a109d3da4fa4ab3a227a154d6930fdfa", func := "loop.example/dagconsensus/laws.FnWorldCalmKeeps", spec := "fnWorldCalmKeeps", inPlace := ["(*internal/sync.Mutex).Lock", "internal/race.Disable", "sync/atomic.CompareAndSwapInt32", "internal/race.Enable", "internal/race.Acquire", "(*internal/sync.Mutex).lockSlow", "internal/sync.runtime_canSpin", "internal/sync.runtime_doSpin", "internal/sync.throw", "internal/sync.runtime_nanotime", "internal/sync.runtime_SemacquireMutex", "sync/atomic.AddInt32", "(*internal/sync.Mutex).Unlock", "internal/race.ReleaseMerge", "(*internal/sync.Mutex).unlockSlow", "internal/sync.fatal", "internal/sync.runtime_Semrelease", "slices.overlaps[int]", "internal/reflectlite.TypeOf"], unfollowed := true, recurses := true, named := ["loop.example/dagconsensus/impl.errInvalid", "loop.example/dagconsensus/impl.errNoWave", "loop.example/dagconsensus/impl.errNoVertex"], ifaces := true, apart := false, laid := [("loop.example/dagconsensus/impl.errInvalid", laid_loop_example_dagconsensus_impl_errInvalid), ("loop.example/dagconsensus/impl.errNoWave", laid_loop_example_dagconsensus_impl_errNoWave), ("loop.example/dagconsensus/impl.errNoVertex", laid_loop_example_dagconsensus_impl_errNoVertex)], narrowed := true }
def FnWorldCalmKeepsUptoSaid : Prop := fnWorldCalmKeepsUptoRow.holds Tryz.pinned (OpenSpec.upto fnWorldCalmKeepsSpec)

end Rows
end Go.Proofs.YthmfppknagbkeaaGreatDoor
