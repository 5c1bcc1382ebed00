/-
  No cell of these rows narrows 'for every input' (looked for: loops, veiled, ifaces, maps, wideKeys, modest, calm, conditions, laid).
  DERIVED. THE GIVEN ROWS OF THIS SEAT. 12 by the template 'for every input the law returns true; each argument reads behind the call as it read before'; 0 by the template 'total and deterministic' (their statements: YticiffgklmjfnaaGreatTotals.lean).
  GIVEN WITH THE SEED: the statements are not yours to turn. If you find one false, say at which input.
  Laid BY PROGRAM, IN A SANDBOX (cutbox-rows.mjs): the forced cells as the released guide's own fill.sh prints them over the translation f58585ddc93a41e7… (all of the seat's roots in one cut). By AI agents, Wed Nov 11 2026. No macro, syntax, notation, axiom, sorry.
-/
import Derived.Test.YticiffgklmjfnaaGreatChecked
import GoSem.Claim
import GoSem.ClaimJoined
import GoSem.ClaimMapViews
import Derived.JoinedTies
import Derived.KernelRfl
namespace Go.Proofs.YticiffgklmjfnaaGreat
/- THE CELL 'sum', in the pinned program and in every row, IS THE sha256 OF THE DUMP (.gsa) THAT YticiffgklmjfnaaGreatProg.lean LOADS. Nothing in Lean hashes anything: it is a label: what it is worth is what the hold of that sum in a sandbox is worth. -/
noncomputable def Tryz.pinned : Pinned := { name := "yticiffgklmjfnaagreat", sum := "f58585ddc93a41e700420a38b323852fa29a41bd7055124521286527a3744db9", checked := Tryz.checked }
namespace Rows
def none {H : Type} : Left H := { results := [], args := [] }

/-- 'laws.FnWorldUnique': WHATEVER THE INPUT: true; the input reads as it did. -/
def fnWorldUniqueSpec : ChangeSpec := { name := "fnWorldUnique", fn := fun _ => fun
  | [d] => { results := [.lit (.bool true)], args := [d] }
  | _ => none }
def fnWorldUniqueRow : OpenClaim := { program := "yticiffgklmjfnaagreat", sum := "f58585ddc93a41e700420a38b323852fa29a41bd7055124521286527a3744db9", func := "loop.example/dagconsensus/laws.FnWorldUnique", spec := "fnWorldUnique", inPlace := ["(*internal/sync.Mutex).Lock", "internal/race.Disable", "sync/atomic.CompareAndSwapInt32", "internal/race.Enable", "internal/race.Acquire", "(*internal/sync.Mutex).lockSlow", "internal/sync.runtime_canSpin", "internal/sync.runtime_doSpin", "internal/sync.throw", "internal/sync.runtime_nanotime", "internal/sync.runtime_SemacquireMutex", "sync/atomic.AddInt32", "(*internal/sync.Mutex).Unlock", "internal/race.ReleaseMerge", "(*internal/sync.Mutex).unlockSlow", "internal/sync.fatal", "internal/sync.runtime_Semrelease", "slices.overlaps[int]"], unfollowed := true, recurses := true, apart := false }
def FnWorldUniqueSaid : Prop := fnWorldUniqueRow.holds Tryz.pinned (OpenSpec.ofChange fnWorldUniqueSpec)

/-- ITS FALSE NEIGHBOUR: 'it returns false'. Refute it at one input. -/
def fnWorldUniqueWrong : ChangeSpec := { name := "fnWorldUnique", fn := fun _ => fun
  | [d] => { results := [.lit (.bool false)], args := [d] }
  | _ => none }
def FnWorldUniqueWrongFalsely : Prop := fnWorldUniqueRow.holds Tryz.pinned (OpenSpec.ofChange fnWorldUniqueWrong)

/-- 'laws.FnWorldViews': WHATEVER THE INPUT: true; the input reads as it did. -/
def fnWorldViewsSpec : ChangeSpec := { name := "fnWorldViews", fn := fun _ => fun
  | [d] => { results := [.lit (.bool true)], args := [d] }
  | _ => none }
def fnWorldViewsRow : OpenClaim := { program := "yticiffgklmjfnaagreat", sum := "f58585ddc93a41e700420a38b323852fa29a41bd7055124521286527a3744db9", func := "loop.example/dagconsensus/laws.FnWorldViews", spec := "fnWorldViews", inPlace := ["(*internal/sync.Mutex).Lock", "internal/race.Disable", "sync/atomic.CompareAndSwapInt32", "internal/race.Enable", "internal/race.Acquire", "(*internal/sync.Mutex).lockSlow", "internal/sync.runtime_canSpin", "internal/sync.runtime_doSpin", "internal/sync.throw", "internal/sync.runtime_nanotime", "internal/sync.runtime_SemacquireMutex", "sync/atomic.AddInt32", "(*internal/sync.Mutex).Unlock", "internal/race.ReleaseMerge", "(*internal/sync.Mutex).unlockSlow", "internal/sync.fatal", "internal/sync.runtime_Semrelease", "slices.overlaps[int]"], unfollowed := true, recurses := true, apart := false }
def FnWorldViewsSaid : Prop := fnWorldViewsRow.holds Tryz.pinned (OpenSpec.ofChange fnWorldViewsSpec)

/-- ITS FALSE NEIGHBOUR: 'it returns false'. Refute it at one input. -/
def fnWorldViewsWrong : ChangeSpec := { name := "fnWorldViews", fn := fun _ => fun
  | [d] => { results := [.lit (.bool false)], args := [d] }
  | _ => none }
def FnWorldViewsWrongFalsely : Prop := fnWorldViewsRow.holds Tryz.pinned (OpenSpec.ofChange fnWorldViewsWrong)

/-- 'laws.FnWorldVoteOnce': WHATEVER THE INPUT: true; the input reads as it did. -/
def fnWorldVoteOnceSpec : ChangeSpec := { name := "fnWorldVoteOnce", fn := fun _ => fun
  | [d] => { results := [.lit (.bool true)], args := [d] }
  | _ => none }
def fnWorldVoteOnceRow : OpenClaim := { program := "yticiffgklmjfnaagreat", sum := "f58585ddc93a41e700420a38b323852fa29a41bd7055124521286527a3744db9", func := "loop.example/dagconsensus/laws.FnWorldVoteOnce", spec := "fnWorldVoteOnce", inPlace := ["(*internal/sync.Mutex).Lock", "internal/race.Disable", "sync/atomic.CompareAndSwapInt32", "internal/race.Enable", "internal/race.Acquire", "(*internal/sync.Mutex).lockSlow", "internal/sync.runtime_canSpin", "internal/sync.runtime_doSpin", "internal/sync.throw", "internal/sync.runtime_nanotime", "internal/sync.runtime_SemacquireMutex", "sync/atomic.AddInt32", "(*internal/sync.Mutex).Unlock", "internal/race.ReleaseMerge", "(*internal/sync.Mutex).unlockSlow", "internal/sync.fatal", "internal/sync.runtime_Semrelease", "slices.overlaps[int]"], unfollowed := true, recurses := true, apart := false }
def FnWorldVoteOnceSaid : Prop := fnWorldVoteOnceRow.holds Tryz.pinned (OpenSpec.ofChange fnWorldVoteOnceSpec)

/-- ITS FALSE NEIGHBOUR: 'it returns false'. Refute it at one input. -/
def fnWorldVoteOnceWrong : ChangeSpec := { name := "fnWorldVoteOnce", fn := fun _ => fun
  | [d] => { results := [.lit (.bool false)], args := [d] }
  | _ => none }
def FnWorldVoteOnceWrongFalsely : Prop := fnWorldVoteOnceRow.holds Tryz.pinned (OpenSpec.ofChange fnWorldVoteOnceWrong)

/-- 'laws.FnWorldConsistent': WHATEVER THE INPUT: true; the input reads as it did. -/
def fnWorldConsistentSpec : ChangeSpec := { name := "fnWorldConsistent", fn := fun _ => fun
  | [d] => { results := [.lit (.bool true)], args := [d] }
  | _ => none }
def fnWorldConsistentRow : OpenClaim := { program := "yticiffgklmjfnaagreat", sum := "f58585ddc93a41e700420a38b323852fa29a41bd7055124521286527a3744db9", func := "loop.example/dagconsensus/laws.FnWorldConsistent", spec := "fnWorldConsistent", inPlace := ["(*internal/sync.Mutex).Lock", "internal/race.Disable", "sync/atomic.CompareAndSwapInt32", "internal/race.Enable", "internal/race.Acquire", "(*internal/sync.Mutex).lockSlow", "internal/sync.runtime_canSpin", "internal/sync.runtime_doSpin", "internal/sync.throw", "internal/sync.runtime_nanotime", "internal/sync.runtime_SemacquireMutex", "sync/atomic.AddInt32", "(*internal/sync.Mutex).Unlock", "internal/race.ReleaseMerge", "(*internal/sync.Mutex).unlockSlow", "internal/sync.fatal", "internal/sync.runtime_Semrelease", "slices.overlaps[int]"], unfollowed := true, recurses := true, apart := false }
def FnWorldConsistentSaid : Prop := fnWorldConsistentRow.holds Tryz.pinned (OpenSpec.ofChange fnWorldConsistentSpec)

/-- ITS FALSE NEIGHBOUR: 'it returns false'. Refute it at one input. -/
def fnWorldConsistentWrong : ChangeSpec := { name := "fnWorldConsistent", fn := fun _ => fun
  | [d] => { results := [.lit (.bool false)], args := [d] }
  | _ => none }
def FnWorldConsistentWrongFalsely : Prop := fnWorldConsistentRow.holds Tryz.pinned (OpenSpec.ofChange fnWorldConsistentWrong)

/-- 'laws.FnWorldForge': WHATEVER THE INPUT: true; the input reads as it did. -/
def fnWorldForgeSpec : ChangeSpec := { name := "fnWorldForge", fn := fun _ => fun
  | [d] => { results := [.lit (.bool true)], args := [d] }
  | _ => none }
def fnWorldForgeRow : OpenClaim := { program := "yticiffgklmjfnaagreat", sum := "f58585ddc93a41e700420a38b323852fa29a41bd7055124521286527a3744db9", func := "loop.example/dagconsensus/laws.FnWorldForge", spec := "fnWorldForge", inPlace := ["(*internal/sync.Mutex).Lock", "internal/race.Disable", "sync/atomic.CompareAndSwapInt32", "internal/race.Enable", "internal/race.Acquire", "(*internal/sync.Mutex).lockSlow", "internal/sync.runtime_canSpin", "internal/sync.runtime_doSpin", "internal/sync.throw", "internal/sync.runtime_nanotime", "internal/sync.runtime_SemacquireMutex", "sync/atomic.AddInt32", "(*internal/sync.Mutex).Unlock", "internal/race.ReleaseMerge", "(*internal/sync.Mutex).unlockSlow", "internal/sync.fatal", "internal/sync.runtime_Semrelease", "slices.overlaps[int]"], unfollowed := true, recurses := true, apart := false }
def FnWorldForgeSaid : Prop := fnWorldForgeRow.holds Tryz.pinned (OpenSpec.ofChange fnWorldForgeSpec)

/-- ITS FALSE NEIGHBOUR: 'it returns false'. Refute it at one input. -/
def fnWorldForgeWrong : ChangeSpec := { name := "fnWorldForge", fn := fun _ => fun
  | [d] => { results := [.lit (.bool false)], args := [d] }
  | _ => none }
def FnWorldForgeWrongFalsely : Prop := fnWorldForgeRow.holds Tryz.pinned (OpenSpec.ofChange fnWorldForgeWrong)

/-- 'laws.FnWorldOthers': WHATEVER THE INPUT: true; the input reads as it did. -/
def fnWorldOthersSpec : ChangeSpec := { name := "fnWorldOthers", fn := fun _ => fun
  | [d] => { results := [.lit (.bool true)], args := [d] }
  | _ => none }
def fnWorldOthersRow : OpenClaim := { program := "yticiffgklmjfnaagreat", sum := "f58585ddc93a41e700420a38b323852fa29a41bd7055124521286527a3744db9", func := "loop.example/dagconsensus/laws.FnWorldOthers", spec := "fnWorldOthers", inPlace := ["(*internal/sync.Mutex).Lock", "internal/race.Disable", "sync/atomic.CompareAndSwapInt32", "internal/race.Enable", "internal/race.Acquire", "(*internal/sync.Mutex).lockSlow", "internal/sync.runtime_canSpin", "internal/sync.runtime_doSpin", "internal/sync.throw", "internal/sync.runtime_nanotime", "internal/sync.runtime_SemacquireMutex", "sync/atomic.AddInt32", "(*internal/sync.Mutex).Unlock", "internal/race.ReleaseMerge", "(*internal/sync.Mutex).unlockSlow", "internal/sync.fatal", "internal/sync.runtime_Semrelease", "slices.overlaps[int]"], unfollowed := true, recurses := true, apart := false }
def FnWorldOthersSaid : Prop := fnWorldOthersRow.holds Tryz.pinned (OpenSpec.ofChange fnWorldOthersSpec)

/-- ITS FALSE NEIGHBOUR: 'it returns false'. Refute it at one input. -/
def fnWorldOthersWrong : ChangeSpec := { name := "fnWorldOthers", fn := fun _ => fun
  | [d] => { results := [.lit (.bool false)], args := [d] }
  | _ => none }
def FnWorldOthersWrongFalsely : Prop := fnWorldOthersRow.holds Tryz.pinned (OpenSpec.ofChange fnWorldOthersWrong)

/-- 'laws.FnWorldRepeat': WHATEVER THE INPUT: true; the input reads as it did. -/
def fnWorldRepeatSpec : ChangeSpec := { name := "fnWorldRepeat", fn := fun _ => fun
  | [d] => { results := [.lit (.bool true)], args := [d] }
  | _ => none }
def fnWorldRepeatRow : OpenClaim := { program := "yticiffgklmjfnaagreat", sum := "f58585ddc93a41e700420a38b323852fa29a41bd7055124521286527a3744db9", func := "loop.example/dagconsensus/laws.FnWorldRepeat", spec := "fnWorldRepeat", inPlace := ["(*internal/sync.Mutex).Lock", "internal/race.Disable", "sync/atomic.CompareAndSwapInt32", "internal/race.Enable", "internal/race.Acquire", "(*internal/sync.Mutex).lockSlow", "internal/sync.runtime_canSpin", "internal/sync.runtime_doSpin", "internal/sync.throw", "internal/sync.runtime_nanotime", "internal/sync.runtime_SemacquireMutex", "sync/atomic.AddInt32", "(*internal/sync.Mutex).Unlock", "internal/race.ReleaseMerge", "(*internal/sync.Mutex).unlockSlow", "internal/sync.fatal", "internal/sync.runtime_Semrelease", "slices.overlaps[int]"], unfollowed := true, recurses := true, apart := false }
def FnWorldRepeatSaid : Prop := fnWorldRepeatRow.holds Tryz.pinned (OpenSpec.ofChange fnWorldRepeatSpec)

/-- ITS FALSE NEIGHBOUR: 'it returns false'. Refute it at one input. -/
def fnWorldRepeatWrong : ChangeSpec := { name := "fnWorldRepeat", fn := fun _ => fun
  | [d] => { results := [.lit (.bool false)], args := [d] }
  | _ => none }
def FnWorldRepeatWrongFalsely : Prop := fnWorldRepeatRow.holds Tryz.pinned (OpenSpec.ofChange fnWorldRepeatWrong)

/-- 'laws.FnWorldUnknown': WHATEVER THE INPUT: true; the input reads as it did. -/
def fnWorldUnknownSpec : ChangeSpec := { name := "fnWorldUnknown", fn := fun _ => fun
  | [d1, d2] => { results := [.lit (.bool true)], args := [d1, d2] }
  | _ => none }
def fnWorldUnknownRow : OpenClaim := { program := "yticiffgklmjfnaagreat", sum := "f58585ddc93a41e700420a38b323852fa29a41bd7055124521286527a3744db9", func := "loop.example/dagconsensus/laws.FnWorldUnknown", spec := "fnWorldUnknown", inPlace := ["(*internal/sync.Mutex).Lock", "internal/race.Disable", "sync/atomic.CompareAndSwapInt32", "internal/race.Enable", "internal/race.Acquire", "(*internal/sync.Mutex).lockSlow", "internal/sync.runtime_canSpin", "internal/sync.runtime_doSpin", "internal/sync.throw", "internal/sync.runtime_nanotime", "internal/sync.runtime_SemacquireMutex", "sync/atomic.AddInt32", "(*internal/sync.Mutex).Unlock", "internal/race.ReleaseMerge", "(*internal/sync.Mutex).unlockSlow", "internal/sync.fatal", "internal/sync.runtime_Semrelease", "slices.overlaps[int]"], unfollowed := true, recurses := true, apart := false }
def FnWorldUnknownSaid : Prop := fnWorldUnknownRow.holds Tryz.pinned (OpenSpec.ofChange fnWorldUnknownSpec)

/-- ITS FALSE NEIGHBOUR: 'it returns false'. Refute it at one input. -/
def fnWorldUnknownWrong : ChangeSpec := { name := "fnWorldUnknown", fn := fun _ => fun
  | [d1, d2] => { results := [.lit (.bool false)], args := [d1, d2] }
  | _ => none }
def FnWorldUnknownWrongFalsely : Prop := fnWorldUnknownRow.holds Tryz.pinned (OpenSpec.ofChange fnWorldUnknownWrong)

/-- 'laws.FnWorldKeeps': WHATEVER THE INPUT: true; the input reads as it did. -/
def fnWorldKeepsSpec : ChangeSpec := { name := "fnWorldKeeps", fn := fun _ => fun
  | [d] => { results := [.lit (.bool true)], args := [d] }
  | _ => none }
def fnWorldKeepsRow : OpenClaim := { program := "yticiffgklmjfnaagreat", sum := "f58585ddc93a41e700420a38b323852fa29a41bd7055124521286527a3744db9", func := "loop.example/dagconsensus/laws.FnWorldKeeps", spec := "fnWorldKeeps", inPlace := ["(*internal/sync.Mutex).Lock", "internal/race.Disable", "sync/atomic.CompareAndSwapInt32", "internal/race.Enable", "internal/race.Acquire", "(*internal/sync.Mutex).lockSlow", "internal/sync.runtime_canSpin", "internal/sync.runtime_doSpin", "internal/sync.throw", "internal/sync.runtime_nanotime", "internal/sync.runtime_SemacquireMutex", "sync/atomic.AddInt32", "(*internal/sync.Mutex).Unlock", "internal/race.ReleaseMerge", "(*internal/sync.Mutex).unlockSlow", "internal/sync.fatal", "internal/sync.runtime_Semrelease", "slices.overlaps[int]"], unfollowed := true, recurses := true, apart := false }
def FnWorldKeepsSaid : Prop := fnWorldKeepsRow.holds Tryz.pinned (OpenSpec.ofChange fnWorldKeepsSpec)

/-- ITS FALSE NEIGHBOUR: 'it returns false'. Refute it at one input. -/
def fnWorldKeepsWrong : ChangeSpec := { name := "fnWorldKeeps", fn := fun _ => fun
  | [d] => { results := [.lit (.bool false)], args := [d] }
  | _ => none }
def FnWorldKeepsWrongFalsely : Prop := fnWorldKeepsRow.holds Tryz.pinned (OpenSpec.ofChange fnWorldKeepsWrong)

/-- 'laws.FnWorldProposals': WHATEVER THE INPUT: true; the input reads as it did. -/
def fnWorldProposalsSpec : ChangeSpec := { name := "fnWorldProposals", fn := fun _ => fun
  | [d] => { results := [.lit (.bool true)], args := [d] }
  | _ => none }
def fnWorldProposalsRow : OpenClaim := { program := "yticiffgklmjfnaagreat", sum := "f58585ddc93a41e700420a38b323852fa29a41bd7055124521286527a3744db9", func := "loop.example/dagconsensus/laws.FnWorldProposals", spec := "fnWorldProposals", inPlace := ["(*internal/sync.Mutex).Lock", "internal/race.Disable", "sync/atomic.CompareAndSwapInt32", "internal/race.Enable", "internal/race.Acquire", "(*internal/sync.Mutex).lockSlow", "internal/sync.runtime_canSpin", "internal/sync.runtime_doSpin", "internal/sync.throw", "internal/sync.runtime_nanotime", "internal/sync.runtime_SemacquireMutex", "sync/atomic.AddInt32", "(*internal/sync.Mutex).Unlock", "internal/race.ReleaseMerge", "(*internal/sync.Mutex).unlockSlow", "internal/sync.fatal", "internal/sync.runtime_Semrelease", "slices.overlaps[int]"], unfollowed := true, recurses := true, apart := false }
def FnWorldProposalsSaid : Prop := fnWorldProposalsRow.holds Tryz.pinned (OpenSpec.ofChange fnWorldProposalsSpec)

/-- ITS FALSE NEIGHBOUR: 'it returns false'. Refute it at one input. -/
def fnWorldProposalsWrong : ChangeSpec := { name := "fnWorldProposals", fn := fun _ => fun
  | [d] => { results := [.lit (.bool false)], args := [d] }
  | _ => none }
def FnWorldProposalsWrongFalsely : Prop := fnWorldProposalsRow.holds Tryz.pinned (OpenSpec.ofChange fnWorldProposalsWrong)

/-- 'laws.FnWorldPlay': WHATEVER THE INPUT: true; the input reads as it did. -/
def fnWorldPlaySpec : ChangeSpec := { name := "fnWorldPlay", fn := fun _ => fun
  | [d1, d2] => { results := [.lit (.bool true)], args := [d1, d2] }
  | _ => none }
def fnWorldPlayRow : OpenClaim := { program := "yticiffgklmjfnaagreat", sum := "f58585ddc93a41e700420a38b323852fa29a41bd7055124521286527a3744db9", func := "loop.example/dagconsensus/laws.FnWorldPlay", spec := "fnWorldPlay", inPlace := ["(*internal/sync.Mutex).Lock", "internal/race.Disable", "sync/atomic.CompareAndSwapInt32", "internal/race.Enable", "internal/race.Acquire", "(*internal/sync.Mutex).lockSlow", "internal/sync.runtime_canSpin", "internal/sync.runtime_doSpin", "internal/sync.throw", "internal/sync.runtime_nanotime", "internal/sync.runtime_SemacquireMutex", "sync/atomic.AddInt32", "(*internal/sync.Mutex).Unlock", "internal/race.ReleaseMerge", "(*internal/sync.Mutex).unlockSlow", "internal/sync.fatal", "internal/sync.runtime_Semrelease", "slices.overlaps[int]"], unfollowed := true, recurses := true, apart := false }
def FnWorldPlaySaid : Prop := fnWorldPlayRow.holds Tryz.pinned (OpenSpec.ofChange fnWorldPlaySpec)

/-- ITS FALSE NEIGHBOUR: 'it returns false'. Refute it at one input. -/
def fnWorldPlayWrong : ChangeSpec := { name := "fnWorldPlay", fn := fun _ => fun
  | [d1, d2] => { results := [.lit (.bool false)], args := [d1, d2] }
  | _ => none }
def FnWorldPlayWrongFalsely : Prop := fnWorldPlayRow.holds Tryz.pinned (OpenSpec.ofChange fnWorldPlayWrong)

/-- 'laws.FnWorldInvalid': WHATEVER THE INPUT: true; the input reads as it did. -/
def fnWorldInvalidSpec : ChangeSpec := { name := "fnWorldInvalid", fn := fun _ => fun
  | [d] => { results := [.lit (.bool true)], args := [d] }
  | _ => none }
def fnWorldInvalidRow : OpenClaim := { program := "yticiffgklmjfnaagreat", sum := "f58585ddc93a41e700420a38b323852fa29a41bd7055124521286527a3744db9", func := "loop.example/dagconsensus/laws.FnWorldInvalid", spec := "fnWorldInvalid", inPlace := ["(*internal/sync.Mutex).Lock", "internal/race.Disable", "sync/atomic.CompareAndSwapInt32", "internal/race.Enable", "internal/race.Acquire", "(*internal/sync.Mutex).lockSlow", "internal/sync.runtime_canSpin", "internal/sync.runtime_doSpin", "internal/sync.throw", "internal/sync.runtime_nanotime", "internal/sync.runtime_SemacquireMutex", "sync/atomic.AddInt32", "(*internal/sync.Mutex).Unlock", "internal/race.ReleaseMerge", "(*internal/sync.Mutex).unlockSlow", "internal/sync.fatal", "internal/sync.runtime_Semrelease", "slices.overlaps[int]"], unfollowed := true, recurses := true, apart := false }
def FnWorldInvalidSaid : Prop := fnWorldInvalidRow.holds Tryz.pinned (OpenSpec.ofChange fnWorldInvalidSpec)

/-- ITS FALSE NEIGHBOUR: 'it returns false'. Refute it at one input. -/
def fnWorldInvalidWrong : ChangeSpec := { name := "fnWorldInvalid", fn := fun _ => fun
  | [d] => { results := [.lit (.bool false)], args := [d] }
  | _ => none }
def FnWorldInvalidWrongFalsely : Prop := fnWorldInvalidRow.holds Tryz.pinned (OpenSpec.ofChange fnWorldInvalidWrong)

/- THE SECOND FORM. 'bulk': how many values and letters a reading holds, each counted each time it is reached (what is shared counts as often as it is met; a slice's spare places count too). A statement '..UptoSaid' is the law's where the arguments, and the package variables that the reading takes, are together of bulk at most 1048576: NARROWER than '..Said'. Prove '..Said' where nothing that the law and all that it calls make is longer than what came in: it says more and counts as full. Else prove '..UptoSaid'. A law counts once. -/
mutual
def uptoBulk {H : Type} : DataW H → Nat
  | .lit (.string bytes) => bytes.length + 1
  | .lit _ => 1
  | .nil => 1
  | .ptr d => uptoBulk d + 1
  | .slice elems spare => uptoBulkAll elems + uptoBulkAll spare + 1
  | .agg parts => uptoBulkAll parts + 1
  | .iface _ d => uptoBulk d + 1
  | .map entries => uptoBulkEntries entries + 1
  | .held _ => 1
def uptoBulkAll {H : Type} : List (DataW H) → Nat
  | [] => 0
  | d :: r => uptoBulk d + uptoBulkAll r
def uptoBulkEntries {H : Type} : List (Lit × DataW H) → Nat
  | [] => 0
  | x :: r => uptoBulkEntry x + uptoBulkEntries r
def uptoBulkEntry {H : Type} : Lit × DataW H → Nat
  | (.string bytes, d) => bytes.length + uptoBulk d + 1
  | (_, d) => uptoBulk d + 1
 end
def uptoSmall : (H : Type) → List (DataW H) → Bool := fun _ ds => decide (uptoBulkAll ds ≤ 1048576)
def OpenSpec.upto (s : _root_.Go.ChangeSpec) : _root_.Go.OpenSpec := { _root_.Go.OpenSpec.ofChange s with cond := some uptoSmall }

/-- 'laws.FnWorldUnique', WHERE WHAT IT READS IS OF BULK AT MOST 1048576: true; the input reads as it did. -/
def fnWorldUniqueUptoRow : OpenClaim := { program := "yticiffgklmjfnaagreat", sum := "f58585ddc93a41e700420a38b323852fa29a41bd7055124521286527a3744db9", func := "loop.example/dagconsensus/laws.FnWorldUnique", spec := "fnWorldUnique", inPlace := ["(*internal/sync.Mutex).Lock", "internal/race.Disable", "sync/atomic.CompareAndSwapInt32", "internal/race.Enable", "internal/race.Acquire", "(*internal/sync.Mutex).lockSlow", "internal/sync.runtime_canSpin", "internal/sync.runtime_doSpin", "internal/sync.throw", "internal/sync.runtime_nanotime", "internal/sync.runtime_SemacquireMutex", "sync/atomic.AddInt32", "(*internal/sync.Mutex).Unlock", "internal/race.ReleaseMerge", "(*internal/sync.Mutex).unlockSlow", "internal/sync.fatal", "internal/sync.runtime_Semrelease", "slices.overlaps[int]"], unfollowed := true, recurses := true, apart := false, narrowed := true }
def FnWorldUniqueUptoSaid : Prop := fnWorldUniqueUptoRow.holds Tryz.pinned (OpenSpec.upto fnWorldUniqueSpec)

/-- 'laws.FnWorldViews', WHERE WHAT IT READS IS OF BULK AT MOST 1048576: true; the input reads as it did. -/
def fnWorldViewsUptoRow : OpenClaim := { program := "yticiffgklmjfnaagreat", sum := "f58585ddc93a41e700420a38b323852fa29a41bd7055124521286527a3744db9", func := "loop.example/dagconsensus/laws.FnWorldViews", spec := "fnWorldViews", inPlace := ["(*internal/sync.Mutex).Lock", "internal/race.Disable", "sync/atomic.CompareAndSwapInt32", "internal/race.Enable", "internal/race.Acquire", "(*internal/sync.Mutex).lockSlow", "internal/sync.runtime_canSpin", "internal/sync.runtime_doSpin", "internal/sync.throw", "internal/sync.runtime_nanotime", "internal/sync.runtime_SemacquireMutex", "sync/atomic.AddInt32", "(*internal/sync.Mutex).Unlock", "internal/race.ReleaseMerge", "(*internal/sync.Mutex).unlockSlow", "internal/sync.fatal", "internal/sync.runtime_Semrelease", "slices.overlaps[int]"], unfollowed := true, recurses := true, apart := false, narrowed := true }
def FnWorldViewsUptoSaid : Prop := fnWorldViewsUptoRow.holds Tryz.pinned (OpenSpec.upto fnWorldViewsSpec)

/-- 'laws.FnWorldVoteOnce', WHERE WHAT IT READS IS OF BULK AT MOST 1048576: true; the input reads as it did. -/
def fnWorldVoteOnceUptoRow : OpenClaim := { program := "yticiffgklmjfnaagreat", sum := "f58585ddc93a41e700420a38b323852fa29a41bd7055124521286527a3744db9", func := "loop.example/dagconsensus/laws.FnWorldVoteOnce", spec := "fnWorldVoteOnce", inPlace := ["(*internal/sync.Mutex).Lock", "internal/race.Disable", "sync/atomic.CompareAndSwapInt32", "internal/race.Enable", "internal/race.Acquire", "(*internal/sync.Mutex).lockSlow", "internal/sync.runtime_canSpin", "internal/sync.runtime_doSpin", "internal/sync.throw", "internal/sync.runtime_nanotime", "internal/sync.runtime_SemacquireMutex", "sync/atomic.AddInt32", "(*internal/sync.Mutex).Unlock", "internal/race.ReleaseMerge", "(*internal/sync.Mutex).unlockSlow", "internal/sync.fatal", "internal/sync.runtime_Semrelease", "slices.overlaps[int]"], unfollowed := true, recurses := true, apart := false, narrowed := true }
def FnWorldVoteOnceUptoSaid : Prop := fnWorldVoteOnceUptoRow.holds Tryz.pinned (OpenSpec.upto fnWorldVoteOnceSpec)

/-- 'laws.FnWorldConsistent', WHERE WHAT IT READS IS OF BULK AT MOST 1048576: true; the input reads as it did. -/
def fnWorldConsistentUptoRow : OpenClaim := { program := "yticiffgklmjfnaagreat", sum := "f58585ddc93a41e700420a38b323852fa29a41bd7055124521286527a3744db9", func := "loop.example/dagconsensus/laws.FnWorldConsistent", spec := "fnWorldConsistent", inPlace := ["(*internal/sync.Mutex).Lock", "internal/race.Disable", "sync/atomic.CompareAndSwapInt32", "internal/race.Enable", "internal/race.Acquire", "(*internal/sync.Mutex).lockSlow", "internal/sync.runtime_canSpin", "internal/sync.runtime_doSpin", "internal/sync.throw", "internal/sync.runtime_nanotime", "internal/sync.runtime_SemacquireMutex", "sync/atomic.AddInt32", "(*internal/sync.Mutex).Unlock", "internal/race.ReleaseMerge", "(*internal/sync.Mutex).unlockSlow", "internal/sync.fatal", "internal/sync.runtime_Semrelease", "slices.overlaps[int]"], unfollowed := true, recurses := true, apart := false, narrowed := true }
def FnWorldConsistentUptoSaid : Prop := fnWorldConsistentUptoRow.holds Tryz.pinned (OpenSpec.upto fnWorldConsistentSpec)

/-- 'laws.FnWorldForge', WHERE WHAT IT READS IS OF BULK AT MOST 1048576: true; the input reads as it did. -/
def fnWorldForgeUptoRow : OpenClaim := { program := "yticiffgklmjfnaagreat", sum := "f58585ddc93a41e700420a38b323852fa29a41bd7055124521286527a3744db9", func := "loop.example/dagconsensus/laws.FnWorldForge", spec := "fnWorldForge", inPlace := ["(*internal/sync.Mutex).Lock", "internal/race.Disable", "sync/atomic.CompareAndSwapInt32", "internal/race.Enable", "internal/race.Acquire", "(*internal/sync.Mutex).lockSlow", "internal/sync.runtime_canSpin", "internal/sync.runtime_doSpin", "internal/sync.throw", "internal/sync.runtime_nanotime", "internal/sync.runtime_SemacquireMutex", "sync/atomic.AddInt32", "(*internal/sync.Mutex).Unlock", "internal/race.ReleaseMerge", "(*internal/sync.Mutex).unlockSlow", "internal/sync.fatal", "internal/sync.runtime_Semrelease", "slices.overlaps[int]"], unfollowed := true, recurses := true, apart := false, narrowed := true }
def FnWorldForgeUptoSaid : Prop := fnWorldForgeUptoRow.holds Tryz.pinned (OpenSpec.upto fnWorldForgeSpec)

/-- 'laws.FnWorldOthers', WHERE WHAT IT READS IS OF BULK AT MOST 1048576: true; the input reads as it did. -/
def fnWorldOthersUptoRow : OpenClaim := { program := "yticiffgklmjfnaagreat", sum := "f58585ddc93a41e700420a38b323852fa29a41bd7055124521286527a3744db9", func := "loop.example/dagconsensus/laws.FnWorldOthers", spec := "fnWorldOthers", inPlace := ["(*internal/sync.Mutex).Lock", "internal/race.Disable", "sync/atomic.CompareAndSwapInt32", "internal/race.Enable", "internal/race.Acquire", "(*internal/sync.Mutex).lockSlow", "internal/sync.runtime_canSpin", "internal/sync.runtime_doSpin", "internal/sync.throw", "internal/sync.runtime_nanotime", "internal/sync.runtime_SemacquireMutex", "sync/atomic.AddInt32", "(*internal/sync.Mutex).Unlock", "internal/race.ReleaseMerge", "(*internal/sync.Mutex).unlockSlow", "internal/sync.fatal", "internal/sync.runtime_Semrelease", "slices.overlaps[int]"], unfollowed := true, recurses := true, apart := false, narrowed := true }
def FnWorldOthersUptoSaid : Prop := fnWorldOthersUptoRow.holds Tryz.pinned (OpenSpec.upto fnWorldOthersSpec)

/-- 'laws.FnWorldRepeat', WHERE WHAT IT READS IS OF BULK AT MOST 1048576: true; the input reads as it did. -/
def fnWorldRepeatUptoRow : OpenClaim := { program := "yticiffgklmjfnaagreat", sum := "f58585ddc93a41e700420a38b323852fa29a41bd7055124521286527a3744db9", func := "loop.example/dagconsensus/laws.FnWorldRepeat", spec := "fnWorldRepeat", inPlace := ["(*internal/sync.Mutex).Lock", "internal/race.Disable", "sync/atomic.CompareAndSwapInt32", "internal/race.Enable", "internal/race.Acquire", "(*internal/sync.Mutex).lockSlow", "internal/sync.runtime_canSpin", "internal/sync.runtime_doSpin", "internal/sync.throw", "internal/sync.runtime_nanotime", "internal/sync.runtime_SemacquireMutex", "sync/atomic.AddInt32", "(*internal/sync.Mutex).Unlock", "internal/race.ReleaseMerge", "(*internal/sync.Mutex).unlockSlow", "internal/sync.fatal", "internal/sync.runtime_Semrelease", "slices.overlaps[int]"], unfollowed := true, recurses := true, apart := false, narrowed := true }
def FnWorldRepeatUptoSaid : Prop := fnWorldRepeatUptoRow.holds Tryz.pinned (OpenSpec.upto fnWorldRepeatSpec)

/-- 'laws.FnWorldUnknown', WHERE WHAT IT READS IS OF BULK AT MOST 1048576: true; the input reads as it did. -/
def fnWorldUnknownUptoRow : OpenClaim := { program := "yticiffgklmjfnaagreat", sum := "f58585ddc93a41e700420a38b323852fa29a41bd7055124521286527a3744db9", func := "loop.example/dagconsensus/laws.FnWorldUnknown", spec := "fnWorldUnknown", inPlace := ["(*internal/sync.Mutex).Lock", "internal/race.Disable", "sync/atomic.CompareAndSwapInt32", "internal/race.Enable", "internal/race.Acquire", "(*internal/sync.Mutex).lockSlow", "internal/sync.runtime_canSpin", "internal/sync.runtime_doSpin", "internal/sync.throw", "internal/sync.runtime_nanotime", "internal/sync.runtime_SemacquireMutex", "sync/atomic.AddInt32", "(*internal/sync.Mutex).Unlock", "internal/race.ReleaseMerge", "(*internal/sync.Mutex).unlockSlow", "internal/sync.fatal", "internal/sync.runtime_Semrelease", "slices.overlaps[int]"], unfollowed := true, recurses := true, apart := false, narrowed := true }
def FnWorldUnknownUptoSaid : Prop := fnWorldUnknownUptoRow.holds Tryz.pinned (OpenSpec.upto fnWorldUnknownSpec)

/-- 'laws.FnWorldKeeps', WHERE WHAT IT READS IS OF BULK AT MOST 1048576: true; the input reads as it did. -/
def fnWorldKeepsUptoRow : OpenClaim := { program := "yticiffgklmjfnaagreat", sum := "f58585ddc93a41e700420a38b323852fa29a41bd7055124521286527a3744db9", func := "loop.example/dagconsensus/laws.FnWorldKeeps", spec := "fnWorldKeeps", inPlace := ["(*internal/sync.Mutex).Lock", "internal/race.Disable", "sync/atomic.CompareAndSwapInt32", "internal/race.Enable", "internal/race.Acquire", "(*internal/sync.Mutex).lockSlow", "internal/sync.runtime_canSpin", "internal/sync.runtime_doSpin", "internal/sync.throw", "internal/sync.runtime_nanotime", "internal/sync.runtime_SemacquireMutex", "sync/atomic.AddInt32", "(*internal/sync.Mutex).Unlock", "internal/race.ReleaseMerge", "(*internal/sync.Mutex).unlockSlow", "internal/sync.fatal", "internal/sync.runtime_Semrelease", "slices.overlaps[int]"], unfollowed := true, recurses := true, apart := false, narrowed := true }
def FnWorldKeepsUptoSaid : Prop := fnWorldKeepsUptoRow.holds Tryz.pinned (OpenSpec.upto fnWorldKeepsSpec)

/-- 'laws.FnWorldProposals', WHERE WHAT IT READS IS OF BULK AT MOST 1048576: true; the input reads as it did. -/
def fnWorldProposalsUptoRow : OpenClaim := { program := "yticiffgklmjfnaagreat", sum := "f58585ddc93a41e700420a38b323852fa29a41bd7055124521286527a3744db9", func := "loop.example/dagconsensus/laws.FnWorldProposals", spec := "fnWorldProposals", inPlace := ["(*internal/sync.Mutex).Lock", "internal/race.Disable", "sync/atomic.CompareAndSwapInt32", "internal/race.Enable", "internal/race.Acquire", "(*internal/sync.Mutex).lockSlow", "internal/sync.runtime_canSpin", "internal/sync.runtime_doSpin", "internal/sync.throw", "internal/sync.runtime_nanotime", "internal/sync.runtime_SemacquireMutex", "sync/atomic.AddInt32", "(*internal/sync.Mutex).Unlock", "internal/race.ReleaseMerge", "(*internal/sync.Mutex).unlockSlow", "internal/sync.fatal", "internal/sync.runtime_Semrelease", "slices.overlaps[int]"], unfollowed := true, recurses := true, apart := false, narrowed := true }
def FnWorldProposalsUptoSaid : Prop := fnWorldProposalsUptoRow.holds Tryz.pinned (OpenSpec.upto fnWorldProposalsSpec)

/-- 'laws.FnWorldPlay', WHERE WHAT IT READS IS OF BULK AT MOST 1048576: true; the input reads as it did. -/
def fnWorldPlayUptoRow : OpenClaim := { program := "yticiffgklmjfnaagreat", sum := "f58585ddc93a41e700420a38b323852fa29a41bd7055124521286527a3744db9", func := "loop.example/dagconsensus/laws.FnWorldPlay", spec := "fnWorldPlay", inPlace := ["(*internal/sync.Mutex).Lock", "internal/race.Disable", "sync/atomic.CompareAndSwapInt32", "internal/race.Enable", "internal/race.Acquire", "(*internal/sync.Mutex).lockSlow", "internal/sync.runtime_canSpin", "internal/sync.runtime_doSpin", "internal/sync.throw", "internal/sync.runtime_nanotime", "internal/sync.runtime_SemacquireMutex", "sync/atomic.AddInt32", "(*internal/sync.Mutex).Unlock", "internal/race.ReleaseMerge", "(*internal/sync.Mutex).unlockSlow", "internal/sync.fatal", "internal/sync.runtime_Semrelease", "slices.overlaps[int]"], unfollowed := true, recurses := true, apart := false, narrowed := true }
def FnWorldPlayUptoSaid : Prop := fnWorldPlayUptoRow.holds Tryz.pinned (OpenSpec.upto fnWorldPlaySpec)

/-- 'laws.FnWorldInvalid', WHERE WHAT IT READS IS OF BULK AT MOST 1048576: true; the input reads as it did. -/
def fnWorldInvalidUptoRow : OpenClaim := { program := "yticiffgklmjfnaagreat", sum := "f58585ddc93a41e700420a38b323852fa29a41bd7055124521286527a3744db9", func := "loop.example/dagconsensus/laws.FnWorldInvalid", spec := "fnWorldInvalid", inPlace := ["(*internal/sync.Mutex).Lock", "internal/race.Disable", "sync/atomic.CompareAndSwapInt32", "internal/race.Enable", "internal/race.Acquire", "(*internal/sync.Mutex).lockSlow", "internal/sync.runtime_canSpin", "internal/sync.runtime_doSpin", "internal/sync.throw", "internal/sync.runtime_nanotime", "internal/sync.runtime_SemacquireMutex", "sync/atomic.AddInt32", "(*internal/sync.Mutex).Unlock", "internal/race.ReleaseMerge", "(*internal/sync.Mutex).unlockSlow", "internal/sync.fatal", "internal/sync.runtime_Semrelease", "slices.overlaps[int]"], unfollowed := true, recurses := true, apart := false, narrowed := true }
def FnWorldInvalidUptoSaid : Prop := fnWorldInvalidUptoRow.holds Tryz.pinned (OpenSpec.upto fnWorldInvalidSpec)

end Rows
end Go.Proofs.YticiffgklmjfnaaGreat
