/-
  No cell of these rows narrows 'for every input' (looked for: loops, veiled, ifaces, maps, wideKeys, modest, calm, conditions, laid).
  DERIVED. THE GIVEN ROWS OF THIS SEAT. 6 by the template 'for every input the law returns true; each argument reads behind the call as it read before'; 0 by the template 'total and deterministic' (their statements: YtapkflbaenbgiaaGreatTotals.lean).
  GIVEN WITH THE SEED: the statements are not yours to turn. If you find one false, say at which input.
  Laid BY PROGRAM, IN A SANDBOX (cutbox-rows.mjs): the forced cells as the released guide's own fill.sh prints them over the translation e0494f3f6b9dce14… (all of the seat's roots in one cut). By AI agents, Wed Nov 11 2026. No macro, syntax, notation, axiom, sorry.
-/
import Derived.Test.YtapkflbaenbgiaaGreatChecked
import GoSem.Claim
import GoSem.ClaimJoined
import GoSem.ClaimMapViews
import Derived.JoinedTies
import Derived.KernelRfl
namespace Go.Proofs.YtapkflbaenbgiaaGreat
/- THE CELL 'sum', in the pinned program and in every row, IS THE sha256 OF THE DUMP (.gsa) THAT YtapkflbaenbgiaaGreatProg.lean LOADS. Nothing in Lean hashes anything: it is a label: what it is worth is what the hold of that sum in a sandbox is worth. -/
noncomputable def Tryz.pinned : Pinned := { name := "ytapkflbaenbgiaagreat", sum := "e0494f3f6b9dce14d8d1365988afe7a9aa4f5d0861a4d7085fcb8cbec8884a58", checked := Tryz.checked }
namespace Rows
def none {H : Type} : Left H := { results := [], args := [] }

/-- 'laws.FnWorldPropose': WHATEVER THE INPUT: true; the input reads as it did. -/
def fnWorldProposeSpec : ChangeSpec := { name := "fnWorldPropose", fn := fun _ => fun
  | [d] => { results := [.lit (.bool true)], args := [d] }
  | _ => none }
def fnWorldProposeRow : OpenClaim := { program := "ytapkflbaenbgiaagreat", sum := "e0494f3f6b9dce14d8d1365988afe7a9aa4f5d0861a4d7085fcb8cbec8884a58", func := "loop.example/dagconsensus/laws.FnWorldPropose", spec := "fnWorldPropose", inPlace := ["(*internal/sync.Mutex).Lock", "internal/race.Disable", "sync/atomic.CompareAndSwapInt32", "internal/race.Enable", "internal/race.Acquire", "(*internal/sync.Mutex).lockSlow", "internal/sync.runtime_canSpin", "internal/sync.runtime_doSpin", "internal/sync.throw", "internal/sync.runtime_nanotime", "internal/sync.runtime_SemacquireMutex", "sync/atomic.AddInt32", "(*internal/sync.Mutex).Unlock", "internal/race.ReleaseMerge", "(*internal/sync.Mutex).unlockSlow", "internal/sync.fatal", "internal/sync.runtime_Semrelease", "slices.overlaps[int]"], unfollowed := true, recurses := true, apart := false }
def FnWorldProposeSaid : Prop := fnWorldProposeRow.holds Tryz.pinned (OpenSpec.ofChange fnWorldProposeSpec)

/-- ITS FALSE NEIGHBOUR: 'it returns false'. Refute it at one input. -/
def fnWorldProposeWrong : ChangeSpec := { name := "fnWorldPropose", fn := fun _ => fun
  | [d] => { results := [.lit (.bool false)], args := [d] }
  | _ => none }
def FnWorldProposeWrongFalsely : Prop := fnWorldProposeRow.holds Tryz.pinned (OpenSpec.ofChange fnWorldProposeWrong)

/-- 'laws.FnWorldUnique': WHATEVER THE INPUT: true; the input reads as it did. -/
def fnWorldUniqueSpec : ChangeSpec := { name := "fnWorldUnique", fn := fun _ => fun
  | [d] => { results := [.lit (.bool true)], args := [d] }
  | _ => none }
def fnWorldUniqueRow : OpenClaim := { program := "ytapkflbaenbgiaagreat", sum := "e0494f3f6b9dce14d8d1365988afe7a9aa4f5d0861a4d7085fcb8cbec8884a58", func := "loop.example/dagconsensus/laws.FnWorldUnique", spec := "fnWorldUnique", inPlace := ["(*internal/sync.Mutex).Lock", "internal/race.Disable", "sync/atomic.CompareAndSwapInt32", "internal/race.Enable", "internal/race.Acquire", "(*internal/sync.Mutex).lockSlow", "internal/sync.runtime_canSpin", "internal/sync.runtime_doSpin", "internal/sync.throw", "internal/sync.runtime_nanotime", "internal/sync.runtime_SemacquireMutex", "sync/atomic.AddInt32", "(*internal/sync.Mutex).Unlock", "internal/race.ReleaseMerge", "(*internal/sync.Mutex).unlockSlow", "internal/sync.fatal", "internal/sync.runtime_Semrelease", "slices.overlaps[int]"], unfollowed := true, recurses := true, apart := false }
def FnWorldUniqueSaid : Prop := fnWorldUniqueRow.holds Tryz.pinned (OpenSpec.ofChange fnWorldUniqueSpec)

/-- ITS FALSE NEIGHBOUR: 'it returns false'. Refute it at one input. -/
def fnWorldUniqueWrong : ChangeSpec := { name := "fnWorldUnique", fn := fun _ => fun
  | [d] => { results := [.lit (.bool false)], args := [d] }
  | _ => none }
def FnWorldUniqueWrongFalsely : Prop := fnWorldUniqueRow.holds Tryz.pinned (OpenSpec.ofChange fnWorldUniqueWrong)

/-- 'laws.FnWorldViews': WHATEVER THE INPUT: true; the input reads as it did. -/
def fnWorldViewsSpec : ChangeSpec := { name := "fnWorldViews", fn := fun _ => fun
  | [d] => { results := [.lit (.bool true)], args := [d] }
  | _ => none }
def fnWorldViewsRow : OpenClaim := { program := "ytapkflbaenbgiaagreat", sum := "e0494f3f6b9dce14d8d1365988afe7a9aa4f5d0861a4d7085fcb8cbec8884a58", func := "loop.example/dagconsensus/laws.FnWorldViews", spec := "fnWorldViews", inPlace := ["(*internal/sync.Mutex).Lock", "internal/race.Disable", "sync/atomic.CompareAndSwapInt32", "internal/race.Enable", "internal/race.Acquire", "(*internal/sync.Mutex).lockSlow", "internal/sync.runtime_canSpin", "internal/sync.runtime_doSpin", "internal/sync.throw", "internal/sync.runtime_nanotime", "internal/sync.runtime_SemacquireMutex", "sync/atomic.AddInt32", "(*internal/sync.Mutex).Unlock", "internal/race.ReleaseMerge", "(*internal/sync.Mutex).unlockSlow", "internal/sync.fatal", "internal/sync.runtime_Semrelease", "slices.overlaps[int]"], unfollowed := true, recurses := true, apart := false }
def FnWorldViewsSaid : Prop := fnWorldViewsRow.holds Tryz.pinned (OpenSpec.ofChange fnWorldViewsSpec)

/-- ITS FALSE NEIGHBOUR: 'it returns false'. Refute it at one input. -/
def fnWorldViewsWrong : ChangeSpec := { name := "fnWorldViews", fn := fun _ => fun
  | [d] => { results := [.lit (.bool false)], args := [d] }
  | _ => none }
def FnWorldViewsWrongFalsely : Prop := fnWorldViewsRow.holds Tryz.pinned (OpenSpec.ofChange fnWorldViewsWrong)

/-- 'laws.FnWorldVoteOnce': WHATEVER THE INPUT: true; the input reads as it did. -/
def fnWorldVoteOnceSpec : ChangeSpec := { name := "fnWorldVoteOnce", fn := fun _ => fun
  | [d] => { results := [.lit (.bool true)], args := [d] }
  | _ => none }
def fnWorldVoteOnceRow : OpenClaim := { program := "ytapkflbaenbgiaagreat", sum := "e0494f3f6b9dce14d8d1365988afe7a9aa4f5d0861a4d7085fcb8cbec8884a58", func := "loop.example/dagconsensus/laws.FnWorldVoteOnce", spec := "fnWorldVoteOnce", inPlace := ["(*internal/sync.Mutex).Lock", "internal/race.Disable", "sync/atomic.CompareAndSwapInt32", "internal/race.Enable", "internal/race.Acquire", "(*internal/sync.Mutex).lockSlow", "internal/sync.runtime_canSpin", "internal/sync.runtime_doSpin", "internal/sync.throw", "internal/sync.runtime_nanotime", "internal/sync.runtime_SemacquireMutex", "sync/atomic.AddInt32", "(*internal/sync.Mutex).Unlock", "internal/race.ReleaseMerge", "(*internal/sync.Mutex).unlockSlow", "internal/sync.fatal", "internal/sync.runtime_Semrelease", "slices.overlaps[int]"], unfollowed := true, recurses := true, apart := false }
def FnWorldVoteOnceSaid : Prop := fnWorldVoteOnceRow.holds Tryz.pinned (OpenSpec.ofChange fnWorldVoteOnceSpec)

/-- ITS FALSE NEIGHBOUR: 'it returns false'. Refute it at one input. -/
def fnWorldVoteOnceWrong : ChangeSpec := { name := "fnWorldVoteOnce", fn := fun _ => fun
  | [d] => { results := [.lit (.bool false)], args := [d] }
  | _ => none }
def FnWorldVoteOnceWrongFalsely : Prop := fnWorldVoteOnceRow.holds Tryz.pinned (OpenSpec.ofChange fnWorldVoteOnceWrong)

/-- 'laws.FnWorldConsistent': WHATEVER THE INPUT: true; the input reads as it did. -/
def fnWorldConsistentSpec : ChangeSpec := { name := "fnWorldConsistent", fn := fun _ => fun
  | [d] => { results := [.lit (.bool true)], args := [d] }
  | _ => none }
def fnWorldConsistentRow : OpenClaim := { program := "ytapkflbaenbgiaagreat", sum := "e0494f3f6b9dce14d8d1365988afe7a9aa4f5d0861a4d7085fcb8cbec8884a58", func := "loop.example/dagconsensus/laws.FnWorldConsistent", spec := "fnWorldConsistent", inPlace := ["(*internal/sync.Mutex).Lock", "internal/race.Disable", "sync/atomic.CompareAndSwapInt32", "internal/race.Enable", "internal/race.Acquire", "(*internal/sync.Mutex).lockSlow", "internal/sync.runtime_canSpin", "internal/sync.runtime_doSpin", "internal/sync.throw", "internal/sync.runtime_nanotime", "internal/sync.runtime_SemacquireMutex", "sync/atomic.AddInt32", "(*internal/sync.Mutex).Unlock", "internal/race.ReleaseMerge", "(*internal/sync.Mutex).unlockSlow", "internal/sync.fatal", "internal/sync.runtime_Semrelease", "slices.overlaps[int]"], unfollowed := true, recurses := true, apart := false }
def FnWorldConsistentSaid : Prop := fnWorldConsistentRow.holds Tryz.pinned (OpenSpec.ofChange fnWorldConsistentSpec)

/-- ITS FALSE NEIGHBOUR: 'it returns false'. Refute it at one input. -/
def fnWorldConsistentWrong : ChangeSpec := { name := "fnWorldConsistent", fn := fun _ => fun
  | [d] => { results := [.lit (.bool false)], args := [d] }
  | _ => none }
def FnWorldConsistentWrongFalsely : Prop := fnWorldConsistentRow.holds Tryz.pinned (OpenSpec.ofChange fnWorldConsistentWrong)

/-- 'laws.FnWorldForge': WHATEVER THE INPUT: true; the input reads as it did. -/
def fnWorldForgeSpec : ChangeSpec := { name := "fnWorldForge", fn := fun _ => fun
  | [d] => { results := [.lit (.bool true)], args := [d] }
  | _ => none }
def fnWorldForgeRow : OpenClaim := { program := "ytapkflbaenbgiaagreat", sum := "e0494f3f6b9dce14d8d1365988afe7a9aa4f5d0861a4d7085fcb8cbec8884a58", func := "loop.example/dagconsensus/laws.FnWorldForge", spec := "fnWorldForge", inPlace := ["(*internal/sync.Mutex).Lock", "internal/race.Disable", "sync/atomic.CompareAndSwapInt32", "internal/race.Enable", "internal/race.Acquire", "(*internal/sync.Mutex).lockSlow", "internal/sync.runtime_canSpin", "internal/sync.runtime_doSpin", "internal/sync.throw", "internal/sync.runtime_nanotime", "internal/sync.runtime_SemacquireMutex", "sync/atomic.AddInt32", "(*internal/sync.Mutex).Unlock", "internal/race.ReleaseMerge", "(*internal/sync.Mutex).unlockSlow", "internal/sync.fatal", "internal/sync.runtime_Semrelease", "slices.overlaps[int]"], unfollowed := true, recurses := true, apart := false }
def FnWorldForgeSaid : Prop := fnWorldForgeRow.holds Tryz.pinned (OpenSpec.ofChange fnWorldForgeSpec)

/-- ITS FALSE NEIGHBOUR: 'it returns false'. Refute it at one input. -/
def fnWorldForgeWrong : ChangeSpec := { name := "fnWorldForge", fn := fun _ => fun
  | [d] => { results := [.lit (.bool false)], args := [d] }
  | _ => none }
def FnWorldForgeWrongFalsely : Prop := fnWorldForgeRow.holds Tryz.pinned (OpenSpec.ofChange fnWorldForgeWrong)

/- THE SECOND FORM. 'bulk': how many values and letters a reading holds, each counted each time it is reached (what is shared counts as often as it is met; a slice's spare places count too). A statement '..UptoSaid' is the law's where the arguments, and the package variables that the reading takes, are together of bulk at most 1048576: NARROWER than '..Said'. Prove '..Said' where nothing that the law and all that it calls make is longer than what came in: it says more and counts as full. Else prove '..UptoSaid'. A law counts once. -/
mutual
def uptoBulk {H : Type} : DataW H → Nat
  | .lit (.string bytes) => bytes.length + 1
  | .lit _ => 1
  | .nil => 1
  | .ptr d => uptoBulk d + 1
  | .slice elems spare => uptoBulkAll elems + uptoBulkAll spare + 1
  | .agg parts => uptoBulkAll parts + 1
  | .iface _ d => uptoBulk d + 1
  | .map entries => uptoBulkEntries entries + 1
  | .held _ => 1
def uptoBulkAll {H : Type} : List (DataW H) → Nat
  | [] => 0
  | d :: r => uptoBulk d + uptoBulkAll r
def uptoBulkEntries {H : Type} : List (Lit × DataW H) → Nat
  | [] => 0
  | x :: r => uptoBulkEntry x + uptoBulkEntries r
def uptoBulkEntry {H : Type} : Lit × DataW H → Nat
  | (.string bytes, d) => bytes.length + uptoBulk d + 1
  | (_, d) => uptoBulk d + 1
 end
def uptoSmall : (H : Type) → List (DataW H) → Bool := fun _ ds => decide (uptoBulkAll ds ≤ 1048576)
def OpenSpec.upto (s : _root_.Go.ChangeSpec) : _root_.Go.OpenSpec := { _root_.Go.OpenSpec.ofChange s with cond := some uptoSmall }

/-- 'laws.FnWorldPropose', WHERE WHAT IT READS IS OF BULK AT MOST 1048576: true; the input reads as it did. -/
def fnWorldProposeUptoRow : OpenClaim := { program := "ytapkflbaenbgiaagreat", sum := "e0494f3f6b9dce14d8d1365988afe7a9aa4f5d0861a4d7085fcb8cbec8884a58", func := "loop.example/dagconsensus/laws.FnWorldPropose", spec := "fnWorldPropose", inPlace := ["(*internal/sync.Mutex).Lock", "internal/race.Disable", "sync/atomic.CompareAndSwapInt32", "internal/race.Enable", "internal/race.Acquire", "(*internal/sync.Mutex).lockSlow", "internal/sync.runtime_canSpin", "internal/sync.runtime_doSpin", "internal/sync.throw", "internal/sync.runtime_nanotime", "internal/sync.runtime_SemacquireMutex", "sync/atomic.AddInt32", "(*internal/sync.Mutex).Unlock", "internal/race.ReleaseMerge", "(*internal/sync.Mutex).unlockSlow", "internal/sync.fatal", "internal/sync.runtime_Semrelease", "slices.overlaps[int]"], unfollowed := true, recurses := true, apart := false, narrowed := true }
def FnWorldProposeUptoSaid : Prop := fnWorldProposeUptoRow.holds Tryz.pinned (OpenSpec.upto fnWorldProposeSpec)

/-- 'laws.FnWorldUnique', WHERE WHAT IT READS IS OF BULK AT MOST 1048576: true; the input reads as it did. -/
def fnWorldUniqueUptoRow : OpenClaim := { program := "ytapkflbaenbgiaagreat", sum := "e0494f3f6b9dce14d8d1365988afe7a9aa4f5d0861a4d7085fcb8cbec8884a58", func := "loop.example/dagconsensus/laws.FnWorldUnique", spec := "fnWorldUnique", inPlace := ["(*internal/sync.Mutex).Lock", "internal/race.Disable", "sync/atomic.CompareAndSwapInt32", "internal/race.Enable", "internal/race.Acquire", "(*internal/sync.Mutex).lockSlow", "internal/sync.runtime_canSpin", "internal/sync.runtime_doSpin", "internal/sync.throw", "internal/sync.runtime_nanotime", "internal/sync.runtime_SemacquireMutex", "sync/atomic.AddInt32", "(*internal/sync.Mutex).Unlock", "internal/race.ReleaseMerge", "(*internal/sync.Mutex).unlockSlow", "internal/sync.fatal", "internal/sync.runtime_Semrelease", "slices.overlaps[int]"], unfollowed := true, recurses := true, apart := false, narrowed := true }
def FnWorldUniqueUptoSaid : Prop := fnWorldUniqueUptoRow.holds Tryz.pinned (OpenSpec.upto fnWorldUniqueSpec)

/-- 'laws.FnWorldViews', WHERE WHAT IT READS IS OF BULK AT MOST 1048576: true; the input reads as it did. -/
def fnWorldViewsUptoRow : OpenClaim := { program := "ytapkflbaenbgiaagreat", sum := "e0494f3f6b9dce14d8d1365988afe7a9aa4f5d0861a4d7085fcb8cbec8884a58", func := "loop.example/dagconsensus/laws.FnWorldViews", spec := "fnWorldViews", inPlace := ["(*internal/sync.Mutex).Lock", "internal/race.Disable", "sync/atomic.CompareAndSwapInt32", "internal/race.Enable", "internal/race.Acquire", "(*internal/sync.Mutex).lockSlow", "internal/sync.runtime_canSpin", "internal/sync.runtime_doSpin", "internal/sync.throw", "internal/sync.runtime_nanotime", "internal/sync.runtime_SemacquireMutex", "sync/atomic.AddInt32", "(*internal/sync.Mutex).Unlock", "internal/race.ReleaseMerge", "(*internal/sync.Mutex).unlockSlow", "internal/sync.fatal", "internal/sync.runtime_Semrelease", "slices.overlaps[int]"], unfollowed := true, recurses := true, apart := false, narrowed := true }
def FnWorldViewsUptoSaid : Prop := fnWorldViewsUptoRow.holds Tryz.pinned (OpenSpec.upto fnWorldViewsSpec)

/-- 'laws.FnWorldVoteOnce', WHERE WHAT IT READS IS OF BULK AT MOST 1048576: true; the input reads as it did. -/
def fnWorldVoteOnceUptoRow : OpenClaim := { program := "ytapkflbaenbgiaagreat", sum := "e0494f3f6b9dce14d8d1365988afe7a9aa4f5d0861a4d7085fcb8cbec8884a58", func := "loop.example/dagconsensus/laws.FnWorldVoteOnce", spec := "fnWorldVoteOnce", inPlace := ["(*internal/sync.Mutex).Lock", "internal/race.Disable", "sync/atomic.CompareAndSwapInt32", "internal/race.Enable", "internal/race.Acquire", "(*internal/sync.Mutex).lockSlow", "internal/sync.runtime_canSpin", "internal/sync.runtime_doSpin", "internal/sync.throw", "internal/sync.runtime_nanotime", "internal/sync.runtime_SemacquireMutex", "sync/atomic.AddInt32", "(*internal/sync.Mutex).Unlock", "internal/race.ReleaseMerge", "(*internal/sync.Mutex).unlockSlow", "internal/sync.fatal", "internal/sync.runtime_Semrelease", "slices.overlaps[int]"], unfollowed := true, recurses := true, apart := false, narrowed := true }
def FnWorldVoteOnceUptoSaid : Prop := fnWorldVoteOnceUptoRow.holds Tryz.pinned (OpenSpec.upto fnWorldVoteOnceSpec)

/-- 'laws.FnWorldConsistent', WHERE WHAT IT READS IS OF BULK AT MOST 1048576: true; the input reads as it did. -/
def fnWorldConsistentUptoRow : OpenClaim := { program := "ytapkflbaenbgiaagreat", sum := "e0494f3f6b9dce14d8d1365988afe7a9aa4f5d0861a4d7085fcb8cbec8884a58", func := "loop.example/dagconsensus/laws.FnWorldConsistent", spec := "fnWorldConsistent", inPlace := ["(*internal/sync.Mutex).Lock", "internal/race.Disable", "sync/atomic.CompareAndSwapInt32", "internal/race.Enable", "internal/race.Acquire", "(*internal/sync.Mutex).lockSlow", "internal/sync.runtime_canSpin", "internal/sync.runtime_doSpin", "internal/sync.throw", "internal/sync.runtime_nanotime", "internal/sync.runtime_SemacquireMutex", "sync/atomic.AddInt32", "(*internal/sync.Mutex).Unlock", "internal/race.ReleaseMerge", "(*internal/sync.Mutex).unlockSlow", "internal/sync.fatal", "internal/sync.runtime_Semrelease", "slices.overlaps[int]"], unfollowed := true, recurses := true, apart := false, narrowed := true }
def FnWorldConsistentUptoSaid : Prop := fnWorldConsistentUptoRow.holds Tryz.pinned (OpenSpec.upto fnWorldConsistentSpec)

/-- 'laws.FnWorldForge', WHERE WHAT IT READS IS OF BULK AT MOST 1048576: true; the input reads as it did. -/
def fnWorldForgeUptoRow : OpenClaim := { program := "ytapkflbaenbgiaagreat", sum := "e0494f3f6b9dce14d8d1365988afe7a9aa4f5d0861a4d7085fcb8cbec8884a58", func := "loop.example/dagconsensus/laws.FnWorldForge", spec := "fnWorldForge", inPlace := ["(*internal/sync.Mutex).Lock", "internal/race.Disable", "sync/atomic.CompareAndSwapInt32", "internal/race.Enable", "internal/race.Acquire", "(*internal/sync.Mutex).lockSlow", "internal/sync.runtime_canSpin", "internal/sync.runtime_doSpin", "internal/sync.throw", "internal/sync.runtime_nanotime", "internal/sync.runtime_SemacquireMutex", "sync/atomic.AddInt32", "(*internal/sync.Mutex).Unlock", "internal/race.ReleaseMerge", "(*internal/sync.Mutex).unlockSlow", "internal/sync.fatal", "internal/sync.runtime_Semrelease", "slices.overlaps[int]"], unfollowed := true, recurses := true, apart := false, narrowed := true }
def FnWorldForgeUptoSaid : Prop := fnWorldForgeUptoRow.holds Tryz.pinned (OpenSpec.upto fnWorldForgeSpec)

end Rows
end Go.Proofs.YtapkflbaenbgiaaGreat
