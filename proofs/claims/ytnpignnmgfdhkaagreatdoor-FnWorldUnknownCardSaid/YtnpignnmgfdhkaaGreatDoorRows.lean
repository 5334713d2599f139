/-
  NARROWER THAN 'FOR EVERY INPUT', by the rows' own cells (each row's printed sentence says how): FnWorldKeeps: ifaces, laid · FnWorldTick: ifaces, laid · FnWorldRing: ifaces, laid · FnWorldUnknown: ifaces, laid · FnWorldScan: ifaces, laid · FnWorldTake: ifaces, laid.
  DERIVED. THE GIVEN ROWS OF THIS SEAT. 6 by the template 'for every input the law returns true; each argument reads behind the call as it read before'; 0 by the template 'total and deterministic' (their statements: YtnpignnmgfdhkaaGreatDoorTotals.lean).
  GIVEN WITH THE SEED: the statements are not yours to turn. If you find one false, say at which input.
  Laid BY PROGRAM, IN A SANDBOX (cutbox-rows.mjs): the forced cells as the released guide's own fill.sh prints them over the translation 28add30ab5a9c462… (all of the seat's roots in one cut). By AI agents, Wed Nov 11 2026. No macro, syntax, notation, axiom, sorry.
-/
import Derived.Test.YtnpignnmgfdhkaaGreatDoorChecked
import GoSem.Claim
import GoSem.ClaimJoined
import GoSem.ClaimMapViews
import Derived.JoinedTies
import Derived.KernelRfl
namespace Go.Proofs.YtnpignnmgfdhkaaGreatDoor
/- THE CELL 'sum', in the pinned program and in every row, IS THE sha256 OF THE DUMP (.gsa) THAT YtnpignnmgfdhkaaGreatDoorProg.lean LOADS. Nothing in Lean hashes anything: it is a label: what it is worth is what the hold of that sum in a sandbox is worth. -/
noncomputable def Tryz.pinned : Pinned := { name := "ytnpignnmgfdhkaagreatdoor", sum := "28add30ab5a9c46297c6e51d8db18310e0843ea07fedfd391491054d032fa1a2", checked := Tryz.checked }
namespace Rows
def none {H : Type} : Left H := { results := [], args := [] }

/- WHAT THE LISTED PACKAGE-LEVEL VARIABLES READ AS WHEN THE CALL BEGINS. Each datum BY PROGRAM (the guide's laid-datum.mjs) off the statement by which the dump's own 'gosem.cut.vars' lays the variable. In a bare row this is a premise. The card (YtnpignnmgfdhkaaGreatDoorCards.lean) ties it to the program's text. -/
def laid_loop_example_ringoverlay_impl_errArgs {H : Type} : DataW H := .iface "*errors.errorString" (.ptr (.agg [.lit (.string [97, 114, 103, 117, 109, 101, 110, 116, 115])]))
def laid_loop_example_ringoverlay_impl_errRefused {H : Type} : DataW H := .iface "*errors.errorString" (.ptr (.agg [.lit (.string [114, 101, 102, 117, 115, 101, 100])]))

/-- 'laws.FnWorldKeeps': WHATEVER THE INPUT: true; the input reads as it did. -/
def fnWorldKeepsSpec : ChangeSpec := { name := "fnWorldKeeps", vars := ["loop.example/ringoverlay/impl.errArgs", "loop.example/ringoverlay/impl.errRefused"], fn := fun _ => fun
  | [d, g1, g2] => { results := [.lit (.bool true)], args := [d], vars := [g1, g2] }
  | _ => none }
def fnWorldKeepsRow : OpenClaim := { program := "ytnpignnmgfdhkaagreatdoor", sum := "28add30ab5a9c46297c6e51d8db18310e0843ea07fedfd391491054d032fa1a2", func := "loop.example/ringoverlay/laws.FnWorldKeeps", spec := "fnWorldKeeps", inPlace := ["(*internal/sync.Mutex).Lock", "internal/race.Disable", "sync/atomic.CompareAndSwapInt32", "internal/race.Enable", "internal/race.Acquire", "(*internal/sync.Mutex).lockSlow", "internal/sync.runtime_canSpin", "internal/sync.runtime_doSpin", "internal/sync.throw", "internal/sync.runtime_nanotime", "internal/sync.runtime_SemacquireMutex", "sync/atomic.AddInt32", "(*internal/sync.Mutex).Unlock", "internal/race.ReleaseMerge", "(*internal/sync.Mutex).unlockSlow", "internal/sync.fatal", "internal/sync.runtime_Semrelease", "slices.overlaps[loop.example/ringoverlay/impl.Lease]", "internal/reflectlite.TypeOf", "slices.overlaps[loop.example/ringoverlay/impl.Item]", "slices.overlaps[loop.example/ringoverlay/impl.Node]"], unfollowed := true, recurses := true, named := ["loop.example/ringoverlay/impl.errArgs", "loop.example/ringoverlay/impl.errRefused"], ifaces := true, apart := false, laid := [("loop.example/ringoverlay/impl.errArgs", laid_loop_example_ringoverlay_impl_errArgs), ("loop.example/ringoverlay/impl.errRefused", laid_loop_example_ringoverlay_impl_errRefused)] }
def FnWorldKeepsSaid : Prop := fnWorldKeepsRow.holds Tryz.pinned (OpenSpec.ofChange fnWorldKeepsSpec)

/-- ITS FALSE NEIGHBOUR: 'it returns false'. Refute it at one input. -/
def fnWorldKeepsWrong : ChangeSpec := { name := "fnWorldKeeps", vars := ["loop.example/ringoverlay/impl.errArgs", "loop.example/ringoverlay/impl.errRefused"], fn := fun _ => fun
  | [d, g1, g2] => { results := [.lit (.bool false)], args := [d], vars := [g1, g2] }
  | _ => none }
def FnWorldKeepsWrongFalsely : Prop := fnWorldKeepsRow.holds Tryz.pinned (OpenSpec.ofChange fnWorldKeepsWrong)

/-- 'laws.FnWorldTick': WHATEVER THE INPUT: true; the input reads as it did. -/
def fnWorldTickSpec : ChangeSpec := { name := "fnWorldTick", vars := ["loop.example/ringoverlay/impl.errArgs", "loop.example/ringoverlay/impl.errRefused"], fn := fun _ => fun
  | [d, g1, g2] => { results := [.lit (.bool true)], args := [d], vars := [g1, g2] }
  | _ => none }
def fnWorldTickRow : OpenClaim := { program := "ytnpignnmgfdhkaagreatdoor", sum := "28add30ab5a9c46297c6e51d8db18310e0843ea07fedfd391491054d032fa1a2", func := "loop.example/ringoverlay/laws.FnWorldTick", spec := "fnWorldTick", inPlace := ["(*internal/sync.Mutex).Lock", "internal/race.Disable", "sync/atomic.CompareAndSwapInt32", "internal/race.Enable", "internal/race.Acquire", "(*internal/sync.Mutex).lockSlow", "internal/sync.runtime_canSpin", "internal/sync.runtime_doSpin", "internal/sync.throw", "internal/sync.runtime_nanotime", "internal/sync.runtime_SemacquireMutex", "sync/atomic.AddInt32", "(*internal/sync.Mutex).Unlock", "internal/race.ReleaseMerge", "(*internal/sync.Mutex).unlockSlow", "internal/sync.fatal", "internal/sync.runtime_Semrelease", "slices.overlaps[loop.example/ringoverlay/impl.Lease]", "internal/reflectlite.TypeOf", "slices.overlaps[loop.example/ringoverlay/impl.Item]", "slices.overlaps[loop.example/ringoverlay/impl.Node]"], unfollowed := true, recurses := true, named := ["loop.example/ringoverlay/impl.errArgs", "loop.example/ringoverlay/impl.errRefused"], ifaces := true, apart := false, laid := [("loop.example/ringoverlay/impl.errArgs", laid_loop_example_ringoverlay_impl_errArgs), ("loop.example/ringoverlay/impl.errRefused", laid_loop_example_ringoverlay_impl_errRefused)] }
def FnWorldTickSaid : Prop := fnWorldTickRow.holds Tryz.pinned (OpenSpec.ofChange fnWorldTickSpec)

/-- ITS FALSE NEIGHBOUR: 'it returns false'. Refute it at one input. -/
def fnWorldTickWrong : ChangeSpec := { name := "fnWorldTick", vars := ["loop.example/ringoverlay/impl.errArgs", "loop.example/ringoverlay/impl.errRefused"], fn := fun _ => fun
  | [d, g1, g2] => { results := [.lit (.bool false)], args := [d], vars := [g1, g2] }
  | _ => none }
def FnWorldTickWrongFalsely : Prop := fnWorldTickRow.holds Tryz.pinned (OpenSpec.ofChange fnWorldTickWrong)

/-- 'laws.FnWorldRing': WHATEVER THE INPUT: true; the input reads as it did. -/
def fnWorldRingSpec : ChangeSpec := { name := "fnWorldRing", vars := ["loop.example/ringoverlay/impl.errArgs", "loop.example/ringoverlay/impl.errRefused"], fn := fun _ => fun
  | [d, g1, g2] => { results := [.lit (.bool true)], args := [d], vars := [g1, g2] }
  | _ => none }
def fnWorldRingRow : OpenClaim := { program := "ytnpignnmgfdhkaagreatdoor", sum := "28add30ab5a9c46297c6e51d8db18310e0843ea07fedfd391491054d032fa1a2", func := "loop.example/ringoverlay/laws.FnWorldRing", spec := "fnWorldRing", inPlace := ["(*internal/sync.Mutex).Lock", "internal/race.Disable", "sync/atomic.CompareAndSwapInt32", "internal/race.Enable", "internal/race.Acquire", "(*internal/sync.Mutex).lockSlow", "internal/sync.runtime_canSpin", "internal/sync.runtime_doSpin", "internal/sync.throw", "internal/sync.runtime_nanotime", "internal/sync.runtime_SemacquireMutex", "sync/atomic.AddInt32", "(*internal/sync.Mutex).Unlock", "internal/race.ReleaseMerge", "(*internal/sync.Mutex).unlockSlow", "internal/sync.fatal", "internal/sync.runtime_Semrelease", "slices.overlaps[loop.example/ringoverlay/impl.Lease]", "internal/reflectlite.TypeOf", "slices.overlaps[loop.example/ringoverlay/impl.Item]", "slices.overlaps[loop.example/ringoverlay/impl.Node]"], unfollowed := true, recurses := true, named := ["loop.example/ringoverlay/impl.errArgs", "loop.example/ringoverlay/impl.errRefused"], ifaces := true, apart := false, laid := [("loop.example/ringoverlay/impl.errArgs", laid_loop_example_ringoverlay_impl_errArgs), ("loop.example/ringoverlay/impl.errRefused", laid_loop_example_ringoverlay_impl_errRefused)] }
def FnWorldRingSaid : Prop := fnWorldRingRow.holds Tryz.pinned (OpenSpec.ofChange fnWorldRingSpec)

/-- ITS FALSE NEIGHBOUR: 'it returns false'. Refute it at one input. -/
def fnWorldRingWrong : ChangeSpec := { name := "fnWorldRing", vars := ["loop.example/ringoverlay/impl.errArgs", "loop.example/ringoverlay/impl.errRefused"], fn := fun _ => fun
  | [d, g1, g2] => { results := [.lit (.bool false)], args := [d], vars := [g1, g2] }
  | _ => none }
def FnWorldRingWrongFalsely : Prop := fnWorldRingRow.holds Tryz.pinned (OpenSpec.ofChange fnWorldRingWrong)

/-- 'laws.FnWorldUnknown': WHATEVER THE INPUT: true; the input reads as it did. -/
def fnWorldUnknownSpec : ChangeSpec := { name := "fnWorldUnknown", vars := ["loop.example/ringoverlay/impl.errArgs", "loop.example/ringoverlay/impl.errRefused"], fn := fun _ => fun
  | [d1, d2, g1, g2] => { results := [.lit (.bool true)], args := [d1, d2], vars := [g1, g2] }
  | _ => none }
def fnWorldUnknownRow : OpenClaim := { program := "ytnpignnmgfdhkaagreatdoor", sum := "28add30ab5a9c46297c6e51d8db18310e0843ea07fedfd391491054d032fa1a2", func := "loop.example/ringoverlay/laws.FnWorldUnknown", spec := "fnWorldUnknown", inPlace := ["(*internal/sync.Mutex).Lock", "internal/race.Disable", "sync/atomic.CompareAndSwapInt32", "internal/race.Enable", "internal/race.Acquire", "(*internal/sync.Mutex).lockSlow", "internal/sync.runtime_canSpin", "internal/sync.runtime_doSpin", "internal/sync.throw", "internal/sync.runtime_nanotime", "internal/sync.runtime_SemacquireMutex", "sync/atomic.AddInt32", "(*internal/sync.Mutex).Unlock", "internal/race.ReleaseMerge", "(*internal/sync.Mutex).unlockSlow", "internal/sync.fatal", "internal/sync.runtime_Semrelease", "slices.overlaps[loop.example/ringoverlay/impl.Lease]", "internal/reflectlite.TypeOf", "slices.overlaps[loop.example/ringoverlay/impl.Item]", "slices.overlaps[loop.example/ringoverlay/impl.Node]"], unfollowed := true, recurses := true, named := ["loop.example/ringoverlay/impl.errArgs", "loop.example/ringoverlay/impl.errRefused"], ifaces := true, apart := false, laid := [("loop.example/ringoverlay/impl.errArgs", laid_loop_example_ringoverlay_impl_errArgs), ("loop.example/ringoverlay/impl.errRefused", laid_loop_example_ringoverlay_impl_errRefused)] }
def FnWorldUnknownSaid : Prop := fnWorldUnknownRow.holds Tryz.pinned (OpenSpec.ofChange fnWorldUnknownSpec)

/-- ITS FALSE NEIGHBOUR: 'it returns false'. Refute it at one input. -/
def fnWorldUnknownWrong : ChangeSpec := { name := "fnWorldUnknown", vars := ["loop.example/ringoverlay/impl.errArgs", "loop.example/ringoverlay/impl.errRefused"], fn := fun _ => fun
  | [d1, d2, g1, g2] => { results := [.lit (.bool false)], args := [d1, d2], vars := [g1, g2] }
  | _ => none }
def FnWorldUnknownWrongFalsely : Prop := fnWorldUnknownRow.holds Tryz.pinned (OpenSpec.ofChange fnWorldUnknownWrong)

/-- 'laws.FnWorldScan': WHATEVER THE INPUT: true; the input reads as it did. -/
def fnWorldScanSpec : ChangeSpec := { name := "fnWorldScan", vars := ["loop.example/ringoverlay/impl.errArgs", "loop.example/ringoverlay/impl.errRefused"], fn := fun _ => fun
  | [d, g1, g2] => { results := [.lit (.bool true)], args := [d], vars := [g1, g2] }
  | _ => none }
def fnWorldScanRow : OpenClaim := { program := "ytnpignnmgfdhkaagreatdoor", sum := "28add30ab5a9c46297c6e51d8db18310e0843ea07fedfd391491054d032fa1a2", func := "loop.example/ringoverlay/laws.FnWorldScan", spec := "fnWorldScan", inPlace := ["(*internal/sync.Mutex).Lock", "internal/race.Disable", "sync/atomic.CompareAndSwapInt32", "internal/race.Enable", "internal/race.Acquire", "(*internal/sync.Mutex).lockSlow", "internal/sync.runtime_canSpin", "internal/sync.runtime_doSpin", "internal/sync.throw", "internal/sync.runtime_nanotime", "internal/sync.runtime_SemacquireMutex", "sync/atomic.AddInt32", "(*internal/sync.Mutex).Unlock", "internal/race.ReleaseMerge", "(*internal/sync.Mutex).unlockSlow", "internal/sync.fatal", "internal/sync.runtime_Semrelease", "slices.overlaps[loop.example/ringoverlay/impl.Lease]", "internal/reflectlite.TypeOf", "slices.overlaps[loop.example/ringoverlay/impl.Item]", "slices.overlaps[loop.example/ringoverlay/impl.Node]"], unfollowed := true, recurses := true, named := ["loop.example/ringoverlay/impl.errArgs", "loop.example/ringoverlay/impl.errRefused"], ifaces := true, apart := false, laid := [("loop.example/ringoverlay/impl.errArgs", laid_loop_example_ringoverlay_impl_errArgs), ("loop.example/ringoverlay/impl.errRefused", laid_loop_example_ringoverlay_impl_errRefused)] }
def FnWorldScanSaid : Prop := fnWorldScanRow.holds Tryz.pinned (OpenSpec.ofChange fnWorldScanSpec)

/-- ITS FALSE NEIGHBOUR: 'it returns false'. Refute it at one input. -/
def fnWorldScanWrong : ChangeSpec := { name := "fnWorldScan", vars := ["loop.example/ringoverlay/impl.errArgs", "loop.example/ringoverlay/impl.errRefused"], fn := fun _ => fun
  | [d, g1, g2] => { results := [.lit (.bool false)], args := [d], vars := [g1, g2] }
  | _ => none }
def FnWorldScanWrongFalsely : Prop := fnWorldScanRow.holds Tryz.pinned (OpenSpec.ofChange fnWorldScanWrong)

/-- 'laws.FnWorldTake': WHATEVER THE INPUT: true; the input reads as it did. -/
def fnWorldTakeSpec : ChangeSpec := { name := "fnWorldTake", vars := ["loop.example/ringoverlay/impl.errArgs", "loop.example/ringoverlay/impl.errRefused"], fn := fun _ => fun
  | [d1, d2, g1, g2] => { results := [.lit (.bool true)], args := [d1, d2], vars := [g1, g2] }
  | _ => none }
def fnWorldTakeRow : OpenClaim := { program := "ytnpignnmgfdhkaagreatdoor", sum := "28add30ab5a9c46297c6e51d8db18310e0843ea07fedfd391491054d032fa1a2", func := "loop.example/ringoverlay/laws.FnWorldTake", spec := "fnWorldTake", inPlace := ["(*internal/sync.Mutex).Lock", "internal/race.Disable", "sync/atomic.CompareAndSwapInt32", "internal/race.Enable", "internal/race.Acquire", "(*internal/sync.Mutex).lockSlow", "internal/sync.runtime_canSpin", "internal/sync.runtime_doSpin", "internal/sync.throw", "internal/sync.runtime_nanotime", "internal/sync.runtime_SemacquireMutex", "sync/atomic.AddInt32", "(*internal/sync.Mutex).Unlock", "internal/race.ReleaseMerge", "(*internal/sync.Mutex).unlockSlow", "internal/sync.fatal", "internal/sync.runtime_Semrelease", "slices.overlaps[loop.example/ringoverlay/impl.Lease]", "internal/reflectlite.TypeOf", "slices.overlaps[loop.example/ringoverlay/impl.Item]", "slices.overlaps[loop.example/ringoverlay/impl.Node]"], unfollowed := true, recurses := true, named := ["loop.example/ringoverlay/impl.errArgs", "loop.example/ringoverlay/impl.errRefused"], ifaces := true, apart := false, laid := [("loop.example/ringoverlay/impl.errArgs", laid_loop_example_ringoverlay_impl_errArgs), ("loop.example/ringoverlay/impl.errRefused", laid_loop_example_ringoverlay_impl_errRefused)] }
def FnWorldTakeSaid : Prop := fnWorldTakeRow.holds Tryz.pinned (OpenSpec.ofChange fnWorldTakeSpec)

/-- ITS FALSE NEIGHBOUR: 'it returns false'. Refute it at one input. -/
def fnWorldTakeWrong : ChangeSpec := { name := "fnWorldTake", vars := ["loop.example/ringoverlay/impl.errArgs", "loop.example/ringoverlay/impl.errRefused"], fn := fun _ => fun
  | [d1, d2, g1, g2] => { results := [.lit (.bool false)], args := [d1, d2], vars := [g1, g2] }
  | _ => none }
def FnWorldTakeWrongFalsely : Prop := fnWorldTakeRow.holds Tryz.pinned (OpenSpec.ofChange fnWorldTakeWrong)

/- THE SECOND FORM. 'bulk': how many values and letters a reading holds, each counted each time it is reached (what is shared counts as often as it is met; a slice's spare places count too). A statement '..UptoSaid' is the law's where the arguments, and the package variables that the reading takes, are together of bulk at most 1048576: NARROWER than '..Said'. Prove '..Said' where nothing that the law and all that it calls make is longer than what came in: it says more and counts as full. Else prove '..UptoSaid'. A law counts once. -/
mutual
def uptoBulk {H : Type} : DataW H → Nat
  | .lit (.string bytes) => bytes.length + 1
  | .lit _ => 1
  | .nil => 1
  | .ptr d => uptoBulk d + 1
  | .slice elems spare => uptoBulkAll elems + uptoBulkAll spare + 1
  | .agg parts => uptoBulkAll parts + 1
  | .iface _ d => uptoBulk d + 1
  | .map entries => uptoBulkEntries entries + 1
  | .held _ => 1
def uptoBulkAll {H : Type} : List (DataW H) → Nat
  | [] => 0
  | d :: r => uptoBulk d + uptoBulkAll r
def uptoBulkEntries {H : Type} : List (Lit × DataW H) → Nat
  | [] => 0
  | x :: r => uptoBulkEntry x + uptoBulkEntries r
def uptoBulkEntry {H : Type} : Lit × DataW H → Nat
  | (.string bytes, d) => bytes.length + uptoBulk d + 1
  | (_, d) => uptoBulk d + 1
 end
def uptoSmall : (H : Type) → List (DataW H) → Bool := fun _ ds => decide (uptoBulkAll ds ≤ 1048576)
def OpenSpec.upto (s : _root_.Go.ChangeSpec) : _root_.Go.OpenSpec := { _root_.Go.OpenSpec.ofChange s with cond := some uptoSmall }

/-- 'laws.FnWorldKeeps', WHERE WHAT IT READS IS OF BULK AT MOST 1048576: true; the input reads as it did. -/
def fnWorldKeepsUptoRow : OpenClaim := { program := "ytnpignnmgfdhkaagreatdoor", sum := "28add30ab5a9c46297c6e51d8db18310e0843ea07fedfd391491054d032fa1a2", func := "loop.example/ringoverlay/laws.FnWorldKeeps", spec := "fnWorldKeeps", inPlace := ["(*internal/sync.Mutex).Lock", "internal/race.Disable", "sync/atomic.CompareAndSwapInt32", "internal/race.Enable", "internal/race.Acquire", "(*internal/sync.Mutex).lockSlow", "internal/sync.runtime_canSpin", "internal/sync.runtime_doSpin", "internal/sync.throw", "internal/sync.runtime_nanotime", "internal/sync.runtime_SemacquireMutex", "sync/atomic.AddInt32", "(*internal/sync.Mutex).Unlock", "internal/race.ReleaseMerge", "(*internal/sync.Mutex).unlockSlow", "internal/sync.fatal", "internal/sync.runtime_Semrelease", "slices.overlaps[loop.example/ringoverlay/impl.Lease]", "internal/reflectlite.TypeOf", "slices.overlaps[loop.example/ringoverlay/impl.Item]", "slices.overlaps[loop.example/ringoverlay/impl.Node]"], unfollowed := true, recurses := true, named := ["loop.example/ringoverlay/impl.errArgs", "loop.example/ringoverlay/impl.errRefused"], ifaces := true, apart := false, laid := [("loop.example/ringoverlay/impl.errArgs", laid_loop_example_ringoverlay_impl_errArgs), ("loop.example/ringoverlay/impl.errRefused", laid_loop_example_ringoverlay_impl_errRefused)], narrowed := true }
def FnWorldKeepsUptoSaid : Prop := fnWorldKeepsUptoRow.holds Tryz.pinned (OpenSpec.upto fnWorldKeepsSpec)

/-- 'laws.FnWorldTick', WHERE WHAT IT READS IS OF BULK AT MOST 1048576: true; the input reads as it did. -/
def fnWorldTickUptoRow : OpenClaim := { program := "ytnpignnmgfdhkaagreatdoor", sum := "28add30ab5a9c46297c6e51d8db18310e0843ea07fedfd391491054d032fa1a2", func := "loop.example/ringoverlay/laws.FnWorldTick", spec := "fnWorldTick", inPlace := ["(*internal/sync.Mutex).Lock", "internal/race.Disable", "sync/atomic.CompareAndSwapInt32", "internal/race.Enable", "internal/race.Acquire", "(*internal/sync.Mutex).lockSlow", "internal/sync.runtime_canSpin", "internal/sync.runtime_doSpin", "internal/sync.throw", "internal/sync.runtime_nanotime", "internal/sync.runtime_SemacquireMutex", "sync/atomic.AddInt32", "(*internal/sync.Mutex).Unlock", "internal/race.ReleaseMerge", "(*internal/sync.Mutex).unlockSlow", "internal/sync.fatal", "internal/sync.runtime_Semrelease", "slices.overlaps[loop.example/ringoverlay/impl.Lease]", "internal/reflectlite.TypeOf", "slices.overlaps[loop.example/ringoverlay/impl.Item]", "slices.overlaps[loop.example/ringoverlay/impl.Node]"], unfollowed := true, recurses := true, named := ["loop.example/ringoverlay/impl.errArgs", "loop.example/ringoverlay/impl.errRefused"], ifaces := true, apart := false, laid := [("loop.example/ringoverlay/impl.errArgs", laid_loop_example_ringoverlay_impl_errArgs), ("loop.example/ringoverlay/impl.errRefused", laid_loop_example_ringoverlay_impl_errRefused)], narrowed := true }
def FnWorldTickUptoSaid : Prop := fnWorldTickUptoRow.holds Tryz.pinned (OpenSpec.upto fnWorldTickSpec)

/-- 'laws.FnWorldRing', WHERE WHAT IT READS IS OF BULK AT MOST 1048576: true; the input reads as it did. -/
def fnWorldRingUptoRow : OpenClaim := { program := "ytnpignnmgfdhkaagreatdoor", sum := "28add30ab5a9c46297c6e51d8db18310e0843ea07fedfd391491054d032fa1a2", func := "loop.example/ringoverlay/laws.FnWorldRing", spec := "fnWorldRing", inPlace := ["(*internal/sync.Mutex).Lock", "internal/race.Disable", "sync/atomic.CompareAndSwapInt32", "internal/race.Enable", "internal/race.Acquire", "(*internal/sync.Mutex).lockSlow", "internal/sync.runtime_canSpin", "internal/sync.runtime_doSpin", "internal/sync.throw", "internal/sync.runtime_nanotime", "internal/sync.runtime_SemacquireMutex", "sync/atomic.AddInt32", "(*internal/sync.Mutex).Unlock", "internal/race.ReleaseMerge", "(*internal/sync.Mutex).unlockSlow", "internal/sync.fatal", "internal/sync.runtime_Semrelease", "slices.overlaps[loop.example/ringoverlay/impl.Lease]", "internal/reflectlite.TypeOf", "slices.overlaps[loop.example/ringoverlay/impl.Item]", "slices.overlaps[loop.example/ringoverlay/impl.Node]"], unfollowed := true, recurses := true, named := ["loop.example/ringoverlay/impl.errArgs", "loop.example/ringoverlay/impl.errRefused"], ifaces := true, apart := false, laid := [("loop.example/ringoverlay/impl.errArgs", laid_loop_example_ringoverlay_impl_errArgs), ("loop.example/ringoverlay/impl.errRefused", laid_loop_example_ringoverlay_impl_errRefused)], narrowed := true }
def FnWorldRingUptoSaid : Prop := fnWorldRingUptoRow.holds Tryz.pinned (OpenSpec.upto fnWorldRingSpec)

/-- 'laws.FnWorldUnknown', WHERE WHAT IT READS IS OF BULK AT MOST 1048576: true; the input reads as it did. -/
def fnWorldUnknownUptoRow : OpenClaim := { program := "ytnpignnmgfdhkaagreatdoor", sum := "28add30ab5a9c46297c6e51d8db18310e0843ea07fedfd391491054d032fa1a2", func := "loop.example/ringoverlay/laws.FnWorldUnknown", spec := "fnWorldUnknown", inPlace := ["(*internal/sync.Mutex).Lock", "internal/race.Disable", "sync/atomic.CompareAndSwapInt32", "internal/race.Enable", "internal/race.Acquire", "(*internal/sync.Mutex).lockSlow", "internal/sync.runtime_canSpin", "internal/sync.runtime_doSpin", "internal/sync.throw", "internal/sync.runtime_nanotime", "internal/sync.runtime_SemacquireMutex", "sync/atomic.AddInt32", "(*internal/sync.Mutex).Unlock", "internal/race.ReleaseMerge", "(*internal/sync.Mutex).unlockSlow", "internal/sync.fatal", "internal/sync.runtime_Semrelease", "slices.overlaps[loop.example/ringoverlay/impl.Lease]", "internal/reflectlite.TypeOf", "slices.overlaps[loop.example/ringoverlay/impl.Item]", "slices.overlaps[loop.example/ringoverlay/impl.Node]"], unfollowed := true, recurses := true, named := ["loop.example/ringoverlay/impl.errArgs", "loop.example/ringoverlay/impl.errRefused"], ifaces := true, apart := false, laid := [("loop.example/ringoverlay/impl.errArgs", laid_loop_example_ringoverlay_impl_errArgs), ("loop.example/ringoverlay/impl.errRefused", laid_loop_example_ringoverlay_impl_errRefused)], narrowed := true }
def FnWorldUnknownUptoSaid : Prop := fnWorldUnknownUptoRow.holds Tryz.pinned (OpenSpec.upto fnWorldUnknownSpec)

/-- 'laws.FnWorldScan', WHERE WHAT IT READS IS OF BULK AT MOST 1048576: true; the input reads as it did. -/
def fnWorldScanUptoRow : OpenClaim := { program := "ytnpignnmgfdhkaagreatdoor", sum := "28add30ab5a9c46297c6e51d8db18310e0843ea07fedfd391491054d032fa1a2", func := "loop.example/ringoverlay/laws.FnWorldScan", spec := "fnWorldScan", inPlace := ["(*internal/sync.Mutex).Lock", "internal/race.Disable", "sync/atomic.CompareAndSwapInt32", "internal/race.Enable", "internal/race.Acquire", "(*internal/sync.Mutex).lockSlow", "internal/sync.runtime_canSpin", "internal/sync.runtime_doSpin", "internal/sync.throw", "internal/sync.runtime_nanotime", "internal/sync.runtime_SemacquireMutex", "sync/atomic.AddInt32", "(*internal/sync.Mutex).Unlock", "internal/race.ReleaseMerge", "(*internal/sync.Mutex).unlockSlow", "internal/sync.fatal", "internal/sync.runtime_Semrelease", "slices.overlaps[loop.example/ringoverlay/impl.Lease]", "internal/reflectlite.TypeOf", "slices.overlaps[loop.example/ringoverlay/impl.Item]", "slices.overlaps[loop.example/ringoverlay/impl.Node]"], unfollowed := true, recurses := true, named := ["loop.example/ringoverlay/impl.errArgs", "loop.example/ringoverlay/impl.errRefused"], ifaces := true, apart := false, laid := [("loop.example/ringoverlay/impl.errArgs", laid_loop_example_ringoverlay_impl_errArgs), ("loop.example/ringoverlay/impl.errRefused", laid_loop_example_ringoverlay_impl_errRefused)], narrowed := true }
def FnWorldScanUptoSaid : Prop := fnWorldScanUptoRow.holds Tryz.pinned (OpenSpec.upto fnWorldScanSpec)

/-- 'laws.FnWorldTake', WHERE WHAT IT READS IS OF BULK AT MOST 1048576: true; the input reads as it did. -/
def fnWorldTakeUptoRow : OpenClaim := { program := "ytnpignnmgfdhkaagreatdoor", sum := "28add30ab5a9c46297c6e51d8db18310e0843ea07fedfd391491054d032fa1a2", func := "loop.example/ringoverlay/laws.FnWorldTake", spec := "fnWorldTake", inPlace := ["(*internal/sync.Mutex).Lock", "internal/race.Disable", "sync/atomic.CompareAndSwapInt32", "internal/race.Enable", "internal/race.Acquire", "(*internal/sync.Mutex).lockSlow", "internal/sync.runtime_canSpin", "internal/sync.runtime_doSpin", "internal/sync.throw", "internal/sync.runtime_nanotime", "internal/sync.runtime_SemacquireMutex", "sync/atomic.AddInt32", "(*internal/sync.Mutex).Unlock", "internal/race.ReleaseMerge", "(*internal/sync.Mutex).unlockSlow", "internal/sync.fatal", "internal/sync.runtime_Semrelease", "slices.overlaps[loop.example/ringoverlay/impl.Lease]", "internal/reflectlite.TypeOf", "slices.overlaps[loop.example/ringoverlay/impl.Item]", "slices.overlaps[loop.example/ringoverlay/impl.Node]"], unfollowed := true, recurses := true, named := ["loop.example/ringoverlay/impl.errArgs", "loop.example/ringoverlay/impl.errRefused"], ifaces := true, apart := false, laid := [("loop.example/ringoverlay/impl.errArgs", laid_loop_example_ringoverlay_impl_errArgs), ("loop.example/ringoverlay/impl.errRefused", laid_loop_example_ringoverlay_impl_errRefused)], narrowed := true }
def FnWorldTakeUptoSaid : Prop := fnWorldTakeUptoRow.holds Tryz.pinned (OpenSpec.upto fnWorldTakeSpec)

end Rows
end Go.Proofs.YtnpignnmgfdhkaaGreatDoor
