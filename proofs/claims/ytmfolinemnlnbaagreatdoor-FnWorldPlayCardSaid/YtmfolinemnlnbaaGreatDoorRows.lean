/-
  NARROWER THAN 'FOR EVERY INPUT', by the rows' own cells (each row's printed sentence says how): FnWorldPut: ifaces, laid · FnWorldMissed: ifaces, laid · FnWorldPlay: ifaces, laid · FnWorldInvalid: ifaces, laid · FnWorldCalmScan: ifaces, laid · FnWorldCalm: ifaces, laid.
  DERIVED. THE GIVEN ROWS OF THIS SEAT. 6 by the template 'for every input the law returns true; each argument reads behind the call as it read before'; 0 by the template 'total and deterministic' (their statements: YtmfolinemnlnbaaGreatDoorTotals.lean).
  GIVEN WITH THE SEED: the statements are not yours to turn. If you find one false, say at which input.
  Laid BY PROGRAM, IN A SANDBOX (cutbox-rows.mjs): the forced cells as the released guide's own fill.sh prints them over the translation 07aa4eb9f9c7fe6c… (all of the seat's roots in one cut). By AI agents, Wed Nov 11 2026. No macro, syntax, notation, axiom, sorry.
-/
import Derived.Test.YtmfolinemnlnbaaGreatDoorChecked
import GoSem.Claim
import GoSem.ClaimJoined
import GoSem.ClaimMapViews
import Derived.JoinedTies
import Derived.KernelRfl
namespace Go.Proofs.YtmfolinemnlnbaaGreatDoor
/- THE CELL 'sum', in the pinned program and in every row, IS THE sha256 OF THE DUMP (.gsa) THAT YtmfolinemnlnbaaGreatDoorProg.lean LOADS. Nothing in Lean hashes anything: it is a label: what it is worth is what the hold of that sum in a sandbox is worth. -/
noncomputable def Tryz.pinned : Pinned := { name := "ytmfolinemnlnbaagreatdoor", sum := "07aa4eb9f9c7fe6cfd740718eccde87bd5c6fdffa4aad660f211743a967b32f5", checked := Tryz.checked }
namespace Rows
def none {H : Type} : Left H := { results := [], args := [] }

/- WHAT THE LISTED PACKAGE-LEVEL VARIABLES READ AS WHEN THE CALL BEGINS. Each datum BY PROGRAM (the guide's laid-datum.mjs) off the statement by which the dump's own 'gosem.cut.vars' lays the variable. In a bare row this is a premise. The card (YtmfolinemnlnbaaGreatDoorCards.lean) ties it to the program's text. -/
def laid_loop_example_ringoverlay_impl_errArgs {H : Type} : DataW H := .iface "*errors.errorString" (.ptr (.agg [.lit (.string [97, 114, 103, 117, 109, 101, 110, 116, 115])]))
def laid_loop_example_ringoverlay_impl_errRefused {H : Type} : DataW H := .iface "*errors.errorString" (.ptr (.agg [.lit (.string [114, 101, 102, 117, 115, 101, 100])]))

/-- 'laws.FnWorldPut': WHATEVER THE INPUT: true; the input reads as it did. -/
def fnWorldPutSpec : ChangeSpec := { name := "fnWorldPut", vars := ["loop.example/ringoverlay/impl.errArgs", "loop.example/ringoverlay/impl.errRefused"], fn := fun _ => fun
  | [d1, d2, g1, g2] => { results := [.lit (.bool true)], args := [d1, d2], vars := [g1, g2] }
  | _ => none }
def fnWorldPutRow : OpenClaim := { program := "ytmfolinemnlnbaagreatdoor", sum := "07aa4eb9f9c7fe6cfd740718eccde87bd5c6fdffa4aad660f211743a967b32f5", func := "loop.example/ringoverlay/laws.FnWorldPut", spec := "fnWorldPut", inPlace := ["(*internal/sync.Mutex).Lock", "internal/race.Disable", "sync/atomic.CompareAndSwapInt32", "internal/race.Enable", "internal/race.Acquire", "(*internal/sync.Mutex).lockSlow", "internal/sync.runtime_canSpin", "internal/sync.runtime_doSpin", "internal/sync.throw", "internal/sync.runtime_nanotime", "internal/sync.runtime_SemacquireMutex", "sync/atomic.AddInt32", "(*internal/sync.Mutex).Unlock", "internal/race.ReleaseMerge", "(*internal/sync.Mutex).unlockSlow", "internal/sync.fatal", "internal/sync.runtime_Semrelease", "slices.overlaps[loop.example/ringoverlay/impl.Lease]", "internal/reflectlite.TypeOf", "slices.overlaps[loop.example/ringoverlay/impl.Item]", "slices.overlaps[loop.example/ringoverlay/impl.Node]"], unfollowed := true, recurses := true, named := ["loop.example/ringoverlay/impl.errArgs", "loop.example/ringoverlay/impl.errRefused"], ifaces := true, apart := false, laid := [("loop.example/ringoverlay/impl.errArgs", laid_loop_example_ringoverlay_impl_errArgs), ("loop.example/ringoverlay/impl.errRefused", laid_loop_example_ringoverlay_impl_errRefused)] }
def FnWorldPutSaid : Prop := fnWorldPutRow.holds Tryz.pinned (OpenSpec.ofChange fnWorldPutSpec)

/-- ITS FALSE NEIGHBOUR: 'it returns false'. Refute it at one input. -/
def fnWorldPutWrong : ChangeSpec := { name := "fnWorldPut", vars := ["loop.example/ringoverlay/impl.errArgs", "loop.example/ringoverlay/impl.errRefused"], fn := fun _ => fun
  | [d1, d2, g1, g2] => { results := [.lit (.bool false)], args := [d1, d2], vars := [g1, g2] }
  | _ => none }
def FnWorldPutWrongFalsely : Prop := fnWorldPutRow.holds Tryz.pinned (OpenSpec.ofChange fnWorldPutWrong)

/-- 'laws.FnWorldMissed': WHATEVER THE INPUT: true; the input reads as it did. -/
def fnWorldMissedSpec : ChangeSpec := { name := "fnWorldMissed", vars := ["loop.example/ringoverlay/impl.errArgs", "loop.example/ringoverlay/impl.errRefused"], fn := fun _ => fun
  | [d, g1, g2] => { results := [.lit (.bool true)], args := [d], vars := [g1, g2] }
  | _ => none }
def fnWorldMissedRow : OpenClaim := { program := "ytmfolinemnlnbaagreatdoor", sum := "07aa4eb9f9c7fe6cfd740718eccde87bd5c6fdffa4aad660f211743a967b32f5", func := "loop.example/ringoverlay/laws.FnWorldMissed", spec := "fnWorldMissed", inPlace := ["(*internal/sync.Mutex).Lock", "internal/race.Disable", "sync/atomic.CompareAndSwapInt32", "internal/race.Enable", "internal/race.Acquire", "(*internal/sync.Mutex).lockSlow", "internal/sync.runtime_canSpin", "internal/sync.runtime_doSpin", "internal/sync.throw", "internal/sync.runtime_nanotime", "internal/sync.runtime_SemacquireMutex", "sync/atomic.AddInt32", "(*internal/sync.Mutex).Unlock", "internal/race.ReleaseMerge", "(*internal/sync.Mutex).unlockSlow", "internal/sync.fatal", "internal/sync.runtime_Semrelease", "slices.overlaps[loop.example/ringoverlay/impl.Lease]", "internal/reflectlite.TypeOf", "slices.overlaps[loop.example/ringoverlay/impl.Item]", "slices.overlaps[loop.example/ringoverlay/impl.Node]"], unfollowed := true, recurses := true, named := ["loop.example/ringoverlay/impl.errArgs", "loop.example/ringoverlay/impl.errRefused"], ifaces := true, apart := false, laid := [("loop.example/ringoverlay/impl.errArgs", laid_loop_example_ringoverlay_impl_errArgs), ("loop.example/ringoverlay/impl.errRefused", laid_loop_example_ringoverlay_impl_errRefused)] }
def FnWorldMissedSaid : Prop := fnWorldMissedRow.holds Tryz.pinned (OpenSpec.ofChange fnWorldMissedSpec)

/-- ITS FALSE NEIGHBOUR: 'it returns false'. Refute it at one input. -/
def fnWorldMissedWrong : ChangeSpec := { name := "fnWorldMissed", vars := ["loop.example/ringoverlay/impl.errArgs", "loop.example/ringoverlay/impl.errRefused"], fn := fun _ => fun
  | [d, g1, g2] => { results := [.lit (.bool false)], args := [d], vars := [g1, g2] }
  | _ => none }
def FnWorldMissedWrongFalsely : Prop := fnWorldMissedRow.holds Tryz.pinned (OpenSpec.ofChange fnWorldMissedWrong)

/-- 'laws.FnWorldPlay': WHATEVER THE INPUT: true; the input reads as it did. -/
def fnWorldPlaySpec : ChangeSpec := { name := "fnWorldPlay", vars := ["loop.example/ringoverlay/impl.errArgs", "loop.example/ringoverlay/impl.errRefused"], fn := fun _ => fun
  | [d1, d2, g1, g2] => { results := [.lit (.bool true)], args := [d1, d2], vars := [g1, g2] }
  | _ => none }
def fnWorldPlayRow : OpenClaim := { program := "ytmfolinemnlnbaagreatdoor", sum := "07aa4eb9f9c7fe6cfd740718eccde87bd5c6fdffa4aad660f211743a967b32f5", func := "loop.example/ringoverlay/laws.FnWorldPlay", spec := "fnWorldPlay", inPlace := ["(*internal/sync.Mutex).Lock", "internal/race.Disable", "sync/atomic.CompareAndSwapInt32", "internal/race.Enable", "internal/race.Acquire", "(*internal/sync.Mutex).lockSlow", "internal/sync.runtime_canSpin", "internal/sync.runtime_doSpin", "internal/sync.throw", "internal/sync.runtime_nanotime", "internal/sync.runtime_SemacquireMutex", "sync/atomic.AddInt32", "(*internal/sync.Mutex).Unlock", "internal/race.ReleaseMerge", "(*internal/sync.Mutex).unlockSlow", "internal/sync.fatal", "internal/sync.runtime_Semrelease", "slices.overlaps[loop.example/ringoverlay/impl.Lease]", "internal/reflectlite.TypeOf", "slices.overlaps[loop.example/ringoverlay/impl.Item]", "slices.overlaps[loop.example/ringoverlay/impl.Node]"], unfollowed := true, recurses := true, named := ["loop.example/ringoverlay/impl.errArgs", "loop.example/ringoverlay/impl.errRefused"], ifaces := true, apart := false, laid := [("loop.example/ringoverlay/impl.errArgs", laid_loop_example_ringoverlay_impl_errArgs), ("loop.example/ringoverlay/impl.errRefused", laid_loop_example_ringoverlay_impl_errRefused)] }
def FnWorldPlaySaid : Prop := fnWorldPlayRow.holds Tryz.pinned (OpenSpec.ofChange fnWorldPlaySpec)

/-- ITS FALSE NEIGHBOUR: 'it returns false'. Refute it at one input. -/
def fnWorldPlayWrong : ChangeSpec := { name := "fnWorldPlay", vars := ["loop.example/ringoverlay/impl.errArgs", "loop.example/ringoverlay/impl.errRefused"], fn := fun _ => fun
  | [d1, d2, g1, g2] => { results := [.lit (.bool false)], args := [d1, d2], vars := [g1, g2] }
  | _ => none }
def FnWorldPlayWrongFalsely : Prop := fnWorldPlayRow.holds Tryz.pinned (OpenSpec.ofChange fnWorldPlayWrong)

/-- 'laws.FnWorldInvalid': WHATEVER THE INPUT: true; the input reads as it did. -/
def fnWorldInvalidSpec : ChangeSpec := { name := "fnWorldInvalid", vars := ["loop.example/ringoverlay/impl.errArgs", "loop.example/ringoverlay/impl.errRefused"], fn := fun _ => fun
  | [d, g1, g2] => { results := [.lit (.bool true)], args := [d], vars := [g1, g2] }
  | _ => none }
def fnWorldInvalidRow : OpenClaim := { program := "ytmfolinemnlnbaagreatdoor", sum := "07aa4eb9f9c7fe6cfd740718eccde87bd5c6fdffa4aad660f211743a967b32f5", func := "loop.example/ringoverlay/laws.FnWorldInvalid", spec := "fnWorldInvalid", inPlace := ["(*internal/sync.Mutex).Lock", "internal/race.Disable", "sync/atomic.CompareAndSwapInt32", "internal/race.Enable", "internal/race.Acquire", "(*internal/sync.Mutex).lockSlow", "internal/sync.runtime_canSpin", "internal/sync.runtime_doSpin", "internal/sync.throw", "internal/sync.runtime_nanotime", "internal/sync.runtime_SemacquireMutex", "sync/atomic.AddInt32", "(*internal/sync.Mutex).Unlock", "internal/race.ReleaseMerge", "(*internal/sync.Mutex).unlockSlow", "internal/sync.fatal", "internal/sync.runtime_Semrelease", "slices.overlaps[loop.example/ringoverlay/impl.Lease]", "internal/reflectlite.TypeOf", "slices.overlaps[loop.example/ringoverlay/impl.Item]", "slices.overlaps[loop.example/ringoverlay/impl.Node]"], unfollowed := true, recurses := true, named := ["loop.example/ringoverlay/impl.errArgs", "loop.example/ringoverlay/impl.errRefused"], ifaces := true, apart := false, laid := [("loop.example/ringoverlay/impl.errArgs", laid_loop_example_ringoverlay_impl_errArgs), ("loop.example/ringoverlay/impl.errRefused", laid_loop_example_ringoverlay_impl_errRefused)] }
def FnWorldInvalidSaid : Prop := fnWorldInvalidRow.holds Tryz.pinned (OpenSpec.ofChange fnWorldInvalidSpec)

/-- ITS FALSE NEIGHBOUR: 'it returns false'. Refute it at one input. -/
def fnWorldInvalidWrong : ChangeSpec := { name := "fnWorldInvalid", vars := ["loop.example/ringoverlay/impl.errArgs", "loop.example/ringoverlay/impl.errRefused"], fn := fun _ => fun
  | [d, g1, g2] => { results := [.lit (.bool false)], args := [d], vars := [g1, g2] }
  | _ => none }
def FnWorldInvalidWrongFalsely : Prop := fnWorldInvalidRow.holds Tryz.pinned (OpenSpec.ofChange fnWorldInvalidWrong)

/-- 'laws.FnWorldCalmScan': WHATEVER THE INPUT: true; the input reads as it did. -/
def fnWorldCalmScanSpec : ChangeSpec := { name := "fnWorldCalmScan", vars := ["loop.example/ringoverlay/impl.errArgs", "loop.example/ringoverlay/impl.errRefused"], fn := fun _ => fun
  | [d, g1, g2] => { results := [.lit (.bool true)], args := [d], vars := [g1, g2] }
  | _ => none }
def fnWorldCalmScanRow : OpenClaim := { program := "ytmfolinemnlnbaagreatdoor", sum := "07aa4eb9f9c7fe6cfd740718eccde87bd5c6fdffa4aad660f211743a967b32f5", func := "loop.example/ringoverlay/laws.FnWorldCalmScan", spec := "fnWorldCalmScan", inPlace := ["(*internal/sync.Mutex).Lock", "internal/race.Disable", "sync/atomic.CompareAndSwapInt32", "internal/race.Enable", "internal/race.Acquire", "(*internal/sync.Mutex).lockSlow", "internal/sync.runtime_canSpin", "internal/sync.runtime_doSpin", "internal/sync.throw", "internal/sync.runtime_nanotime", "internal/sync.runtime_SemacquireMutex", "sync/atomic.AddInt32", "(*internal/sync.Mutex).Unlock", "internal/race.ReleaseMerge", "(*internal/sync.Mutex).unlockSlow", "internal/sync.fatal", "internal/sync.runtime_Semrelease", "slices.overlaps[loop.example/ringoverlay/impl.Lease]", "internal/reflectlite.TypeOf", "slices.overlaps[loop.example/ringoverlay/impl.Item]", "slices.overlaps[loop.example/ringoverlay/impl.Node]"], unfollowed := true, recurses := true, named := ["loop.example/ringoverlay/impl.errArgs", "loop.example/ringoverlay/impl.errRefused"], ifaces := true, apart := false, laid := [("loop.example/ringoverlay/impl.errArgs", laid_loop_example_ringoverlay_impl_errArgs), ("loop.example/ringoverlay/impl.errRefused", laid_loop_example_ringoverlay_impl_errRefused)] }
def FnWorldCalmScanSaid : Prop := fnWorldCalmScanRow.holds Tryz.pinned (OpenSpec.ofChange fnWorldCalmScanSpec)

/-- ITS FALSE NEIGHBOUR: 'it returns false'. Refute it at one input. -/
def fnWorldCalmScanWrong : ChangeSpec := { name := "fnWorldCalmScan", vars := ["loop.example/ringoverlay/impl.errArgs", "loop.example/ringoverlay/impl.errRefused"], fn := fun _ => fun
  | [d, g1, g2] => { results := [.lit (.bool false)], args := [d], vars := [g1, g2] }
  | _ => none }
def FnWorldCalmScanWrongFalsely : Prop := fnWorldCalmScanRow.holds Tryz.pinned (OpenSpec.ofChange fnWorldCalmScanWrong)

/-- 'laws.FnWorldCalm': WHATEVER THE INPUT: true; the input reads as it did. -/
def fnWorldCalmSpec : ChangeSpec := { name := "fnWorldCalm", vars := ["loop.example/ringoverlay/impl.errArgs", "loop.example/ringoverlay/impl.errRefused"], fn := fun _ => fun
  | [d, g1, g2] => { results := [.lit (.bool true)], args := [d], vars := [g1, g2] }
  | _ => none }
def fnWorldCalmRow : OpenClaim := { program := "ytmfolinemnlnbaagreatdoor", sum := "07aa4eb9f9c7fe6cfd740718eccde87bd5c6fdffa4aad660f211743a967b32f5", func := "loop.example/ringoverlay/laws.FnWorldCalm", spec := "fnWorldCalm", inPlace := ["(*internal/sync.Mutex).Lock", "internal/race.Disable", "sync/atomic.CompareAndSwapInt32", "internal/race.Enable", "internal/race.Acquire", "(*internal/sync.Mutex).lockSlow", "internal/sync.runtime_canSpin", "internal/sync.runtime_doSpin", "internal/sync.throw", "internal/sync.runtime_nanotime", "internal/sync.runtime_SemacquireMutex", "sync/atomic.AddInt32", "(*internal/sync.Mutex).Unlock", "internal/race.ReleaseMerge", "(*internal/sync.Mutex).unlockSlow", "internal/sync.fatal", "internal/sync.runtime_Semrelease", "slices.overlaps[loop.example/ringoverlay/impl.Lease]", "internal/reflectlite.TypeOf", "slices.overlaps[loop.example/ringoverlay/impl.Item]", "slices.overlaps[loop.example/ringoverlay/impl.Node]"], unfollowed := true, recurses := true, named := ["loop.example/ringoverlay/impl.errArgs", "loop.example/ringoverlay/impl.errRefused"], ifaces := true, apart := false, laid := [("loop.example/ringoverlay/impl.errArgs", laid_loop_example_ringoverlay_impl_errArgs), ("loop.example/ringoverlay/impl.errRefused", laid_loop_example_ringoverlay_impl_errRefused)] }
def FnWorldCalmSaid : Prop := fnWorldCalmRow.holds Tryz.pinned (OpenSpec.ofChange fnWorldCalmSpec)

/-- ITS FALSE NEIGHBOUR: 'it returns false'. Refute it at one input. -/
def fnWorldCalmWrong : ChangeSpec := { name := "fnWorldCalm", vars := ["loop.example/ringoverlay/impl.errArgs", "loop.example/ringoverlay/impl.errRefused"], fn := fun _ => fun
  | [d, g1, g2] => { results := [.lit (.bool false)], args := [d], vars := [g1, g2] }
  | _ => none }
def FnWorldCalmWrongFalsely : Prop := fnWorldCalmRow.holds Tryz.pinned (OpenSpec.ofChange fnWorldCalmWrong)

/- THE SECOND FORM. 'bulk': how many values and letters a reading holds, each counted each time it is reached (what is shared counts as often as it is met; a slice's spare places count too). A statement '..UptoSaid' is the law's where the arguments, and the package variables that the reading takes, are together of bulk at most 1048576: NARROWER than '..Said'. Prove '..Said' where nothing that the law and all that it calls make is longer than what came in: it says more and counts as full. Else prove '..UptoSaid'. A law counts once. -/
mutual
def uptoBulk {H : Type} : DataW H → Nat
  | .lit (.string bytes) => bytes.length + 1
  | .lit _ => 1
  | .nil => 1
  | .ptr d => uptoBulk d + 1
  | .slice elems spare => uptoBulkAll elems + uptoBulkAll spare + 1
  | .agg parts => uptoBulkAll parts + 1
  | .iface _ d => uptoBulk d + 1
  | .map entries => uptoBulkEntries entries + 1
  | .held _ => 1
def uptoBulkAll {H : Type} : List (DataW H) → Nat
  | [] => 0
  | d :: r => uptoBulk d + uptoBulkAll r
def uptoBulkEntries {H : Type} : List (Lit × DataW H) → Nat
  | [] => 0
  | x :: r => uptoBulkEntry x + uptoBulkEntries r
def uptoBulkEntry {H : Type} : Lit × DataW H → Nat
  | (.string bytes, d) => bytes.length + uptoBulk d + 1
  | (_, d) => uptoBulk d + 1
 end
def uptoSmall : (H : Type) → List (DataW H) → Bool := fun _ ds => decide (uptoBulkAll ds ≤ 1048576)
def OpenSpec.upto (s : _root_.Go.ChangeSpec) : _root_.Go.OpenSpec := { _root_.Go.OpenSpec.ofChange s with cond := some uptoSmall }

/-- 'laws.FnWorldPut', WHERE WHAT IT READS IS OF BULK AT MOST 1048576: true; the input reads as it did. -/
def fnWorldPutUptoRow : OpenClaim := { program := "ytmfolinemnlnbaagreatdoor", sum := "07aa4eb9f9c7fe6cfd740718eccde87bd5c6fdffa4aad660f211743a967b32f5", func := "loop.example/ringoverlay/laws.FnWorldPut", spec := "fnWorldPut", inPlace := ["(*internal/sync.Mutex).Lock", "internal/race.Disable", "sync/atomic.CompareAndSwapInt32", "internal/race.Enable", "internal/race.Acquire", "(*internal/sync.Mutex).lockSlow", "internal/sync.runtime_canSpin", "internal/sync.runtime_doSpin", "internal/sync.throw", "internal/sync.runtime_nanotime", "internal/sync.runtime_SemacquireMutex", "sync/atomic.AddInt32", "(*internal/sync.Mutex).Unlock", "internal/race.ReleaseMerge", "(*internal/sync.Mutex).unlockSlow", "internal/sync.fatal", "internal/sync.runtime_Semrelease", "slices.overlaps[loop.example/ringoverlay/impl.Lease]", "internal/reflectlite.TypeOf", "slices.overlaps[loop.example/ringoverlay/impl.Item]", "slices.overlaps[loop.example/ringoverlay/impl.Node]"], unfollowed := true, recurses := true, named := ["loop.example/ringoverlay/impl.errArgs", "loop.example/ringoverlay/impl.errRefused"], ifaces := true, apart := false, laid := [("loop.example/ringoverlay/impl.errArgs", laid_loop_example_ringoverlay_impl_errArgs), ("loop.example/ringoverlay/impl.errRefused", laid_loop_example_ringoverlay_impl_errRefused)], narrowed := true }
def FnWorldPutUptoSaid : Prop := fnWorldPutUptoRow.holds Tryz.pinned (OpenSpec.upto fnWorldPutSpec)

/-- 'laws.FnWorldMissed', WHERE WHAT IT READS IS OF BULK AT MOST 1048576: true; the input reads as it did. -/
def fnWorldMissedUptoRow : OpenClaim := { program := "ytmfolinemnlnbaagreatdoor", sum := "07aa4eb9f9c7fe6cfd740718eccde87bd5c6fdffa4aad660f211743a967b32f5", func := "loop.example/ringoverlay/laws.FnWorldMissed", spec := "fnWorldMissed", inPlace := ["(*internal/sync.Mutex).Lock", "internal/race.Disable", "sync/atomic.CompareAndSwapInt32", "internal/race.Enable", "internal/race.Acquire", "(*internal/sync.Mutex).lockSlow", "internal/sync.runtime_canSpin", "internal/sync.runtime_doSpin", "internal/sync.throw", "internal/sync.runtime_nanotime", "internal/sync.runtime_SemacquireMutex", "sync/atomic.AddInt32", "(*internal/sync.Mutex).Unlock", "internal/race.ReleaseMerge", "(*internal/sync.Mutex).unlockSlow", "internal/sync.fatal", "internal/sync.runtime_Semrelease", "slices.overlaps[loop.example/ringoverlay/impl.Lease]", "internal/reflectlite.TypeOf", "slices.overlaps[loop.example/ringoverlay/impl.Item]", "slices.overlaps[loop.example/ringoverlay/impl.Node]"], unfollowed := true, recurses := true, named := ["loop.example/ringoverlay/impl.errArgs", "loop.example/ringoverlay/impl.errRefused"], ifaces := true, apart := false, laid := [("loop.example/ringoverlay/impl.errArgs", laid_loop_example_ringoverlay_impl_errArgs), ("loop.example/ringoverlay/impl.errRefused", laid_loop_example_ringoverlay_impl_errRefused)], narrowed := true }
def FnWorldMissedUptoSaid : Prop := fnWorldMissedUptoRow.holds Tryz.pinned (OpenSpec.upto fnWorldMissedSpec)

/-- 'laws.FnWorldPlay', WHERE WHAT IT READS IS OF BULK AT MOST 1048576: true; the input reads as it did. -/
def fnWorldPlayUptoRow : OpenClaim := { program := "ytmfolinemnlnbaagreatdoor", sum := "07aa4eb9f9c7fe6cfd740718eccde87bd5c6fdffa4aad660f211743a967b32f5", func := "loop.example/ringoverlay/laws.FnWorldPlay", spec := "fnWorldPlay", inPlace := ["(*internal/sync.Mutex).Lock", "internal/race.Disable", "sync/atomic.CompareAndSwapInt32", "internal/race.Enable", "internal/race.Acquire", "(*internal/sync.Mutex).lockSlow", "internal/sync.runtime_canSpin", "internal/sync.runtime_doSpin", "internal/sync.throw", "internal/sync.runtime_nanotime", "internal/sync.runtime_SemacquireMutex", "sync/atomic.AddInt32", "(*internal/sync.Mutex).Unlock", "internal/race.ReleaseMerge", "(*internal/sync.Mutex).unlockSlow", "internal/sync.fatal", "internal/sync.runtime_Semrelease", "slices.overlaps[loop.example/ringoverlay/impl.Lease]", "internal/reflectlite.TypeOf", "slices.overlaps[loop.example/ringoverlay/impl.Item]", "slices.overlaps[loop.example/ringoverlay/impl.Node]"], unfollowed := true, recurses := true, named := ["loop.example/ringoverlay/impl.errArgs", "loop.example/ringoverlay/impl.errRefused"], ifaces := true, apart := false, laid := [("loop.example/ringoverlay/impl.errArgs", laid_loop_example_ringoverlay_impl_errArgs), ("loop.example/ringoverlay/impl.errRefused", laid_loop_example_ringoverlay_impl_errRefused)], narrowed := true }
def FnWorldPlayUptoSaid : Prop := fnWorldPlayUptoRow.holds Tryz.pinned (OpenSpec.upto fnWorldPlaySpec)

/-- 'laws.FnWorldInvalid', WHERE WHAT IT READS IS OF BULK AT MOST 1048576: true; the input reads as it did. -/
def fnWorldInvalidUptoRow : OpenClaim := { program := "ytmfolinemnlnbaagreatdoor", sum := "07aa4eb9f9c7fe6cfd740718eccde87bd5c6fdffa4aad660f211743a967b32f5", func := "loop.example/ringoverlay/laws.FnWorldInvalid", spec := "fnWorldInvalid", inPlace := ["(*internal/sync.Mutex).Lock", "internal/race.Disable", "sync/atomic.CompareAndSwapInt32", "internal/race.Enable", "internal/race.Acquire", "(*internal/sync.Mutex).lockSlow", "internal/sync.runtime_canSpin", "internal/sync.runtime_doSpin", "internal/sync.throw", "internal/sync.runtime_nanotime", "internal/sync.runtime_SemacquireMutex", "sync/atomic.AddInt32", "(*internal/sync.Mutex).Unlock", "internal/race.ReleaseMerge", "(*internal/sync.Mutex).unlockSlow", "internal/sync.fatal", "internal/sync.runtime_Semrelease", "slices.overlaps[loop.example/ringoverlay/impl.Lease]", "internal/reflectlite.TypeOf", "slices.overlaps[loop.example/ringoverlay/impl.Item]", "slices.overlaps[loop.example/ringoverlay/impl.Node]"], unfollowed := true, recurses := true, named := ["loop.example/ringoverlay/impl.errArgs", "loop.example/ringoverlay/impl.errRefused"], ifaces := true, apart := false, laid := [("loop.example/ringoverlay/impl.errArgs", laid_loop_example_ringoverlay_impl_errArgs), ("loop.example/ringoverlay/impl.errRefused", laid_loop_example_ringoverlay_impl_errRefused)], narrowed := true }
def FnWorldInvalidUptoSaid : Prop := fnWorldInvalidUptoRow.holds Tryz.pinned (OpenSpec.upto fnWorldInvalidSpec)

/-- 'laws.FnWorldCalmScan', WHERE WHAT IT READS IS OF BULK AT MOST 1048576: true; the input reads as it did. -/
def fnWorldCalmScanUptoRow : OpenClaim := { program := "ytmfolinemnlnbaagreatdoor", sum := "07aa4eb9f9c7fe6cfd740718eccde87bd5c6fdffa4aad660f211743a967b32f5", func := "loop.example/ringoverlay/laws.FnWorldCalmScan", spec := "fnWorldCalmScan", inPlace := ["(*internal/sync.Mutex).Lock", "internal/race.Disable", "sync/atomic.CompareAndSwapInt32", "internal/race.Enable", "internal/race.Acquire", "(*internal/sync.Mutex).lockSlow", "internal/sync.runtime_canSpin", "internal/sync.runtime_doSpin", "internal/sync.throw", "internal/sync.runtime_nanotime", "internal/sync.runtime_SemacquireMutex", "sync/atomic.AddInt32", "(*internal/sync.Mutex).Unlock", "internal/race.ReleaseMerge", "(*internal/sync.Mutex).unlockSlow", "internal/sync.fatal", "internal/sync.runtime_Semrelease", "slices.overlaps[loop.example/ringoverlay/impl.Lease]", "internal/reflectlite.TypeOf", "slices.overlaps[loop.example/ringoverlay/impl.Item]", "slices.overlaps[loop.example/ringoverlay/impl.Node]"], unfollowed := true, recurses := true, named := ["loop.example/ringoverlay/impl.errArgs", "loop.example/ringoverlay/impl.errRefused"], ifaces := true, apart := false, laid := [("loop.example/ringoverlay/impl.errArgs", laid_loop_example_ringoverlay_impl_errArgs), ("loop.example/ringoverlay/impl.errRefused", laid_loop_example_ringoverlay_impl_errRefused)], narrowed := true }
def FnWorldCalmScanUptoSaid : Prop := fnWorldCalmScanUptoRow.holds Tryz.pinned (OpenSpec.upto fnWorldCalmScanSpec)

/-- 'laws.FnWorldCalm', WHERE WHAT IT READS IS OF BULK AT MOST 1048576: true; the input reads as it did. -/
def fnWorldCalmUptoRow : OpenClaim := { program := "ytmfolinemnlnbaagreatdoor", sum := "07aa4eb9f9c7fe6cfd740718eccde87bd5c6fdffa4aad660f211743a967b32f5", func := "loop.example/ringoverlay/laws.FnWorldCalm", spec := "fnWorldCalm", inPlace := ["(*internal/sync.Mutex).Lock", "internal/race.Disable", "sync/atomic.CompareAndSwapInt32", "internal/race.Enable", "internal/race.Acquire", "(*internal/sync.Mutex).lockSlow", "internal/sync.runtime_canSpin", "internal/sync.runtime_doSpin", "internal/sync.throw", "internal/sync.runtime_nanotime", "internal/sync.runtime_SemacquireMutex", "sync/atomic.AddInt32", "(*internal/sync.Mutex).Unlock", "internal/race.ReleaseMerge", "(*internal/sync.Mutex).unlockSlow", "internal/sync.fatal", "internal/sync.runtime_Semrelease", "slices.overlaps[loop.example/ringoverlay/impl.Lease]", "internal/reflectlite.TypeOf", "slices.overlaps[loop.example/ringoverlay/impl.Item]", "slices.overlaps[loop.example/ringoverlay/impl.Node]"], unfollowed := true, recurses := true, named := ["loop.example/ringoverlay/impl.errArgs", "loop.example/ringoverlay/impl.errRefused"], ifaces := true, apart := false, laid := [("loop.example/ringoverlay/impl.errArgs", laid_loop_example_ringoverlay_impl_errArgs), ("loop.example/ringoverlay/impl.errRefused", laid_loop_example_ringoverlay_impl_errRefused)], narrowed := true }
def FnWorldCalmUptoSaid : Prop := fnWorldCalmUptoRow.holds Tryz.pinned (OpenSpec.upto fnWorldCalmSpec)

end Rows
end Go.Proofs.YtmfolinemnlnbaaGreatDoor
