/-
  NARROWER THAN 'FOR EVERY INPUT', by the rows' own cells (each row's printed sentence says how): FnWorldHandover: ifaces, laid · FnWorldFail: ifaces, laid · FnWorldHand: ifaces, laid · FnWorldGiven: ifaces, laid · FnWorldChange: ifaces, laid · FnWorldSince: ifaces, laid.
  DERIVED. THE GIVEN ROWS OF THIS SEAT. 6 by the template 'for every input the law returns true; each argument reads behind the call as it read before'; 0 by the template 'total and deterministic' (their statements: YtghlkpjhdgceiaaGreatDoorTotals.lean).
  GIVEN WITH THE SEED: the statements are not yours to turn. If you find one false, say at which input.
  Laid BY PROGRAM, IN A SANDBOX (cutbox-rows.mjs): the forced cells as the released guide's own fill.sh prints them over the translation 7d6e84950fbd4bad… (all of the seat's roots in one cut). By AI agents, Wed Nov 11 2026. No macro, syntax, notation, axiom, sorry.
-/
import Derived.Test.YtghlkpjhdgceiaaGreatDoorChecked
import GoSem.Claim
import GoSem.ClaimJoined
import GoSem.ClaimMapViews
import Derived.JoinedTies
import Derived.KernelRfl
namespace Go.Proofs.YtghlkpjhdgceiaaGreatDoor
/- THE CELL 'sum', in the pinned program and in every row, IS THE sha256 OF THE DUMP (.gsa) THAT YtghlkpjhdgceiaaGreatDoorProg.lean LOADS. Nothing in Lean hashes anything: it is a label: what it is worth is what the hold of that sum in a sandbox is worth. -/
noncomputable def Tryz.pinned : Pinned := { name := "ytghlkpjhdgceiaagreatdoor", sum := "7d6e84950fbd4bad9e8c4c12db19511e65a42ae5f2806c4ff65d2989be1754ed", checked := Tryz.checked }
namespace Rows
def none {H : Type} : Left H := { results := [], args := [] }

/- WHAT THE LISTED PACKAGE-LEVEL VARIABLES READ AS WHEN THE CALL BEGINS. Each datum BY PROGRAM (the guide's laid-datum.mjs) off the statement by which the dump's own 'gosem.cut.vars' lays the variable. In a bare row this is a premise. The card (YtghlkpjhdgceiaaGreatDoorCards.lean) ties it to the program's text. -/
def laid_loop_example_ringoverlay_impl_errArgs {H : Type} : DataW H := .iface "*errors.errorString" (.ptr (.agg [.lit (.string [97, 114, 103, 117, 109, 101, 110, 116, 115])]))
def laid_loop_example_ringoverlay_impl_errRefused {H : Type} : DataW H := .iface "*errors.errorString" (.ptr (.agg [.lit (.string [114, 101, 102, 117, 115, 101, 100])]))

/-- 'laws.FnWorldHandover': WHATEVER THE INPUT: true; the input reads as it did. -/
def fnWorldHandoverSpec : ChangeSpec := { name := "fnWorldHandover", vars := ["loop.example/ringoverlay/impl.errArgs", "loop.example/ringoverlay/impl.errRefused"], fn := fun _ => fun
  | [d, g1, g2] => { results := [.lit (.bool true)], args := [d], vars := [g1, g2] }
  | _ => none }
def fnWorldHandoverRow : OpenClaim := { program := "ytghlkpjhdgceiaagreatdoor", sum := "7d6e84950fbd4bad9e8c4c12db19511e65a42ae5f2806c4ff65d2989be1754ed", func := "loop.example/ringoverlay/laws.FnWorldHandover", spec := "fnWorldHandover", inPlace := ["(*internal/sync.Mutex).Lock", "internal/race.Disable", "sync/atomic.CompareAndSwapInt32", "internal/race.Enable", "internal/race.Acquire", "(*internal/sync.Mutex).lockSlow", "internal/sync.runtime_canSpin", "internal/sync.runtime_doSpin", "internal/sync.throw", "internal/sync.runtime_nanotime", "internal/sync.runtime_SemacquireMutex", "sync/atomic.AddInt32", "(*internal/sync.Mutex).Unlock", "internal/race.ReleaseMerge", "(*internal/sync.Mutex).unlockSlow", "internal/sync.fatal", "internal/sync.runtime_Semrelease", "slices.overlaps[loop.example/ringoverlay/impl.Lease]", "internal/reflectlite.TypeOf", "slices.overlaps[loop.example/ringoverlay/impl.Item]", "slices.overlaps[loop.example/ringoverlay/impl.Node]"], unfollowed := true, recurses := true, named := ["loop.example/ringoverlay/impl.errArgs", "loop.example/ringoverlay/impl.errRefused"], ifaces := true, apart := false, laid := [("loop.example/ringoverlay/impl.errArgs", laid_loop_example_ringoverlay_impl_errArgs), ("loop.example/ringoverlay/impl.errRefused", laid_loop_example_ringoverlay_impl_errRefused)] }
def FnWorldHandoverSaid : Prop := fnWorldHandoverRow.holds Tryz.pinned (OpenSpec.ofChange fnWorldHandoverSpec)

/-- ITS FALSE NEIGHBOUR: 'it returns false'. Refute it at one input. -/
def fnWorldHandoverWrong : ChangeSpec := { name := "fnWorldHandover", vars := ["loop.example/ringoverlay/impl.errArgs", "loop.example/ringoverlay/impl.errRefused"], fn := fun _ => fun
  | [d, g1, g2] => { results := [.lit (.bool false)], args := [d], vars := [g1, g2] }
  | _ => none }
def FnWorldHandoverWrongFalsely : Prop := fnWorldHandoverRow.holds Tryz.pinned (OpenSpec.ofChange fnWorldHandoverWrong)

/-- 'laws.FnWorldFail': WHATEVER THE INPUT: true; the input reads as it did. -/
def fnWorldFailSpec : ChangeSpec := { name := "fnWorldFail", vars := ["loop.example/ringoverlay/impl.errArgs", "loop.example/ringoverlay/impl.errRefused"], fn := fun _ => fun
  | [d, g1, g2] => { results := [.lit (.bool true)], args := [d], vars := [g1, g2] }
  | _ => none }
def fnWorldFailRow : OpenClaim := { program := "ytghlkpjhdgceiaagreatdoor", sum := "7d6e84950fbd4bad9e8c4c12db19511e65a42ae5f2806c4ff65d2989be1754ed", func := "loop.example/ringoverlay/laws.FnWorldFail", spec := "fnWorldFail", inPlace := ["(*internal/sync.Mutex).Lock", "internal/race.Disable", "sync/atomic.CompareAndSwapInt32", "internal/race.Enable", "internal/race.Acquire", "(*internal/sync.Mutex).lockSlow", "internal/sync.runtime_canSpin", "internal/sync.runtime_doSpin", "internal/sync.throw", "internal/sync.runtime_nanotime", "internal/sync.runtime_SemacquireMutex", "sync/atomic.AddInt32", "(*internal/sync.Mutex).Unlock", "internal/race.ReleaseMerge", "(*internal/sync.Mutex).unlockSlow", "internal/sync.fatal", "internal/sync.runtime_Semrelease", "slices.overlaps[loop.example/ringoverlay/impl.Lease]", "internal/reflectlite.TypeOf", "slices.overlaps[loop.example/ringoverlay/impl.Item]", "slices.overlaps[loop.example/ringoverlay/impl.Node]"], unfollowed := true, recurses := true, named := ["loop.example/ringoverlay/impl.errArgs", "loop.example/ringoverlay/impl.errRefused"], ifaces := true, apart := false, laid := [("loop.example/ringoverlay/impl.errArgs", laid_loop_example_ringoverlay_impl_errArgs), ("loop.example/ringoverlay/impl.errRefused", laid_loop_example_ringoverlay_impl_errRefused)] }
def FnWorldFailSaid : Prop := fnWorldFailRow.holds Tryz.pinned (OpenSpec.ofChange fnWorldFailSpec)

/-- ITS FALSE NEIGHBOUR: 'it returns false'. Refute it at one input. -/
def fnWorldFailWrong : ChangeSpec := { name := "fnWorldFail", vars := ["loop.example/ringoverlay/impl.errArgs", "loop.example/ringoverlay/impl.errRefused"], fn := fun _ => fun
  | [d, g1, g2] => { results := [.lit (.bool false)], args := [d], vars := [g1, g2] }
  | _ => none }
def FnWorldFailWrongFalsely : Prop := fnWorldFailRow.holds Tryz.pinned (OpenSpec.ofChange fnWorldFailWrong)

/-- 'laws.FnWorldHand': WHATEVER THE INPUT: true; the input reads as it did. -/
def fnWorldHandSpec : ChangeSpec := { name := "fnWorldHand", vars := ["loop.example/ringoverlay/impl.errArgs", "loop.example/ringoverlay/impl.errRefused"], fn := fun _ => fun
  | [d1, d2, g1, g2] => { results := [.lit (.bool true)], args := [d1, d2], vars := [g1, g2] }
  | _ => none }
def fnWorldHandRow : OpenClaim := { program := "ytghlkpjhdgceiaagreatdoor", sum := "7d6e84950fbd4bad9e8c4c12db19511e65a42ae5f2806c4ff65d2989be1754ed", func := "loop.example/ringoverlay/laws.FnWorldHand", spec := "fnWorldHand", inPlace := ["(*internal/sync.Mutex).Lock", "internal/race.Disable", "sync/atomic.CompareAndSwapInt32", "internal/race.Enable", "internal/race.Acquire", "(*internal/sync.Mutex).lockSlow", "internal/sync.runtime_canSpin", "internal/sync.runtime_doSpin", "internal/sync.throw", "internal/sync.runtime_nanotime", "internal/sync.runtime_SemacquireMutex", "sync/atomic.AddInt32", "(*internal/sync.Mutex).Unlock", "internal/race.ReleaseMerge", "(*internal/sync.Mutex).unlockSlow", "internal/sync.fatal", "internal/sync.runtime_Semrelease", "slices.overlaps[loop.example/ringoverlay/impl.Lease]", "internal/reflectlite.TypeOf", "slices.overlaps[loop.example/ringoverlay/impl.Item]", "slices.overlaps[loop.example/ringoverlay/impl.Node]"], unfollowed := true, recurses := true, named := ["loop.example/ringoverlay/impl.errArgs", "loop.example/ringoverlay/impl.errRefused"], ifaces := true, apart := false, laid := [("loop.example/ringoverlay/impl.errArgs", laid_loop_example_ringoverlay_impl_errArgs), ("loop.example/ringoverlay/impl.errRefused", laid_loop_example_ringoverlay_impl_errRefused)] }
def FnWorldHandSaid : Prop := fnWorldHandRow.holds Tryz.pinned (OpenSpec.ofChange fnWorldHandSpec)

/-- ITS FALSE NEIGHBOUR: 'it returns false'. Refute it at one input. -/
def fnWorldHandWrong : ChangeSpec := { name := "fnWorldHand", vars := ["loop.example/ringoverlay/impl.errArgs", "loop.example/ringoverlay/impl.errRefused"], fn := fun _ => fun
  | [d1, d2, g1, g2] => { results := [.lit (.bool false)], args := [d1, d2], vars := [g1, g2] }
  | _ => none }
def FnWorldHandWrongFalsely : Prop := fnWorldHandRow.holds Tryz.pinned (OpenSpec.ofChange fnWorldHandWrong)

/-- 'laws.FnWorldGiven': WHATEVER THE INPUT: true; the input reads as it did. -/
def fnWorldGivenSpec : ChangeSpec := { name := "fnWorldGiven", vars := ["loop.example/ringoverlay/impl.errArgs", "loop.example/ringoverlay/impl.errRefused"], fn := fun _ => fun
  | [d, g1, g2] => { results := [.lit (.bool true)], args := [d], vars := [g1, g2] }
  | _ => none }
def fnWorldGivenRow : OpenClaim := { program := "ytghlkpjhdgceiaagreatdoor", sum := "7d6e84950fbd4bad9e8c4c12db19511e65a42ae5f2806c4ff65d2989be1754ed", func := "loop.example/ringoverlay/laws.FnWorldGiven", spec := "fnWorldGiven", inPlace := ["(*internal/sync.Mutex).Lock", "internal/race.Disable", "sync/atomic.CompareAndSwapInt32", "internal/race.Enable", "internal/race.Acquire", "(*internal/sync.Mutex).lockSlow", "internal/sync.runtime_canSpin", "internal/sync.runtime_doSpin", "internal/sync.throw", "internal/sync.runtime_nanotime", "internal/sync.runtime_SemacquireMutex", "sync/atomic.AddInt32", "(*internal/sync.Mutex).Unlock", "internal/race.ReleaseMerge", "(*internal/sync.Mutex).unlockSlow", "internal/sync.fatal", "internal/sync.runtime_Semrelease", "slices.overlaps[loop.example/ringoverlay/impl.Lease]", "internal/reflectlite.TypeOf", "slices.overlaps[loop.example/ringoverlay/impl.Item]", "slices.overlaps[loop.example/ringoverlay/impl.Node]"], unfollowed := true, recurses := true, named := ["loop.example/ringoverlay/impl.errArgs", "loop.example/ringoverlay/impl.errRefused"], ifaces := true, apart := false, laid := [("loop.example/ringoverlay/impl.errArgs", laid_loop_example_ringoverlay_impl_errArgs), ("loop.example/ringoverlay/impl.errRefused", laid_loop_example_ringoverlay_impl_errRefused)] }
def FnWorldGivenSaid : Prop := fnWorldGivenRow.holds Tryz.pinned (OpenSpec.ofChange fnWorldGivenSpec)

/-- ITS FALSE NEIGHBOUR: 'it returns false'. Refute it at one input. -/
def fnWorldGivenWrong : ChangeSpec := { name := "fnWorldGiven", vars := ["loop.example/ringoverlay/impl.errArgs", "loop.example/ringoverlay/impl.errRefused"], fn := fun _ => fun
  | [d, g1, g2] => { results := [.lit (.bool false)], args := [d], vars := [g1, g2] }
  | _ => none }
def FnWorldGivenWrongFalsely : Prop := fnWorldGivenRow.holds Tryz.pinned (OpenSpec.ofChange fnWorldGivenWrong)

/-- 'laws.FnWorldChange': WHATEVER THE INPUT: true; the input reads as it did. -/
def fnWorldChangeSpec : ChangeSpec := { name := "fnWorldChange", vars := ["loop.example/ringoverlay/impl.errArgs", "loop.example/ringoverlay/impl.errRefused"], fn := fun _ => fun
  | [d, g1, g2] => { results := [.lit (.bool true)], args := [d], vars := [g1, g2] }
  | _ => none }
def fnWorldChangeRow : OpenClaim := { program := "ytghlkpjhdgceiaagreatdoor", sum := "7d6e84950fbd4bad9e8c4c12db19511e65a42ae5f2806c4ff65d2989be1754ed", func := "loop.example/ringoverlay/laws.FnWorldChange", spec := "fnWorldChange", inPlace := ["(*internal/sync.Mutex).Lock", "internal/race.Disable", "sync/atomic.CompareAndSwapInt32", "internal/race.Enable", "internal/race.Acquire", "(*internal/sync.Mutex).lockSlow", "internal/sync.runtime_canSpin", "internal/sync.runtime_doSpin", "internal/sync.throw", "internal/sync.runtime_nanotime", "internal/sync.runtime_SemacquireMutex", "sync/atomic.AddInt32", "(*internal/sync.Mutex).Unlock", "internal/race.ReleaseMerge", "(*internal/sync.Mutex).unlockSlow", "internal/sync.fatal", "internal/sync.runtime_Semrelease", "slices.overlaps[loop.example/ringoverlay/impl.Lease]", "internal/reflectlite.TypeOf", "slices.overlaps[loop.example/ringoverlay/impl.Item]", "slices.overlaps[loop.example/ringoverlay/impl.Node]"], unfollowed := true, recurses := true, named := ["loop.example/ringoverlay/impl.errArgs", "loop.example/ringoverlay/impl.errRefused"], ifaces := true, apart := false, laid := [("loop.example/ringoverlay/impl.errArgs", laid_loop_example_ringoverlay_impl_errArgs), ("loop.example/ringoverlay/impl.errRefused", laid_loop_example_ringoverlay_impl_errRefused)] }
def FnWorldChangeSaid : Prop := fnWorldChangeRow.holds Tryz.pinned (OpenSpec.ofChange fnWorldChangeSpec)

/-- ITS FALSE NEIGHBOUR: 'it returns false'. Refute it at one input. -/
def fnWorldChangeWrong : ChangeSpec := { name := "fnWorldChange", vars := ["loop.example/ringoverlay/impl.errArgs", "loop.example/ringoverlay/impl.errRefused"], fn := fun _ => fun
  | [d, g1, g2] => { results := [.lit (.bool false)], args := [d], vars := [g1, g2] }
  | _ => none }
def FnWorldChangeWrongFalsely : Prop := fnWorldChangeRow.holds Tryz.pinned (OpenSpec.ofChange fnWorldChangeWrong)

/-- 'laws.FnWorldSince': WHATEVER THE INPUT: true; the input reads as it did. -/
def fnWorldSinceSpec : ChangeSpec := { name := "fnWorldSince", vars := ["loop.example/ringoverlay/impl.errArgs", "loop.example/ringoverlay/impl.errRefused"], fn := fun _ => fun
  | [d, g1, g2] => { results := [.lit (.bool true)], args := [d], vars := [g1, g2] }
  | _ => none }
def fnWorldSinceRow : OpenClaim := { program := "ytghlkpjhdgceiaagreatdoor", sum := "7d6e84950fbd4bad9e8c4c12db19511e65a42ae5f2806c4ff65d2989be1754ed", func := "loop.example/ringoverlay/laws.FnWorldSince", spec := "fnWorldSince", inPlace := ["(*internal/sync.Mutex).Lock", "internal/race.Disable", "sync/atomic.CompareAndSwapInt32", "internal/race.Enable", "internal/race.Acquire", "(*internal/sync.Mutex).lockSlow", "internal/sync.runtime_canSpin", "internal/sync.runtime_doSpin", "internal/sync.throw", "internal/sync.runtime_nanotime", "internal/sync.runtime_SemacquireMutex", "sync/atomic.AddInt32", "(*internal/sync.Mutex).Unlock", "internal/race.ReleaseMerge", "(*internal/sync.Mutex).unlockSlow", "internal/sync.fatal", "internal/sync.runtime_Semrelease", "slices.overlaps[loop.example/ringoverlay/impl.Lease]", "internal/reflectlite.TypeOf", "slices.overlaps[loop.example/ringoverlay/impl.Item]", "slices.overlaps[loop.example/ringoverlay/impl.Node]"], unfollowed := true, recurses := true, named := ["loop.example/ringoverlay/impl.errArgs", "loop.example/ringoverlay/impl.errRefused"], ifaces := true, apart := false, laid := [("loop.example/ringoverlay/impl.errArgs", laid_loop_example_ringoverlay_impl_errArgs), ("loop.example/ringoverlay/impl.errRefused", laid_loop_example_ringoverlay_impl_errRefused)] }
def FnWorldSinceSaid : Prop := fnWorldSinceRow.holds Tryz.pinned (OpenSpec.ofChange fnWorldSinceSpec)

/-- ITS FALSE NEIGHBOUR: 'it returns false'. Refute it at one input. -/
def fnWorldSinceWrong : ChangeSpec := { name := "fnWorldSince", vars := ["loop.example/ringoverlay/impl.errArgs", "loop.example/ringoverlay/impl.errRefused"], fn := fun _ => fun
  | [d, g1, g2] => { results := [.lit (.bool false)], args := [d], vars := [g1, g2] }
  | _ => none }
def FnWorldSinceWrongFalsely : Prop := fnWorldSinceRow.holds Tryz.pinned (OpenSpec.ofChange fnWorldSinceWrong)

/- THE SECOND FORM. 'bulk': how many values and letters a reading holds, each counted each time it is reached (what is shared counts as often as it is met; a slice's spare places count too). A statement '..UptoSaid' is the law's where the arguments, and the package variables that the reading takes, are together of bulk at most 1048576: NARROWER than '..Said'. Prove '..Said' where nothing that the law and all that it calls make is longer than what came in: it says more and counts as full. Else prove '..UptoSaid'. A law counts once. -/
mutual
def uptoBulk {H : Type} : DataW H → Nat
  | .lit (.string bytes) => bytes.length + 1
  | .lit _ => 1
  | .nil => 1
  | .ptr d => uptoBulk d + 1
  | .slice elems spare => uptoBulkAll elems + uptoBulkAll spare + 1
  | .agg parts => uptoBulkAll parts + 1
  | .iface _ d => uptoBulk d + 1
  | .map entries => uptoBulkEntries entries + 1
  | .held _ => 1
def uptoBulkAll {H : Type} : List (DataW H) → Nat
  | [] => 0
  | d :: r => uptoBulk d + uptoBulkAll r
def uptoBulkEntries {H : Type} : List (Lit × DataW H) → Nat
  | [] => 0
  | x :: r => uptoBulkEntry x + uptoBulkEntries r
def uptoBulkEntry {H : Type} : Lit × DataW H → Nat
  | (.string bytes, d) => bytes.length + uptoBulk d + 1
  | (_, d) => uptoBulk d + 1
 end
def uptoSmall : (H : Type) → List (DataW H) → Bool := fun _ ds => decide (uptoBulkAll ds ≤ 1048576)
def OpenSpec.upto (s : _root_.Go.ChangeSpec) : _root_.Go.OpenSpec := { _root_.Go.OpenSpec.ofChange s with cond := some uptoSmall }

/-- 'laws.FnWorldHandover', WHERE WHAT IT READS IS OF BULK AT MOST 1048576: true; the input reads as it did. -/
def fnWorldHandoverUptoRow : OpenClaim := { program := "ytghlkpjhdgceiaagreatdoor", sum := "7d6e84950fbd4bad9e8c4c12db19511e65a42ae5f2806c4ff65d2989be1754ed", func := "loop.example/ringoverlay/laws.FnWorldHandover", spec := "fnWorldHandover", inPlace := ["(*internal/sync.Mutex).Lock", "internal/race.Disable", "sync/atomic.CompareAndSwapInt32", "internal/race.Enable", "internal/race.Acquire", "(*internal/sync.Mutex).lockSlow", "internal/sync.runtime_canSpin", "internal/sync.runtime_doSpin", "internal/sync.throw", "internal/sync.runtime_nanotime", "internal/sync.runtime_SemacquireMutex", "sync/atomic.AddInt32", "(*internal/sync.Mutex).Unlock", "internal/race.ReleaseMerge", "(*internal/sync.Mutex).unlockSlow", "internal/sync.fatal", "internal/sync.runtime_Semrelease", "slices.overlaps[loop.example/ringoverlay/impl.Lease]", "internal/reflectlite.TypeOf", "slices.overlaps[loop.example/ringoverlay/impl.Item]", "slices.overlaps[loop.example/ringoverlay/impl.Node]"], unfollowed := true, recurses := true, named := ["loop.example/ringoverlay/impl.errArgs", "loop.example/ringoverlay/impl.errRefused"], ifaces := true, apart := false, laid := [("loop.example/ringoverlay/impl.errArgs", laid_loop_example_ringoverlay_impl_errArgs), ("loop.example/ringoverlay/impl.errRefused", laid_loop_example_ringoverlay_impl_errRefused)], narrowed := true }
def FnWorldHandoverUptoSaid : Prop := fnWorldHandoverUptoRow.holds Tryz.pinned (OpenSpec.upto fnWorldHandoverSpec)

/-- 'laws.FnWorldFail', WHERE WHAT IT READS IS OF BULK AT MOST 1048576: true; the input reads as it did. -/
def fnWorldFailUptoRow : OpenClaim := { program := "ytghlkpjhdgceiaagreatdoor", sum := "7d6e84950fbd4bad9e8c4c12db19511e65a42ae5f2806c4ff65d2989be1754ed", func := "loop.example/ringoverlay/laws.FnWorldFail", spec := "fnWorldFail", inPlace := ["(*internal/sync.Mutex).Lock", "internal/race.Disable", "sync/atomic.CompareAndSwapInt32", "internal/race.Enable", "internal/race.Acquire", "(*internal/sync.Mutex).lockSlow", "internal/sync.runtime_canSpin", "internal/sync.runtime_doSpin", "internal/sync.throw", "internal/sync.runtime_nanotime", "internal/sync.runtime_SemacquireMutex", "sync/atomic.AddInt32", "(*internal/sync.Mutex).Unlock", "internal/race.ReleaseMerge", "(*internal/sync.Mutex).unlockSlow", "internal/sync.fatal", "internal/sync.runtime_Semrelease", "slices.overlaps[loop.example/ringoverlay/impl.Lease]", "internal/reflectlite.TypeOf", "slices.overlaps[loop.example/ringoverlay/impl.Item]", "slices.overlaps[loop.example/ringoverlay/impl.Node]"], unfollowed := true, recurses := true, named := ["loop.example/ringoverlay/impl.errArgs", "loop.example/ringoverlay/impl.errRefused"], ifaces := true, apart := false, laid := [("loop.example/ringoverlay/impl.errArgs", laid_loop_example_ringoverlay_impl_errArgs), ("loop.example/ringoverlay/impl.errRefused", laid_loop_example_ringoverlay_impl_errRefused)], narrowed := true }
def FnWorldFailUptoSaid : Prop := fnWorldFailUptoRow.holds Tryz.pinned (OpenSpec.upto fnWorldFailSpec)

/-- 'laws.FnWorldHand', WHERE WHAT IT READS IS OF BULK AT MOST 1048576: true; the input reads as it did. -/
def fnWorldHandUptoRow : OpenClaim := { program := "ytghlkpjhdgceiaagreatdoor", sum := "7d6e84950fbd4bad9e8c4c12db19511e65a42ae5f2806c4ff65d2989be1754ed", func := "loop.example/ringoverlay/laws.FnWorldHand", spec := "fnWorldHand", inPlace := ["(*internal/sync.Mutex).Lock", "internal/race.Disable", "sync/atomic.CompareAndSwapInt32", "internal/race.Enable", "internal/race.Acquire", "(*internal/sync.Mutex).lockSlow", "internal/sync.runtime_canSpin", "internal/sync.runtime_doSpin", "internal/sync.throw", "internal/sync.runtime_nanotime", "internal/sync.runtime_SemacquireMutex", "sync/atomic.AddInt32", "(*internal/sync.Mutex).Unlock", "internal/race.ReleaseMerge", "(*internal/sync.Mutex).unlockSlow", "internal/sync.fatal", "internal/sync.runtime_Semrelease", "slices.overlaps[loop.example/ringoverlay/impl.Lease]", "internal/reflectlite.TypeOf", "slices.overlaps[loop.example/ringoverlay/impl.Item]", "slices.overlaps[loop.example/ringoverlay/impl.Node]"], unfollowed := true, recurses := true, named := ["loop.example/ringoverlay/impl.errArgs", "loop.example/ringoverlay/impl.errRefused"], ifaces := true, apart := false, laid := [("loop.example/ringoverlay/impl.errArgs", laid_loop_example_ringoverlay_impl_errArgs), ("loop.example/ringoverlay/impl.errRefused", laid_loop_example_ringoverlay_impl_errRefused)], narrowed := true }
def FnWorldHandUptoSaid : Prop := fnWorldHandUptoRow.holds Tryz.pinned (OpenSpec.upto fnWorldHandSpec)

/-- 'laws.FnWorldGiven', WHERE WHAT IT READS IS OF BULK AT MOST 1048576: true; the input reads as it did. -/
def fnWorldGivenUptoRow : OpenClaim := { program := "ytghlkpjhdgceiaagreatdoor", sum := "7d6e84950fbd4bad9e8c4c12db19511e65a42ae5f2806c4ff65d2989be1754ed", func := "loop.example/ringoverlay/laws.FnWorldGiven", spec := "fnWorldGiven", inPlace := ["(*internal/sync.Mutex).Lock", "internal/race.Disable", "sync/atomic.CompareAndSwapInt32", "internal/race.Enable", "internal/race.Acquire", "(*internal/sync.Mutex).lockSlow", "internal/sync.runtime_canSpin", "internal/sync.runtime_doSpin", "internal/sync.throw", "internal/sync.runtime_nanotime", "internal/sync.runtime_SemacquireMutex", "sync/atomic.AddInt32", "(*internal/sync.Mutex).Unlock", "internal/race.ReleaseMerge", "(*internal/sync.Mutex).unlockSlow", "internal/sync.fatal", "internal/sync.runtime_Semrelease", "slices.overlaps[loop.example/ringoverlay/impl.Lease]", "internal/reflectlite.TypeOf", "slices.overlaps[loop.example/ringoverlay/impl.Item]", "slices.overlaps[loop.example/ringoverlay/impl.Node]"], unfollowed := true, recurses := true, named := ["loop.example/ringoverlay/impl.errArgs", "loop.example/ringoverlay/impl.errRefused"], ifaces := true, apart := false, laid := [("loop.example/ringoverlay/impl.errArgs", laid_loop_example_ringoverlay_impl_errArgs), ("loop.example/ringoverlay/impl.errRefused", laid_loop_example_ringoverlay_impl_errRefused)], narrowed := true }
def FnWorldGivenUptoSaid : Prop := fnWorldGivenUptoRow.holds Tryz.pinned (OpenSpec.upto fnWorldGivenSpec)

/-- 'laws.FnWorldChange', WHERE WHAT IT READS IS OF BULK AT MOST 1048576: true; the input reads as it did. -/
def fnWorldChangeUptoRow : OpenClaim := { program := "ytghlkpjhdgceiaagreatdoor", sum := "7d6e84950fbd4bad9e8c4c12db19511e65a42ae5f2806c4ff65d2989be1754ed", func := "loop.example/ringoverlay/laws.FnWorldChange", spec := "fnWorldChange", inPlace := ["(*internal/sync.Mutex).Lock", "internal/race.Disable", "sync/atomic.CompareAndSwapInt32", "internal/race.Enable", "internal/race.Acquire", "(*internal/sync.Mutex).lockSlow", "internal/sync.runtime_canSpin", "internal/sync.runtime_doSpin", "internal/sync.throw", "internal/sync.runtime_nanotime", "internal/sync.runtime_SemacquireMutex", "sync/atomic.AddInt32", "(*internal/sync.Mutex).Unlock", "internal/race.ReleaseMerge", "(*internal/sync.Mutex).unlockSlow", "internal/sync.fatal", "internal/sync.runtime_Semrelease", "slices.overlaps[loop.example/ringoverlay/impl.Lease]", "internal/reflectlite.TypeOf", "slices.overlaps[loop.example/ringoverlay/impl.Item]", "slices.overlaps[loop.example/ringoverlay/impl.Node]"], unfollowed := true, recurses := true, named := ["loop.example/ringoverlay/impl.errArgs", "loop.example/ringoverlay/impl.errRefused"], ifaces := true, apart := false, laid := [("loop.example/ringoverlay/impl.errArgs", laid_loop_example_ringoverlay_impl_errArgs), ("loop.example/ringoverlay/impl.errRefused", laid_loop_example_ringoverlay_impl_errRefused)], narrowed := true }
def FnWorldChangeUptoSaid : Prop := fnWorldChangeUptoRow.holds Tryz.pinned (OpenSpec.upto fnWorldChangeSpec)

/-- 'laws.FnWorldSince', WHERE WHAT IT READS IS OF BULK AT MOST 1048576: true; the input reads as it did. -/
def fnWorldSinceUptoRow : OpenClaim := { program := "ytghlkpjhdgceiaagreatdoor", sum := "7d6e84950fbd4bad9e8c4c12db19511e65a42ae5f2806c4ff65d2989be1754ed", func := "loop.example/ringoverlay/laws.FnWorldSince", spec := "fnWorldSince", inPlace := ["(*internal/sync.Mutex).Lock", "internal/race.Disable", "sync/atomic.CompareAndSwapInt32", "internal/race.Enable", "internal/race.Acquire", "(*internal/sync.Mutex).lockSlow", "internal/sync.runtime_canSpin", "internal/sync.runtime_doSpin", "internal/sync.throw", "internal/sync.runtime_nanotime", "internal/sync.runtime_SemacquireMutex", "sync/atomic.AddInt32", "(*internal/sync.Mutex).Unlock", "internal/race.ReleaseMerge", "(*internal/sync.Mutex).unlockSlow", "internal/sync.fatal", "internal/sync.runtime_Semrelease", "slices.overlaps[loop.example/ringoverlay/impl.Lease]", "internal/reflectlite.TypeOf", "slices.overlaps[loop.example/ringoverlay/impl.Item]", "slices.overlaps[loop.example/ringoverlay/impl.Node]"], unfollowed := true, recurses := true, named := ["loop.example/ringoverlay/impl.errArgs", "loop.example/ringoverlay/impl.errRefused"], ifaces := true, apart := false, laid := [("loop.example/ringoverlay/impl.errArgs", laid_loop_example_ringoverlay_impl_errArgs), ("loop.example/ringoverlay/impl.errRefused", laid_loop_example_ringoverlay_impl_errRefused)], narrowed := true }
def FnWorldSinceUptoSaid : Prop := fnWorldSinceUptoRow.holds Tryz.pinned (OpenSpec.upto fnWorldSinceSpec)

end Rows
end Go.Proofs.YtghlkpjhdgceiaaGreatDoor
