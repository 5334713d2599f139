/-
  NARROWER THAN 'FOR EVERY INPUT', by the rows' own cells (each row's printed sentence says how): FnExactWorldPlay: ifaces, laid · FnExactWorldDo: ifaces, laid.
  DERIVED. THE GIVEN ROWS OF THIS SEAT. 2 by the template 'for every input the law returns true; each argument reads behind the call as it read before'; 0 by the template 'total and deterministic' (their statements: YtmgggljicpmndaaGreatDoorTotals.lean).
  GIVEN WITH THE SEED: the statements are not yours to turn. If you find one false, say at which input.
  Laid BY PROGRAM, IN A SANDBOX (cutbox-rows.mjs): the forced cells as the released guide's own fill.sh prints them over the translation 0b7e4b4fe9271d8a… (all of the seat's roots in one cut). By AI agents, Wed Nov 11 2026. No macro, syntax, notation, axiom, sorry.
-/
import Derived.Test.YtmgggljicpmndaaGreatDoorChecked
import GoSem.Claim
import GoSem.ClaimJoined
import GoSem.ClaimMapViews
import Derived.JoinedTies
import Derived.KernelRfl
namespace Go.Proofs.YtmgggljicpmndaaGreatDoor
/- THE CELL 'sum', in the pinned program and in every row, IS THE sha256 OF THE DUMP (.gsa) THAT YtmgggljicpmndaaGreatDoorProg.lean LOADS. Nothing in Lean hashes anything: it is a label: what it is worth is what the hold of that sum in a sandbox is worth. -/
noncomputable def Tryz.pinned : Pinned := { name := "ytmgggljicpmndaagreatdoor", sum := "0b7e4b4fe9271d8a10e58775b2ad2d8eb8d457f1bda8d0768db723fa23227fbe", checked := Tryz.checked }
namespace Rows
def none {H : Type} : Left H := { results := [], args := [] }

/- WHAT THE LISTED PACKAGE-LEVEL VARIABLES READ AS WHEN THE CALL BEGINS. Each datum BY PROGRAM (the guide's laid-datum.mjs) off the statement by which the dump's own 'gosem.cut.vars' lays the variable. In a bare row this is a premise. The card (YtmgggljicpmndaaGreatDoorCards.lean) ties it to the program's text. -/
def laid_loop_example_ringoverlay_impl_errArgs {H : Type} : DataW H := .iface "*errors.errorString" (.ptr (.agg [.lit (.string [97, 114, 103, 117, 109, 101, 110, 116, 115])]))
def laid_loop_example_ringoverlay_impl_errRefused {H : Type} : DataW H := .iface "*errors.errorString" (.ptr (.agg [.lit (.string [114, 101, 102, 117, 115, 101, 100])]))

/-- 'laws.FnExactWorldPlay': WHATEVER THE INPUT: true; the input reads as it did. -/
def fnExactWorldPlaySpec : ChangeSpec := { name := "fnExactWorldPlay", vars := ["loop.example/ringoverlay/impl.errArgs", "loop.example/ringoverlay/impl.errRefused"], fn := fun _ => fun
  | [d1, d2, g1, g2] => { results := [.lit (.bool true)], args := [d1, d2], vars := [g1, g2] }
  | _ => none }
def fnExactWorldPlayRow : OpenClaim := { program := "ytmgggljicpmndaagreatdoor", sum := "0b7e4b4fe9271d8a10e58775b2ad2d8eb8d457f1bda8d0768db723fa23227fbe", func := "loop.example/ringoverlay/laws.FnExactWorldPlay", spec := "fnExactWorldPlay", inPlace := ["(*internal/sync.Mutex).Lock", "internal/race.Disable", "sync/atomic.CompareAndSwapInt32", "internal/race.Enable", "internal/race.Acquire", "(*internal/sync.Mutex).lockSlow", "internal/sync.runtime_canSpin", "internal/sync.runtime_doSpin", "internal/sync.throw", "internal/sync.runtime_nanotime", "internal/sync.runtime_SemacquireMutex", "sync/atomic.AddInt32", "(*internal/sync.Mutex).Unlock", "internal/race.ReleaseMerge", "(*internal/sync.Mutex).unlockSlow", "internal/sync.fatal", "internal/sync.runtime_Semrelease", "slices.overlaps[loop.example/ringoverlay/impl.Lease]", "internal/reflectlite.TypeOf", "slices.overlaps[loop.example/ringoverlay/impl.Item]", "slices.overlaps[loop.example/ringoverlay/impl.Node]"], unfollowed := true, recurses := true, named := ["loop.example/ringoverlay/impl.errArgs", "loop.example/ringoverlay/impl.errRefused"], ifaces := true, apart := false, laid := [("loop.example/ringoverlay/impl.errArgs", laid_loop_example_ringoverlay_impl_errArgs), ("loop.example/ringoverlay/impl.errRefused", laid_loop_example_ringoverlay_impl_errRefused)] }
def FnExactWorldPlaySaid : Prop := fnExactWorldPlayRow.holds Tryz.pinned (OpenSpec.ofChange fnExactWorldPlaySpec)

/-- ITS FALSE NEIGHBOUR: 'it returns false'. Refute it at one input. -/
def fnExactWorldPlayWrong : ChangeSpec := { name := "fnExactWorldPlay", vars := ["loop.example/ringoverlay/impl.errArgs", "loop.example/ringoverlay/impl.errRefused"], fn := fun _ => fun
  | [d1, d2, g1, g2] => { results := [.lit (.bool false)], args := [d1, d2], vars := [g1, g2] }
  | _ => none }
def FnExactWorldPlayWrongFalsely : Prop := fnExactWorldPlayRow.holds Tryz.pinned (OpenSpec.ofChange fnExactWorldPlayWrong)

/-- 'laws.FnExactWorldDo': WHATEVER THE INPUT: true; the input reads as it did. -/
def fnExactWorldDoSpec : ChangeSpec := { name := "fnExactWorldDo", vars := ["loop.example/ringoverlay/impl.errArgs", "loop.example/ringoverlay/impl.errRefused"], fn := fun _ => fun
  | [d1, d2, g1, g2] => { results := [.lit (.bool true)], args := [d1, d2], vars := [g1, g2] }
  | _ => none }
def fnExactWorldDoRow : OpenClaim := { program := "ytmgggljicpmndaagreatdoor", sum := "0b7e4b4fe9271d8a10e58775b2ad2d8eb8d457f1bda8d0768db723fa23227fbe", func := "loop.example/ringoverlay/laws.FnExactWorldDo", spec := "fnExactWorldDo", inPlace := ["(*internal/sync.Mutex).Lock", "internal/race.Disable", "sync/atomic.CompareAndSwapInt32", "internal/race.Enable", "internal/race.Acquire", "(*internal/sync.Mutex).lockSlow", "internal/sync.runtime_canSpin", "internal/sync.runtime_doSpin", "internal/sync.throw", "internal/sync.runtime_nanotime", "internal/sync.runtime_SemacquireMutex", "sync/atomic.AddInt32", "(*internal/sync.Mutex).Unlock", "internal/race.ReleaseMerge", "(*internal/sync.Mutex).unlockSlow", "internal/sync.fatal", "internal/sync.runtime_Semrelease", "slices.overlaps[loop.example/ringoverlay/impl.Lease]", "internal/reflectlite.TypeOf", "slices.overlaps[loop.example/ringoverlay/impl.Item]", "slices.overlaps[loop.example/ringoverlay/impl.Node]"], unfollowed := true, recurses := true, named := ["loop.example/ringoverlay/impl.errArgs", "loop.example/ringoverlay/impl.errRefused"], ifaces := true, apart := false, laid := [("loop.example/ringoverlay/impl.errArgs", laid_loop_example_ringoverlay_impl_errArgs), ("loop.example/ringoverlay/impl.errRefused", laid_loop_example_ringoverlay_impl_errRefused)] }
def FnExactWorldDoSaid : Prop := fnExactWorldDoRow.holds Tryz.pinned (OpenSpec.ofChange fnExactWorldDoSpec)

/-- ITS FALSE NEIGHBOUR: 'it returns false'. Refute it at one input. -/
def fnExactWorldDoWrong : ChangeSpec := { name := "fnExactWorldDo", vars := ["loop.example/ringoverlay/impl.errArgs", "loop.example/ringoverlay/impl.errRefused"], fn := fun _ => fun
  | [d1, d2, g1, g2] => { results := [.lit (.bool false)], args := [d1, d2], vars := [g1, g2] }
  | _ => none }
def FnExactWorldDoWrongFalsely : Prop := fnExactWorldDoRow.holds Tryz.pinned (OpenSpec.ofChange fnExactWorldDoWrong)

/- THE SECOND FORM. 'bulk': how many values and letters a reading holds, each counted each time it is reached (what is shared counts as often as it is met; a slice's spare places count too). A statement '..UptoSaid' is the law's where the arguments, and the package variables that the reading takes, are together of bulk at most 1048576: NARROWER than '..Said'. Prove '..Said' where nothing that the law and all that it calls make is longer than what came in: it says more and counts as full. Else prove '..UptoSaid'. A law counts once. -/
mutual
def uptoBulk {H : Type} : DataW H → Nat
  | .lit (.string bytes) => bytes.length + 1
  | .lit _ => 1
  | .nil => 1
  | .ptr d => uptoBulk d + 1
  | .slice elems spare => uptoBulkAll elems + uptoBulkAll spare + 1
  | .agg parts => uptoBulkAll parts + 1
  | .iface _ d => uptoBulk d + 1
  | .map entries => uptoBulkEntries entries + 1
  | .held _ => 1
def uptoBulkAll {H : Type} : List (DataW H) → Nat
  | [] => 0
  | d :: r => uptoBulk d + uptoBulkAll r
def uptoBulkEntries {H : Type} : List (Lit × DataW H) → Nat
  | [] => 0
  | x :: r => uptoBulkEntry x + uptoBulkEntries r
def uptoBulkEntry {H : Type} : Lit × DataW H → Nat
  | (.string bytes, d) => bytes.length + uptoBulk d + 1
  | (_, d) => uptoBulk d + 1
 end
def uptoSmall : (H : Type) → List (DataW H) → Bool := fun _ ds => decide (uptoBulkAll ds ≤ 1048576)
def OpenSpec.upto (s : _root_.Go.ChangeSpec) : _root_.Go.OpenSpec := { _root_.Go.OpenSpec.ofChange s with cond := some uptoSmall }

/-- 'laws.FnExactWorldPlay', WHERE WHAT IT READS IS OF BULK AT MOST 1048576: true; the input reads as it did. -/
def fnExactWorldPlayUptoRow : OpenClaim := { program := "ytmgggljicpmndaagreatdoor", sum := "0b7e4b4fe9271d8a10e58775b2ad2d8eb8d457f1bda8d0768db723fa23227fbe", func := "loop.example/ringoverlay/laws.FnExactWorldPlay", spec := "fnExactWorldPlay", inPlace := ["(*internal/sync.Mutex).Lock", "internal/race.Disable", "sync/atomic.CompareAndSwapInt32", "internal/race.Enable", "internal/race.Acquire", "(*internal/sync.Mutex).lockSlow", "internal/sync.runtime_canSpin", "internal/sync.runtime_doSpin", "internal/sync.throw", "internal/sync.runtime_nanotime", "internal/sync.runtime_SemacquireMutex", "sync/atomic.AddInt32", "(*internal/sync.Mutex).Unlock", "internal/race.ReleaseMerge", "(*internal/sync.Mutex).unlockSlow", "internal/sync.fatal", "internal/sync.runtime_Semrelease", "slices.overlaps[loop.example/ringoverlay/impl.Lease]", "internal/reflectlite.TypeOf", "slices.overlaps[loop.example/ringoverlay/impl.Item]", "slices.overlaps[loop.example/ringoverlay/impl.Node]"], unfollowed := true, recurses := true, named := ["loop.example/ringoverlay/impl.errArgs", "loop.example/ringoverlay/impl.errRefused"], ifaces := true, apart := false, laid := [("loop.example/ringoverlay/impl.errArgs", laid_loop_example_ringoverlay_impl_errArgs), ("loop.example/ringoverlay/impl.errRefused", laid_loop_example_ringoverlay_impl_errRefused)], narrowed := true }
def FnExactWorldPlayUptoSaid : Prop := fnExactWorldPlayUptoRow.holds Tryz.pinned (OpenSpec.upto fnExactWorldPlaySpec)

/-- 'laws.FnExactWorldDo', WHERE WHAT IT READS IS OF BULK AT MOST 1048576: true; the input reads as it did. -/
def fnExactWorldDoUptoRow : OpenClaim := { program := "ytmgggljicpmndaagreatdoor", sum := "0b7e4b4fe9271d8a10e58775b2ad2d8eb8d457f1bda8d0768db723fa23227fbe", func := "loop.example/ringoverlay/laws.FnExactWorldDo", spec := "fnExactWorldDo", inPlace := ["(*internal/sync.Mutex).Lock", "internal/race.Disable", "sync/atomic.CompareAndSwapInt32", "internal/race.Enable", "internal/race.Acquire", "(*internal/sync.Mutex).lockSlow", "internal/sync.runtime_canSpin", "internal/sync.runtime_doSpin", "internal/sync.throw", "internal/sync.runtime_nanotime", "internal/sync.runtime_SemacquireMutex", "sync/atomic.AddInt32", "(*internal/sync.Mutex).Unlock", "internal/race.ReleaseMerge", "(*internal/sync.Mutex).unlockSlow", "internal/sync.fatal", "internal/sync.runtime_Semrelease", "slices.overlaps[loop.example/ringoverlay/impl.Lease]", "internal/reflectlite.TypeOf", "slices.overlaps[loop.example/ringoverlay/impl.Item]", "slices.overlaps[loop.example/ringoverlay/impl.Node]"], unfollowed := true, recurses := true, named := ["loop.example/ringoverlay/impl.errArgs", "loop.example/ringoverlay/impl.errRefused"], ifaces := true, apart := false, laid := [("loop.example/ringoverlay/impl.errArgs", laid_loop_example_ringoverlay_impl_errArgs), ("loop.example/ringoverlay/impl.errRefused", laid_loop_example_ringoverlay_impl_errRefused)], narrowed := true }
def FnExactWorldDoUptoSaid : Prop := fnExactWorldDoUptoRow.holds Tryz.pinned (OpenSpec.upto fnExactWorldDoSpec)

end Rows
end Go.Proofs.YtmgggljicpmndaaGreatDoor
