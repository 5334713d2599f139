/-
  No cell of these rows narrows 'for every input' (looked for: loops, veiled, ifaces, maps, wideKeys, modest, calm, conditions, laid).
  DERIVED. THE GIVEN ROWS OF THIS SEAT. 7 by the template 'for every input the law returns true; each argument reads behind the call as it read before'; 0 by the template 'total and deterministic' (their statements: YtijkfooafoghjaaTotals.lean).
  GIVEN WITH THE SEED: the statements are not yours to turn. If you find one false, say at which input.
  Laid BY PROGRAM, IN A SANDBOX (cutbox-rows.mjs): the forced cells as the released guide's own fill.sh prints them over the translation 388e04ff25b55f63… (all of the seat's roots in one cut). By AI agents, Wed Nov 11 2026. No macro, syntax, notation, axiom, sorry.
-/
import Derived.Test.YtijkfooafoghjaaChecked
import GoSem.Claim
import GoSem.ClaimJoined
import GoSem.ClaimMapViews
import Derived.JoinedTies
import Derived.KernelRfl
namespace Go.Proofs.Ytijkfooafoghjaa
/- THE CELL 'sum', in the pinned program and in every row, IS THE sha256 OF THE DUMP (.gsa) THAT YtijkfooafoghjaaProg.lean LOADS. Nothing in Lean hashes anything: it is a label: what it is worth is what the hold of that sum in a sandbox is worth. -/
noncomputable def Try.pinned : Pinned := { name := "ytijkfooafoghjaa", sum := "388e04ff25b55f631e604b2d76daed77294c47bdf0e20fddb6a3d9912ffd5331", checked := Try.checked }
namespace Rows
def none {H : Type} : Left H := { results := [], args := [] }

/-- 'laws.FnExactPuzzleHash': WHATEVER THE INPUT: true; the input reads as it did. -/
def fnExactPuzzleHashSpec : ChangeSpec := { name := "fnExactPuzzleHash", fn := fun _ => fun
  | [d1, d2] => { results := [.lit (.bool true)], args := [d1, d2] }
  | _ => none }
def fnExactPuzzleHashRow : OpenClaim := { program := "ytijkfooafoghjaa", sum := "388e04ff25b55f631e604b2d76daed77294c47bdf0e20fddb6a3d9912ffd5331", func := "loop.example/ringoverlay/laws.FnExactPuzzleHash", spec := "fnExactPuzzleHash", unfollowed := true, recurses := true, apart := false }
def FnExactPuzzleHashSaid : Prop := fnExactPuzzleHashRow.holds Try.pinned (OpenSpec.ofChange fnExactPuzzleHashSpec)

/-- ITS FALSE NEIGHBOUR: 'it returns false'. Refute it at one input. -/
def fnExactPuzzleHashWrong : ChangeSpec := { name := "fnExactPuzzleHash", fn := fun _ => fun
  | [d1, d2] => { results := [.lit (.bool false)], args := [d1, d2] }
  | _ => none }
def FnExactPuzzleHashWrongFalsely : Prop := fnExactPuzzleHashRow.holds Try.pinned (OpenSpec.ofChange fnExactPuzzleHashWrong)

/-- 'laws.FnExactPuzzleOk': WHATEVER THE INPUT: true; the input reads as it did. -/
def fnExactPuzzleOkSpec : ChangeSpec := { name := "fnExactPuzzleOk", fn := fun _ => fun
  | [d1, d2, d3] => { results := [.lit (.bool true)], args := [d1, d2, d3] }
  | _ => none }
def fnExactPuzzleOkRow : OpenClaim := { program := "ytijkfooafoghjaa", sum := "388e04ff25b55f631e604b2d76daed77294c47bdf0e20fddb6a3d9912ffd5331", func := "loop.example/ringoverlay/laws.FnExactPuzzleOk", spec := "fnExactPuzzleOk", unfollowed := true, recurses := true, apart := false }
def FnExactPuzzleOkSaid : Prop := fnExactPuzzleOkRow.holds Try.pinned (OpenSpec.ofChange fnExactPuzzleOkSpec)

/-- ITS FALSE NEIGHBOUR: 'it returns false'. Refute it at one input. -/
def fnExactPuzzleOkWrong : ChangeSpec := { name := "fnExactPuzzleOk", fn := fun _ => fun
  | [d1, d2, d3] => { results := [.lit (.bool false)], args := [d1, d2, d3] }
  | _ => none }
def FnExactPuzzleOkWrongFalsely : Prop := fnExactPuzzleOkRow.holds Try.pinned (OpenSpec.ofChange fnExactPuzzleOkWrong)

/-- 'laws.FnExactPathsAnswer': WHATEVER THE INPUT: true; the input reads as it did. -/
def fnExactPathsAnswerSpec : ChangeSpec := { name := "fnExactPathsAnswer", fn := fun _ => fun
  | [d] => { results := [.lit (.bool true)], args := [d] }
  | _ => none }
def fnExactPathsAnswerRow : OpenClaim := { program := "ytijkfooafoghjaa", sum := "388e04ff25b55f631e604b2d76daed77294c47bdf0e20fddb6a3d9912ffd5331", func := "loop.example/ringoverlay/laws.FnExactPathsAnswer", spec := "fnExactPathsAnswer", apart := false }
def FnExactPathsAnswerSaid : Prop := fnExactPathsAnswerRow.holds Try.pinned (OpenSpec.ofChange fnExactPathsAnswerSpec)

/-- ITS FALSE NEIGHBOUR: 'it returns false'. Refute it at one input. -/
def fnExactPathsAnswerWrong : ChangeSpec := { name := "fnExactPathsAnswer", fn := fun _ => fun
  | [d] => { results := [.lit (.bool false)], args := [d] }
  | _ => none }
def FnExactPathsAnswerWrongFalsely : Prop := fnExactPathsAnswerRow.holds Try.pinned (OpenSpec.ofChange fnExactPathsAnswerWrong)

/-- 'laws.FnExactPuzzleSolve': WHATEVER THE INPUT: true; the input reads as it did. -/
def fnExactPuzzleSolveSpec : ChangeSpec := { name := "fnExactPuzzleSolve", fn := fun _ => fun
  | [d1, d2] => { results := [.lit (.bool true)], args := [d1, d2] }
  | _ => none }
def fnExactPuzzleSolveRow : OpenClaim := { program := "ytijkfooafoghjaa", sum := "388e04ff25b55f631e604b2d76daed77294c47bdf0e20fddb6a3d9912ffd5331", func := "loop.example/ringoverlay/laws.FnExactPuzzleSolve", spec := "fnExactPuzzleSolve", unfollowed := true, recurses := true, apart := false }
def FnExactPuzzleSolveSaid : Prop := fnExactPuzzleSolveRow.holds Try.pinned (OpenSpec.ofChange fnExactPuzzleSolveSpec)

/-- ITS FALSE NEIGHBOUR: 'it returns false'. Refute it at one input. -/
def fnExactPuzzleSolveWrong : ChangeSpec := { name := "fnExactPuzzleSolve", fn := fun _ => fun
  | [d1, d2] => { results := [.lit (.bool false)], args := [d1, d2] }
  | _ => none }
def FnExactPuzzleSolveWrongFalsely : Prop := fnExactPuzzleSolveRow.holds Try.pinned (OpenSpec.ofChange fnExactPuzzleSolveWrong)

/-- 'laws.FnPathsAnswer': WHATEVER THE INPUT: true; the input reads as it did. -/
def fnPathsAnswerSpec : ChangeSpec := { name := "fnPathsAnswer", fn := fun _ => fun
  | [d] => { results := [.lit (.bool true)], args := [d] }
  | _ => none }
def fnPathsAnswerRow : OpenClaim := { program := "ytijkfooafoghjaa", sum := "388e04ff25b55f631e604b2d76daed77294c47bdf0e20fddb6a3d9912ffd5331", func := "loop.example/ringoverlay/laws.FnPathsAnswer", spec := "fnPathsAnswer", apart := false }
def FnPathsAnswerSaid : Prop := fnPathsAnswerRow.holds Try.pinned (OpenSpec.ofChange fnPathsAnswerSpec)

/-- ITS FALSE NEIGHBOUR: 'it returns false'. Refute it at one input. -/
def fnPathsAnswerWrong : ChangeSpec := { name := "fnPathsAnswer", fn := fun _ => fun
  | [d] => { results := [.lit (.bool false)], args := [d] }
  | _ => none }
def FnPathsAnswerWrongFalsely : Prop := fnPathsAnswerRow.holds Try.pinned (OpenSpec.ofChange fnPathsAnswerWrong)

/-- 'laws.FnPuzzleHash': WHATEVER THE INPUT: true; the input reads as it did. -/
def fnPuzzleHashSpec : ChangeSpec := { name := "fnPuzzleHash", fn := fun _ => fun
  | [d] => { results := [.lit (.bool true)], args := [d] }
  | _ => none }
def fnPuzzleHashRow : OpenClaim := { program := "ytijkfooafoghjaa", sum := "388e04ff25b55f631e604b2d76daed77294c47bdf0e20fddb6a3d9912ffd5331", func := "loop.example/ringoverlay/laws.FnPuzzleHash", spec := "fnPuzzleHash", unfollowed := true, recurses := true, apart := false }
def FnPuzzleHashSaid : Prop := fnPuzzleHashRow.holds Try.pinned (OpenSpec.ofChange fnPuzzleHashSpec)

/-- ITS FALSE NEIGHBOUR: 'it returns false'. Refute it at one input. -/
def fnPuzzleHashWrong : ChangeSpec := { name := "fnPuzzleHash", fn := fun _ => fun
  | [d] => { results := [.lit (.bool false)], args := [d] }
  | _ => none }
def FnPuzzleHashWrongFalsely : Prop := fnPuzzleHashRow.holds Try.pinned (OpenSpec.ofChange fnPuzzleHashWrong)

/-- 'laws.FnScanValid': WHATEVER THE INPUT: true; the input reads as it did. -/
def fnScanValidSpec : ChangeSpec := { name := "fnScanValid", fn := fun _ => fun
  | [d] => { results := [.lit (.bool true)], args := [d] }
  | _ => none }
def fnScanValidRow : OpenClaim := { program := "ytijkfooafoghjaa", sum := "388e04ff25b55f631e604b2d76daed77294c47bdf0e20fddb6a3d9912ffd5331", func := "loop.example/ringoverlay/laws.FnScanValid", spec := "fnScanValid", apart := false }
def FnScanValidSaid : Prop := fnScanValidRow.holds Try.pinned (OpenSpec.ofChange fnScanValidSpec)

/-- ITS FALSE NEIGHBOUR: 'it returns false'. Refute it at one input. -/
def fnScanValidWrong : ChangeSpec := { name := "fnScanValid", fn := fun _ => fun
  | [d] => { results := [.lit (.bool false)], args := [d] }
  | _ => none }
def FnScanValidWrongFalsely : Prop := fnScanValidRow.holds Try.pinned (OpenSpec.ofChange fnScanValidWrong)

/- THE SECOND FORM. 'bulk': how many values and letters a reading holds, each counted each time it is reached (what is shared counts as often as it is met; a slice's spare places count too). A statement '..UptoSaid' is the law's where the arguments, and the package variables that the reading takes, are together of bulk at most 1048576: NARROWER than '..Said'. Prove '..Said' where nothing that the law and all that it calls make is longer than what came in: it says more and counts as full. Else prove '..UptoSaid'. A law counts once. -/
mutual
def uptoBulk {H : Type} : DataW H → Nat
  | .lit (.string bytes) => bytes.length + 1
  | .lit _ => 1
  | .nil => 1
  | .ptr d => uptoBulk d + 1
  | .slice elems spare => uptoBulkAll elems + uptoBulkAll spare + 1
  | .agg parts => uptoBulkAll parts + 1
  | .iface _ d => uptoBulk d + 1
  | .map entries => uptoBulkEntries entries + 1
  | .held _ => 1
def uptoBulkAll {H : Type} : List (DataW H) → Nat
  | [] => 0
  | d :: r => uptoBulk d + uptoBulkAll r
def uptoBulkEntries {H : Type} : List (Lit × DataW H) → Nat
  | [] => 0
  | x :: r => uptoBulkEntry x + uptoBulkEntries r
def uptoBulkEntry {H : Type} : Lit × DataW H → Nat
  | (.string bytes, d) => bytes.length + uptoBulk d + 1
  | (_, d) => uptoBulk d + 1
 end
def uptoSmall : (H : Type) → List (DataW H) → Bool := fun _ ds => decide (uptoBulkAll ds ≤ 1048576)
def OpenSpec.upto (s : _root_.Go.ChangeSpec) : _root_.Go.OpenSpec := { _root_.Go.OpenSpec.ofChange s with cond := some uptoSmall }

/-- 'laws.FnExactPuzzleHash', WHERE WHAT IT READS IS OF BULK AT MOST 1048576: true; the input reads as it did. -/
def fnExactPuzzleHashUptoRow : OpenClaim := { program := "ytijkfooafoghjaa", sum := "388e04ff25b55f631e604b2d76daed77294c47bdf0e20fddb6a3d9912ffd5331", func := "loop.example/ringoverlay/laws.FnExactPuzzleHash", spec := "fnExactPuzzleHash", unfollowed := true, recurses := true, apart := false, narrowed := true }
def FnExactPuzzleHashUptoSaid : Prop := fnExactPuzzleHashUptoRow.holds Try.pinned (OpenSpec.upto fnExactPuzzleHashSpec)

/-- 'laws.FnExactPuzzleOk', WHERE WHAT IT READS IS OF BULK AT MOST 1048576: true; the input reads as it did. -/
def fnExactPuzzleOkUptoRow : OpenClaim := { program := "ytijkfooafoghjaa", sum := "388e04ff25b55f631e604b2d76daed77294c47bdf0e20fddb6a3d9912ffd5331", func := "loop.example/ringoverlay/laws.FnExactPuzzleOk", spec := "fnExactPuzzleOk", unfollowed := true, recurses := true, apart := false, narrowed := true }
def FnExactPuzzleOkUptoSaid : Prop := fnExactPuzzleOkUptoRow.holds Try.pinned (OpenSpec.upto fnExactPuzzleOkSpec)

/-- 'laws.FnExactPathsAnswer', WHERE WHAT IT READS IS OF BULK AT MOST 1048576: true; the input reads as it did. -/
def fnExactPathsAnswerUptoRow : OpenClaim := { program := "ytijkfooafoghjaa", sum := "388e04ff25b55f631e604b2d76daed77294c47bdf0e20fddb6a3d9912ffd5331", func := "loop.example/ringoverlay/laws.FnExactPathsAnswer", spec := "fnExactPathsAnswer", apart := false, narrowed := true }
def FnExactPathsAnswerUptoSaid : Prop := fnExactPathsAnswerUptoRow.holds Try.pinned (OpenSpec.upto fnExactPathsAnswerSpec)

/-- 'laws.FnExactPuzzleSolve', WHERE WHAT IT READS IS OF BULK AT MOST 1048576: true; the input reads as it did. -/
def fnExactPuzzleSolveUptoRow : OpenClaim := { program := "ytijkfooafoghjaa", sum := "388e04ff25b55f631e604b2d76daed77294c47bdf0e20fddb6a3d9912ffd5331", func := "loop.example/ringoverlay/laws.FnExactPuzzleSolve", spec := "fnExactPuzzleSolve", unfollowed := true, recurses := true, apart := false, narrowed := true }
def FnExactPuzzleSolveUptoSaid : Prop := fnExactPuzzleSolveUptoRow.holds Try.pinned (OpenSpec.upto fnExactPuzzleSolveSpec)

/-- 'laws.FnPathsAnswer', WHERE WHAT IT READS IS OF BULK AT MOST 1048576: true; the input reads as it did. -/
def fnPathsAnswerUptoRow : OpenClaim := { program := "ytijkfooafoghjaa", sum := "388e04ff25b55f631e604b2d76daed77294c47bdf0e20fddb6a3d9912ffd5331", func := "loop.example/ringoverlay/laws.FnPathsAnswer", spec := "fnPathsAnswer", apart := false, narrowed := true }
def FnPathsAnswerUptoSaid : Prop := fnPathsAnswerUptoRow.holds Try.pinned (OpenSpec.upto fnPathsAnswerSpec)

/-- 'laws.FnPuzzleHash', WHERE WHAT IT READS IS OF BULK AT MOST 1048576: true; the input reads as it did. -/
def fnPuzzleHashUptoRow : OpenClaim := { program := "ytijkfooafoghjaa", sum := "388e04ff25b55f631e604b2d76daed77294c47bdf0e20fddb6a3d9912ffd5331", func := "loop.example/ringoverlay/laws.FnPuzzleHash", spec := "fnPuzzleHash", unfollowed := true, recurses := true, apart := false, narrowed := true }
def FnPuzzleHashUptoSaid : Prop := fnPuzzleHashUptoRow.holds Try.pinned (OpenSpec.upto fnPuzzleHashSpec)

/-- 'laws.FnScanValid', WHERE WHAT IT READS IS OF BULK AT MOST 1048576: true; the input reads as it did. -/
def fnScanValidUptoRow : OpenClaim := { program := "ytijkfooafoghjaa", sum := "388e04ff25b55f631e604b2d76daed77294c47bdf0e20fddb6a3d9912ffd5331", func := "loop.example/ringoverlay/laws.FnScanValid", spec := "fnScanValid", apart := false, narrowed := true }
def FnScanValidUptoSaid : Prop := fnScanValidUptoRow.holds Try.pinned (OpenSpec.upto fnScanValidSpec)

end Rows
end Go.Proofs.Ytijkfooafoghjaa
