/- The laws on puzzles: what each returns. Conditions: those that each row states. -/
import Derived.Test.YtijkfooafoghjaaPz
import Derived.Test.YtijkfooafoghjaaFin
namespace Go.Proofs.Ytijkfooafoghjaa
open Go Go.Ro

section
variable {e w : World} {G : View} {L : Own} {C : World → Prop}

theorem FnExactPuzzleHash_c (hK : K e w G L) {id nonce : Int} : Ret Try.prog 3 #[.int .i64 id, .int .i64 nonce] w (fun r w' => r = .bool true ∧ K e w' G L) := by
  refine enter1 (args := [.int .i64 id, .int .i64 nonce]) Try.func3 rfl rfl rfl rfl ?_
  refine sq <| rg <| ?_
  refine vl (asv (v := .bool _) rfl) <| nl <| thn <| sq <| rg <| vl (mvv (v := .int _ _) rfl) <| vl (mvv (v := .int _ _) rfl) <| ?_
  refine cl Try.call10 rfl (specPuzzleHash_c (C := fun w => K e w G L) hK) ?_
  rintro _ w ⟨rfl, hK⟩
  refine vl (asv (v := .int _ _) rfl) <| nl <| thn <| sq <| rg <| vl (mvv (v := .int _ _) rfl) <| vl (mvv (v := .int _ _) rfl) <| ?_
  refine cl Try.call11 rfl (implPuzzleHash_c hK) ?_
  rintro _ w ⟨rfl, hK⟩
  refine vl (asv (v := .int _ _) rfl) <| nl <| thn <| sq <| sq <| rg <| vl (mvv (v := .int _ _) rfl) <| vl (mvv (v := .int _ _) rfl) <| vl (ne rfl rfl) <| nl <| thn <| ?_
  refine cdP rfl (fun h => ?_) (fun h => ?_)
  · exact absurd rfl h
  · have _ := trivial
    refine sk <| thn <| sq <| rg <| ?_
    refine vl (asv (v := .bool _) rfl) <| nl <| thn <| rt <| p1r (a := .bool _) rfl <| ?_
    exact ⟨rfl, hK⟩

theorem FnExactPuzzleOk_c (hK : K e w G L) {id nonce bits : Int} : Ret Try.prog 4 #[.int .i64 id, .int .i64 nonce, .int .i64 bits] w (fun r w' => r = .bool true ∧ K e w' G L) := by
  refine enter1 (args := [.int .i64 id, .int .i64 nonce, .int .i64 bits]) Try.func4 rfl rfl rfl rfl ?_
  refine sq <| rg <| ?_
  refine vl (asv (v := .bool _) rfl) <| nl <| thn <| sq <| rg <| vl (mvv (v := .int _ _) rfl) <| vl (mvv (v := .int _ _) rfl) <| vl (mvv (v := .int _ _) rfl) <| ?_
  refine cl Try.call12 rfl (specPuzzleOk_c (C := fun w => K e w G L) hK) ?_
  rintro _ w ⟨rfl, hK⟩
  refine vl (asv (v := .bool _) rfl) <| nl <| thn <| sq <| rg <| vl (mvv (v := .int _ _) rfl) <| vl (mvv (v := .int _ _) rfl) <| vl (mvv (v := .int _ _) rfl) <| ?_
  refine cl Try.call13 rfl (implPuzzleOk_c hK) ?_
  rintro _ w ⟨rfl, hK⟩
  refine vl (asv (v := .bool _) rfl) <| nl <| thn <| sq <| sq <| rg <| vl (mvv (v := .bool _) rfl) <| vl (mvv (v := .bool _) rfl) <| vl (neB Try.underlying4 rfl rfl) <| nl <| thn <| ?_
  refine cdB rfl (fun h => ?_) (fun h => ?_)
  · simp at h
  · have _ := trivial
    refine sk <| thn <| sq <| rg <| ?_
    refine vl (asv (v := .bool _) rfl) <| nl <| thn <| rt <| p1r (a := .bool _) rfl <| ?_
    exact ⟨rfl, hK⟩

theorem FnExactPuzzleSolve_c (hK : K e w G L) {id bits : Int} : Ret Try.prog 6 #[.int .i64 id, .int .i64 bits] w (fun r w' => r = .bool true ∧ K e w' G L) := by
  refine enter1 (args := [.int .i64 id, .int .i64 bits]) Try.func6 rfl rfl rfl rfl ?_
  refine sq <| rg <| ?_
  refine vl (asv (v := .bool _) rfl) <| nl <| thn <| sq <| rg <| vl (mvv (v := .int _ _) rfl) <| vl (mvv (v := .int _ _) rfl) <| ?_
  refine cl Try.call18 rfl (specPuzzleSolve_c (C := fun w => K e w G L) hK) ?_
  rintro _ w ⟨⟨s1, rfl, hs1⟩, hK⟩
  refine vl (asv (v := .int _ _) rfl) <| nl <| thn <| sq <| rg <| vl (mvv (v := .int _ _) rfl) <| vl (mvv (v := .int _ _) rfl) <| ?_
  refine cl Try.call19 rfl (implPuzzleSolve_c hK) ?_
  rintro _ w ⟨⟨s2, rfl, hs2⟩, hK⟩
  refine vl (asv (v := .int _ _) rfl) <| nl <| thn <| sq <| sq <| rg <| vl (mvv (v := .int _ _) rfl) <| vl (mvv (v := .int _ _) rfl) <| vl (ne rfl rfl) <| nl <| thn <| ?_
  refine cdP rfl (fun h => ?_) (fun h => ?_)
  · exact absurd (hs2.uniq hs1) h
  · have _ := trivial
    refine sk <| thn <| sq <| rg <| ?_
    refine vl (asv (v := .bool _) rfl) <| nl <| thn <| rt <| p1r (a := .bool _) rfl <| ?_
    exact ⟨rfl, hK⟩
end
end Go.Proofs.Ytijkfooafoghjaa
