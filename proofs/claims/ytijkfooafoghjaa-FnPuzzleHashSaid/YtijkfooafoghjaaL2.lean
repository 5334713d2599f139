/- The laws on drawn puzzles: what each returns. Conditions: those that each row states. -/
import Derived.Test.YtijkfooafoghjaaDr
namespace Go.Proofs.Ytijkfooafoghjaa
open Go Go.Ro

section
variable {e w : World} {G : View} {L : Own} {cva : Value} {code : List Int}

theorem FnPuzzleHash_c (hK : K e w G L) (hc : BytS G cva code) : Ret Try.prog 8 #[cva] w (fun r w' => r = .bool true ∧ K e w' G L) := by
  refine enter1 (args := [cva]) Try.func8 rfl rfl rfl rfl ?_
  refine sq <| rg <| ?_
  refine vl (asv (v := .bool _) rfl) <| nl <| thn <| sq <| sq <| rg <| vl mv <| vl (ln Try.underlying30 rfl hc.len) <| vl (gt rfl rfl) <| nl <| thn <| ?_
  refine cdP rfl (fun hbig => ?_) (fun hbig => ?_)
  · refine sq <| rg <| ?_
    refine vl (asv (v := .bool _) rfl) <| nl <| thn <| rt <| thr <| p1r (a := .bool _) rfl <| ?_
    exact ⟨rfl, hK⟩
  · refine sk <| thn <| sq <| rg <| ?_
    refine vl mv <| ?_
    refine cl Try.call22 rfl (DrawPuzzleHash_c hK hc) ?_
    rintro _ w ⟨da, db, rfl, hK⟩
    refine vl mv <| vl (ext rfl rfl) <| vl (ext rfl rfl) <| vl (asv (v := .int _ _) rfl) <| vl (asv (v := .int _ _) rfl) <| nl <| thn <| sq <| rg <| vl (mvv (v := .int _ _) rfl) <| vl (mvv (v := .int _ _) rfl) <| ?_
    refine cl Try.call11 rfl (implPuzzleHash_c hK) ?_
    rintro _ w ⟨rfl, hK⟩
    refine vl (asv (v := .int _ _) rfl) <| nl <| thn <| sq <| rg <| vl (mvv (v := .int _ _) rfl) <| vl (mvv (v := .int _ _) rfl) <| ?_
    refine cl Try.call10 rfl (specPuzzleHash_c (C := fun w => K _ w _ _) hK) ?_
    rintro _ w ⟨rfl, hK⟩
    refine vl (asv (v := .int _ _) rfl) <| nl <| thn <| sq <| sq <| rg <| vl (mvv (v := .int _ _) rfl) <| vl (mvv (v := .int _ _) rfl) <| vl (ne rfl rfl) <| nl <| thn <| ?_
    refine cdP rfl (fun h => ?_) (fun h => ?_)
    · exact absurd rfl h
    · have _ := trivial
      refine sk <| thn <| sq <| ?_
      have hv := pzHash_bd da db
      have hvv : (pzVal da db = pzHash da db ∧ (0 ≤ da ∧ da ≤ 63) ∧ 0 ≤ db ∧ db ≤ 255) ∨ (pzVal da db = -1 ∧ ¬ ((0 ≤ da ∧ da ≤ 63) ∧ 0 ≤ db ∧ db ≤ 255)) := by
        unfold pzVal; split
        · exact .inl ⟨rfl, ‹_›⟩
        · exact .inr ⟨rfl, ‹_›⟩
      generalize pzVal da db = v at hvv
      refine ct (σ := Bool) (fun b => [(5, .int .i64 v), (7, .bool b)]) (fun b w => b = decide ((0 ≤ da ∧ da ≤ 63) ∧ 0 ≤ db ∧ db ≤ 255) ∧ K e w G L) ?_ ?_
      · refine rg <| ?_
        refine vl (mvv (v := .int _ _) rfl) <| ?_
        refine cl Try.call23 rfl (isPoint_c (C := fun w => K _ w _ _) hK) ?_
        rintro _ w ⟨rfl, hK⟩
        refine vl (mvv (v := .bool _) rfl) <| ?_
        refine splP (t := 30) rfl (fun h1 => ?_) (fun h1 => ?_)
        · refine gy rfl <| vl (mvv (v := .int _ _) rfl) <| gy rfl <| vl (ge rfl rfl) <| vl (pk rfl) <| vl (mvv (v := .bool _) rfl) <| ?_
          refine splP (t := 34) rfl (fun h2 => ?_) (fun h2 => ?_)
          · refine gy rfl <| vl (mvv (v := .int _ _) rfl) <| gy rfl <| vl (le rfl rfl) <| vl (pk rfl) <| vl (asv (v := .bool _) rfl) <| nl <| ctn <| ?_
            exact ⟨_, ⟨rfl, rfl, trivial⟩, by simp [h1, h2], hK⟩
          · refine gn rfl <| gn rfl <| vl (pk rfl) <| vl (asv (v := .bool _) rfl) <| nl <| ctn <| ?_
            exact ⟨_, ⟨rfl, rfl, trivial⟩, by simp [h1, h2], hK⟩
        · refine gn rfl <| gn rfl <| vl (pk rfl) <| vl (mvv (v := .bool _) rfl) <| gn rfl <| gn rfl <| vl (pk rfl) <| vl (asv (v := .bool _) rfl) <| nl <| ctn <| ?_
          exact ⟨_, ⟨rfl, rfl, trivial⟩, by simp [h1], hK⟩
      · rintro b g w ⟨rfl, hK⟩
        refine thn <| sq <| rg <| ?_
        refine vl (mvv (v := .bool _) rfl) <| vl (mvv (v := .int _ _) rfl) <| vl (ge rfl rfl) <| vl (eqB Try.underlying4 rfl rfl) <| vl (mvv (v := .bool _) rfl) <| ?_
        refine spl (t := 42) rfl (fun h1 => ?_) (fun h1 => ?_)
        · refine gy rfl <| vl (mvv (v := .int _ _) rfl) <| gy rfl <| vl (lt rfl rfl) <| vl (pk rfl) <| vl (mvv (v := .bool _) rfl) <| ?_
          refine splP (t := 46) rfl (fun h2 => ?_) (fun h2 => ?_)
          · refine gy rfl <| vl (mvv (v := .int _ _) rfl) <| gy rfl <| vl (ge rfl rfl) <| vl (pk rfl) <| vl (asv (v := .bool _) rfl) <| nl <| thn <| rt <| p1r (a := .bool _) rfl <| ?_
            exact ⟨by simp; omega, hK⟩
          · exfalso; omega
        · exfalso
          simp only [beq_eq_false_iff_ne, ne_eq, decide_eq_decide] at h1
          omega

end
end Go.Proofs.Ytijkfooafoghjaa