/- Contracts: the two NodesValid. Conditions: those that each row states. -/
import Derived.Test.YtlpefeeadeocgaaSn
import Derived.Test.YtlpefeeadeocgaaWdM
namespace Go.Proofs.Ytlpefeeadeocgaa
open Go Go.Ro

section
variable {e w : World} {G : View} {L A : Own} {v u : Value} {xs ys : List Int}

theorem specNodesValid_c (hK : K e w G L) (hv : IntS G v xs) : Ret Try.prog 18 #[v] w (fun r w' => r = .bool (dec (NdsOk xs)) ∧ K e w' G L) := by
 have hle := hv.le
 refine enter1 (args := [v]) Try.func18 rfl rfl rfl rfl ?_
 refine sq <| rg <| ?_
 refine vl (aB rfl) <| nl <| thn <| sq <| rg <| vl mv <| vl (ln Try.underlying23 rfl hv.len) <| ?_
 refine cl Try.call19 rfl (l6In_c (C := fun w => K _ w _ _) hK) ?_
 rintro _ w ⟨rfl, hK⟩
 refine vl (mB rfl) <| ?_
 refine splP (t := 6) rfl (fun h1 => ?_) (fun h1 => ?_)
 ·refine gy rfl <| vl mv <| gy rfl <| ?_
  refine cl Try.call31 rfl (l1Nodes_c hK (by assumption)) ?_
  rintro _ w ⟨rfl, hK⟩
  refine vl (pk rfl) <| vl (aB rfl) <| nl <| thn <| rt <| p1r (a := .bool _) rfl <| ?_
  exact ⟨congrArg Value.bool (dec_congr ⟨fun h => ⟨by omega, h⟩, fun h => h.2⟩), hK⟩
 ·refine gn rfl <| gn rfl <| vl (pk rfl) <| vl (aB rfl) <| nl <| thn <| rt <| p1r (a := .bool _) rfl <| ?_
  exact ⟨by rw [dec_f fun h => h1 (by have := h.1; omega)], hK⟩
theorem implNodesValid_c (hK : K e w G L) (hv : IntS G v xs) : Ret Try.prog 14 #[v] w (fun r w' => r = .bool (dec (NdsOk xs)) ∧ K e w' G L) := by
 have hle := hv.le
 refine enter1 (args := [v]) Try.func14 rfl rfl rfl rfl ?_
 refine sq <| rg <| ?_
 refine vl (aB rfl) <| nl <| thn <| sq <| rg <| vl mv <| vl (ln Try.underlying23 rfl hv.len) <| ?_
 refine cl Try.call26 rfl (inRange_c (C := fun w => K _ w _ _) hK) ?_
 rintro _ w ⟨rfl, hK⟩
 refine vl (mB rfl) <| ?_
 refine splP (t := 6) rfl (fun h1 => ?_) (fun h1 => ?_)
 ·refine gy rfl <| vl mv <| gy rfl <| ?_
  refine cl Try.call27 rfl (ascendingPositions_c hK (by assumption)) ?_
  rintro _ w ⟨rfl, hK⟩
  refine vl (pk rfl) <| vl (aB rfl) <| nl <| thn <| rt <| p1r (a := .bool _) rfl <| ?_
  exact ⟨congrArg Value.bool (dec_congr ⟨fun h => ⟨by omega, h⟩, fun h => h.2⟩), hK⟩
 ·refine gn rfl <| gn rfl <| vl (pk rfl) <| vl (aB rfl) <| nl <| thn <| rt <| p1r (a := .bool _) rfl <| ?_
  exact ⟨by rw [dec_f fun h => h1 (by have := h.1; omega)], hK⟩

end
end Go.Proofs.Ytlpefeeadeocgaa
