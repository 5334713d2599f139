/- Contracts of the specification's steps of a ring. Conditions: those that each row states. -/
import Derived.Test.YtjfjnmbgimfmaaaRi
namespace Go.Proofs.Ytjfjnmbgimfmaaa
open Go Go.Ro

section
variable {e w : World} {G : View} {L : Own} {v u : Value} {xs ys ks : List Int} {ls : List Ls} {rs : List Rn} {a b k : Int}

theorem hal_of (h : RgOk (rgl rs)) : ∀ x ∈ rs, x.2.2.2.length ≤ 1000 := fun x hx => by
  have := (h.2.1 _ (List.mem_map.2 ⟨x, hx, rfl⟩)).2.2.1
  simp only [nd] at this; omega
theorem len_of (h : RgOk (rgl rs)) : rs.length ≤ 10 := (rgOk_iff.1 h).1

end
end Go.Proofs.Ytjfjnmbgimfmaaa