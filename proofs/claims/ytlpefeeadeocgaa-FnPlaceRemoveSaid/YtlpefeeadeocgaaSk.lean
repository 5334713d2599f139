/- Contracts of the functions on scans. Conditions: those that each row states. -/
import Derived.Test.YtlpefeeadeocgaaSn
namespace Go.Proofs.Ytlpefeeadeocgaa
open Go Go.Ro

section
variable {e w : World} {G : View} {L A : Own} {v u t : Value} {xs ys ks ts : List Int} {ls : List Ls} {n : Int}

end
end Go.Proofs.Ytlpefeeadeocgaa