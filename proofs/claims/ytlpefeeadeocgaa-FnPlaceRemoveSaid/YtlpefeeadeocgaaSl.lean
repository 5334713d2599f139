/- Contracts of the steps of a scan and of whole scans. Conditions: those that each row states. -/
import Derived.Test.YtlpefeeadeocgaaSk
namespace Go.Proofs.Ytlpefeeadeocgaa
open Go Go.Ro

section
variable {e w : World} {G : View} {L A : Own} {v u t t2 : Value} {xs ys ks ts us : List Int} {ls : List Ls} {n m : Int}

end
end Go.Proofs.Ytlpefeeadeocgaa