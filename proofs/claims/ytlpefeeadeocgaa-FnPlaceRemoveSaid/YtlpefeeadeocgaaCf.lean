/- Contracts of the library's functions on slices of numbers. Conditions: those that each row states. -/
import Derived.Test.YtlpefeeadeocgaaIn
import Derived.Test.YtlpefeeadeocgaaSs
import Derived.Test.YtlpefeeadeocgaaPsM
namespace Go.Proofs.Ytlpefeeadeocgaa
open Go Go.Ro

section
variable {e w : World} {G : View} {L : Own} {v u : Value} {xs ys : List Int}

end
end Go.Proofs.Ytlpefeeadeocgaa