/- Contracts of the functions on puzzles. Conditions: those that each row states. -/
import Derived.Test.YtlpefeeadeocgaaSc
import Derived.Test.YtlpefeeadeocgaaPzM
namespace Go.Proofs.Ytlpefeeadeocgaa
open Go Go.Ro

section
variable {e w : World} {G : View} {L : Own} {C : World → Prop}

end
end Go.Proofs.Ytlpefeeadeocgaa