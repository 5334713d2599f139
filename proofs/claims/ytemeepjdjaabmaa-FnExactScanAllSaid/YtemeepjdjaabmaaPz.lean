/- Contracts of the functions on puzzles. Conditions: those that each row states. -/
import Derived.Test.YtemeepjdjaabmaaSc
import Derived.Test.YtemeepjdjaabmaaPzM
namespace Go.Proofs.Ytemeepjdjaabmaa
open Go Go.Ro

section
variable {e w : World} {G : View} {L : Own} {C : World → Prop}

end
end Go.Proofs.Ytemeepjdjaabmaa