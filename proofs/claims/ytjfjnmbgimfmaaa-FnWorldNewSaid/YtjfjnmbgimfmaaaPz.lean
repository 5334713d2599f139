/- Contracts of the functions on puzzles. Conditions: those that each row states. -/
import Derived.Test.YtjfjnmbgimfmaaaSc
import Derived.Test.YtjfjnmbgimfmaaaPzM
namespace Go.Proofs.Ytjfjnmbgimfmaaa
open Go Go.Ro

section
variable {e w : World} {G : View} {L : Own} {C : World → Prop}

end
end Go.Proofs.Ytjfjnmbgimfmaaa