/- Contracts of the functions that copy, compare and mark leases and scans. Conditions: those that each row states. -/
import Derived.Test.YtjfjnmbgimfmaaaGreatSl
import Derived.Test.YtjfjnmbgimfmaaaGreatIn
namespace Go.Proofs.YtjfjnmbgimfmaaaGreat
open Go Go.Ro

section
variable {e w : World} {G : View} {L A : Own} {v u t t2 : Value} {xs ys ks ts us : List Int} {ls ms : List Ls} {n m k : Int}

end
end Go.Proofs.YtjfjnmbgimfmaaaGreat